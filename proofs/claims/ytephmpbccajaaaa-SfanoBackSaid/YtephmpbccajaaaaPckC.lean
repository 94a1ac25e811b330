/- Pack, the program's and the document's, and the law. No condition. -/
import Derived.Test.YtephmpbccajaaaaPckB
namespace Go.Proofs.Ytephmpbccajaaaa.Gx
open Go Go.RowKit
set_option linter.unusedVariables false
set_option linter.unusedSimpArgs false
theorem count_loop {a : Sl} {zs : List Int} (hm : zs.length ≤ 1000000) (R : Nat) {i : Nat} (hi : i < zs.length) : ∀ (n c : Nat), 1 ≤ c → c ≤ 16 → i + c ≤ zs.length → 16 < n + c →
    ∃ c' : Nat, 1 ≤ c' ∧ c' ≤ 16 ∧ i + c' ≤ zs.length ∧ goP (c : Nat) (zs.getD i 0 :: zs.drop (i + c)) = rowB (c' : Nat) (zs.getD i 0) :: goP 1 (zs.drop (i + c')) ∧
      ∀ (h : GH) (out : Sl), Rdi h a zs → ∀ (β : Type) (F1 : Sl → GH → (Bool → GH → Option β) → Option β) (K2 : Sl → Sl → Int → Int → GH → Option β), F_sfano_Pack_l1 F1 R n a out (i : Nat) (c : Nat) h K2 = K2 a out (i : Nat) (c' : Nat) h := by
  intro n
  induction n with
  | zero => intro c h1 h2 h3 h4; omega
  | succ n ih =>
    intro c h1 h2 h3 h4
    by_cases c16 : c < 16
    · by_cases hl : i + c < zs.length
      · have hg := getD_drop hl
        have e1 : IntKind.wrap .i64 (((i : Nat) : Int) + ((c : Nat) : Int)) = ((i + c : Nat) : Int) := by rw [i64w (by omega)]; omega
        by_cases he : zs.getD (i + c) 0 = zs.getD i 0
        · obtain ⟨c', q1, q2, q3, q4, q5⟩ := ih (c + 1) (by omega) (by omega) (by omega) (by omega)
          refine ⟨c', q1, q2, q3, ?_, fun h out r β F1 K2 => ?_⟩
          · rw [hg, goP, if_pos ⟨he, by omega⟩, he, ← q4]; rfl
          · have hn := r.ni
            have hin : ∀ {β : Type} (j : Nat), within ((j : Nat) : Int) zs.length (β := β) = within ((j : Nat) : Int) a.n := by intro β j; rw [hn]
            rw [F_sfano_Pack_l1_succ]
            simp only [e1, hn, cond_dec, hin, Int.toNat_natCast, r.intN hi, r.intN hl, beq_int]
            rw [if_pos (by omega), if_pos (by omega), if_pos he, i64w (by omega)]; exact q5 h out r β F1 K2
        · refine ⟨c, h1, h2, h3, ?_, fun h out r β F1 K2 => ?_⟩
          · rw [hg, goP, if_neg (fun q => he q.1)]
          · have hn := r.ni
            have hin : ∀ {β : Type} (j : Nat), within ((j : Nat) : Int) zs.length (β := β) = within ((j : Nat) : Int) a.n := by intro β j; rw [hn]
            rw [F_sfano_Pack_l1_succ]
            simp only [e1, hn, cond_dec, hin, Int.toNat_natCast, r.intN hi, r.intN hl, beq_int]
            rw [if_pos (by omega), if_pos (by omega), if_neg he]
      · refine ⟨c, h1, h2, h3, ?_, fun h out r β F1 K2 => ?_⟩
        · rw [List.drop_eq_nil_of_le (by omega)]; rfl
        · rw [F_sfano_Pack_l1_succ, r.ni, decT (by omega), condT, decF (by rw [i64w (by omega)]; omega), condF]
    · refine ⟨c, h1, h2, h3, ?_, fun h out r β F1 K2 => ?_⟩
      · cases hd : zs.drop (i + c) with
        | nil => rfl
        | cons y l => rw [goP, if_neg (by omega)]
      · rw [F_sfano_Pack_l1_succ, decF (by omega), condF]
theorem pack_loop {a : Sl} {zs : List Int} (hx : ∀ x ∈ zs, lenP x) (hm : zs.length ≤ 1000000) (R : Nat) (hR : 20 < R) : ∀ (n i : Nat) {h : GH} {out : Sl} {bs : List Int}, Rdi h a zs → i ≤ zs.length → zs.length < n + i → Bv h out bs → bs.length ≤ i + 1 → (∀ k ∈ rowsOf out, k ∉ rowsOf a) →
    ∃ h' q, (∀ (β : Type) (F1 : Sl → GH → (Bool → GH → Option β) → Option β) (K0 : Sl → GH → Option β), F_sfano_Pack_l0 F1 R n a out (i : Nat) h K0 = K0 q h') ∧ Bv h' q (bs ++ goP 1 (zs.drop i)) ∧ Keep h h' (rowsOf out) ∧ (∀ k ∈ rowsOf q, k ∈ rowsOf out ∨ h.next ≤ k) := by
  intro n
  induction n with
  | zero => intro i h out bs r h1 h2; omega
  | succ n ih =>
    intro i h out bs r h1 h2 v hb hd
    have hn := r.ni
    by_cases hi : i < zs.length
    · have hg := getD_drop hi
      have hl : lenP (zs.getD i 0) := hx _ (by
        have : zs.getD i 0 ∈ zs.drop i := by rw [hg]; exact List.mem_cons_self
        exact List.mem_of_mem_drop this)
      obtain ⟨c, c1, c2, c3, c4, c5⟩ := count_loop (a := a) hm R hi R 1 (by omega) (by omega) (by omega) (by omega)
      obtain ⟨h3, s3, e3, v3, k3, n3⟩ := app_byte v (rowB (c : Nat) (zs.getD i 0)) (by omega)
      obtain ⟨h4, q, e4, v4, k4, n4⟩ := ih (i + c) (r.keep k3 fun x hx hm => hd x hm hx) (by omega) (by omega) v3 (by simp; omega) (fun k hk hm => by
          rcases n3 k hk with q | q
          · exact hd k q hm
          · have := r.lt k hm; omega)
      refine ⟨h4, q, fun β F1 K0 => ?_, ?_, k3.trans k4 (fun k hk => n3 k hk), fun k hk => ?_⟩
      · rw [F_sfano_Pack_l0_succ, hn, decT (by omega), condT]
        have := c5 h out r β F1
        rw [show ((1 : Nat) : Int) = 1 from rfl] at this
        rw [this]
        simp only [Int.toNat_natCast, r.intN hi]
        rw [row_prog (by omega) hl, e3, show IntKind.wrap .i64 (((i : Nat) : Int) + ((c : Nat) : Int)) = ((i + c : Nat) : Int) by rw [i64w (by omega)]; omega]
        exact e4 _ _ _
      · rw [hg]; rw [show ((1 : Nat) : Int) = 1 from rfl] at c4; rw [c4]; simpa using v4
      · rcases n4 k hk with q | q
        · exact n3 k q
        · have := k3.1; exact .inr (by omega)
    · have hnil : zs.drop i = [] := List.drop_eq_nil_of_le (by omega)
      refine ⟨h, out, fun β F1 K0 => ?_, by rw [hnil]; simpa [goP] using v, .refl _ _, fun k hk => .inl hk⟩
      rw [F_sfano_Pack_l0_succ, hn, decF (by omega), condF]
/-- what lengths are as bytes -/
def packP (zs : List Int) : List Int := if rightP zs = true then IntKind.wrap .u8 (((goP 1 zs).length : Nat) - 1 : Int) :: goP 1 zs else []
def packE (zs : List Int) : Int := if rightP zs = true then 0 else 2
theorem rightP_all {zs : List Int} (h : rightP zs = true) : ∀ x ∈ zs, lenP x := (of_decide_eq_true h).2.2
theorem prog_pack {h : GH} {a : Sl} {zs : List Int} (r : Rdi h a zs) (hm : zs.length ≤ 1000000) {R : Nat} (hR : 4000000 < R) : ∃ h' q, Keep h h' [] ∧ Rd h' q (packP zs) ∧ (∀ k ∈ rowsOf q, h.next ≤ k) ∧ ∀ (β : Type) (K : Sl → Int → GH → Option β), F_sfano_Pack R a h K = K q (packE zs) h' := by
  cases hr : rightP zs with
  | false =>
    refine ⟨h, ⟨none, 0, 0⟩, .refl _ _, by simp [packP, hr]; exact Row.nil, by simp [rowsOf], fun β K => ?_⟩
    unfold F_sfano_Pack; rw [F_sfano_Pack_gen, right_eq r hm hR, hr, packE, hr]; rfl
  | true =>
    have k0 := keep_push h (.row ⟨u8s [0], 1, false⟩) []
    have v0 : Bv (h.push (.row ⟨u8s [0], 1, false⟩)) ⟨some ⟨h.next, 0, none⟩, 1, 1⟩ [0] := Vec.new rfl rfl
    obtain ⟨h1, q, e1, v1, k1, n1⟩ := pack_loop (a := a) (rightP_all hr) hm R (by omega) R 0 (r.keep k0 (by simp)) (by omega) (by omega) v0 (by simp) (fun k hk hm => by simp [rowsOf] at hk; subst hk; have := r.lt _ hm; omega)
    rw [List.drop_zero] at v1
    have hlen := goP_len zs 1
    have hqn := v1.n
    rw [List.length_append, List.length_singleton] at hqn
    obtain ⟨g, hga, hgl⟩ : ∃ g, q.a = some ⟨g, 0, none⟩ ∧ h1.look g = some (.row ⟨u8s ([0] ++ goP 1 zs), 1, false⟩) := by
      rcases v1.at_ with ⟨_, q0⟩ | q
      · omega
      · exact q
    have hgn : h.next ≤ g := by
      rcases n1 g (by simp [rowsOf, hga]) with q | q
      · simp [rowsOf] at q; omega
      · have := k0.1; omega
    have k2 := keep_put h1 g (some (.row ⟨u8s (packP zs), 1, false⟩))
    refine ⟨_, q, (k0.trans k1 (fun k hk => by simp [rowsOf] at hk; exact .inr (by omega))).trans k2 (fun k hk => by simp at hk; exact .inr (by omega)), ?_, fun k hk => ?_, fun β K => ?_⟩
    · refine ⟨?_, by rw [v1.c]; exact Nat.le_refl _, .inr ⟨g, 0, _, hga, look_put_same (look_lt hgl), by simp, by simp⟩⟩
      rw [u8s_length]; simp [packP, hr]; omega
    · simp [rowsOf, hga] at hk; omega
    · unfold F_sfano_Pack; rw [F_sfano_Pack_gen, right_eq r hm hR, hr, packE, hr, if_pos rfl]
      simp only [Bool.not_true, condF]
      rw [gnew_eq rfl]
      have := e1 β (F_sfano_right R)
      rw [show ((0 : Nat) : Int) = 0 from rfl] at this
      refine Eq.trans (this _) ?_
      rw [hga]; simp only [exA_s]
      rw [within_t (by omega) (by omega), gput_eq hgl rfl (by simp [u8s])]
      have hp : nlay (u8s ([0] ++ goP 1 zs)) (0 + (0 : Int).toNat * 1) [Value.int .u8 (IntKind.wrap .u8 (IntKind.wrap .i64 (((q.n : Nat) : Int) - 2)))] = u8s (packP zs) := by
        rw [i64w (by omega), nlay_def, packP, if_pos hr, hqn, show (((1 + (goP 1 zs).length : Nat) : Int) - 2) = (((goP 1 zs).length : Nat) - 1 : Int) by omega]
        simp [u8s]
      rw [hp]
theorem ref_pack {h : GH} {a : Sl} {zs : List Int} (r : Rdi h a zs) (hm : zs.length ≤ 1000000) {R : Nat} (hR : 4000000 < R) : ∃ h' q, Keep h h' [] ∧ Rd h' q (packP zs) ∧ (∀ k ∈ rowsOf q, h.next ≤ k) ∧ ∀ (β : Type) (K : Sl → Int → GH → Option β), F_ref06_Pack R a h K = K q (packE zs) h' := by
  cases hr : rightP zs with
  | false =>
    refine ⟨h, ⟨none, 0, 0⟩, .refl _ _, by simp [packP, hr]; exact Row.nil, by simp [rowsOf], fun β K => ?_⟩
    unfold F_ref06_Pack; rw [F_ref06_Pack_gen, may_eq r hm hR, hr, packE, hr]; rfl
  | true =>
    have v0 : Bv h ⟨none, 0, 0⟩ [] := Vec.nil
    obtain ⟨h1, q, e1, v1, k1, n1⟩ := refpack_loop (a := a) (rightP_all hr) hm R R 0 r (by omega) (by omega) (cnt := 1) (by omega) v0 (by simp) (by simp [rowsOf])
    rw [List.drop_zero, List.nil_append] at v1
    have hlen := goP_len zs 1
    have hqn := v1.n
    have k2 := keep_push h1 (.row ⟨u8s [IntKind.wrap .u8 (((goP 1 zs).length : Nat) - 1 : Int)], 1, false⟩) []
    have v2 : Bv (h1.push (.row ⟨u8s [IntKind.wrap .u8 (((goP 1 zs).length : Nat) - 1 : Int)], 1, false⟩)) ⟨some ⟨h1.next, 0, none⟩, 1, 1⟩ [IntKind.wrap .u8 (((goP 1 zs).length : Nat) - 1 : Int)] := Vec.new rfl rfl
    obtain ⟨h3, q3, e3, v3, k3, n3⟩ := app_bytes v2 ((v1.row).keep k2 (by simp)) (by simp; omega)
    have kk : Keep h h1 [] := by simpa [rowsOf] using k1
    refine ⟨h3, q3, (kk.trans k2 (by simp)).trans k3 (fun k hk => by simp [rowsOf] at hk; have := kk.1; exact .inr (by omega)), ?_, fun k hk => ?_, fun β K => ?_⟩
    · have := v3.row; simp only [packP, hr, if_true]; simpa using this
    · have := kk.1
      have := k2.1
      rcases n3 k hk with q | q
      · simp [rowsOf] at q; omega
      · omega
    · unfold F_ref06_Pack; rw [F_ref06_Pack_gen, may_eq r hm hR, hr, packE, hr, if_pos rfl]
      simp only [Bool.not_true, condF]
      have := e1 β (F_ref06_May R)
      rw [show ((0 : Nat) : Int) = 0 from rfl] at this
      refine Eq.trans (this _) ?_
      rw [hqn, i64w (by omega), gnew_eq rfl]
      exact e3 _ _
theorem same_loop {h : GH} {a b : Sl} {bs : List Int} (r : Rd h a bs) (r2 : Rd h b bs) (hm : bs.length ≤ 1000000) (R : Nat) : ∀ (n i : Nat), i ≤ bs.length → bs.length < n + i → ∀ {β : Type} (K0 : GH → Option β) (Kr : Bool → GH → Option β), F_ref01_Same_l0 R n a b (i : Nat) h K0 Kr = K0 h
  | 0, i, h1, h2, β, K0, Kr => by omega
  | n + 1, i, h1, h2, β, K0, Kr => by
    rw [F_ref01_Same_l0_succ, r.n, cond_dec]
    by_cases hi : i < bs.length
    · rw [if_pos (by omega)]
      have h3 : ∀ {β : Type} (K : Int → Option β), (exA a.a fun g o => within ((i : Nat) : Int) bs.length (exI .u8 (h.cell ⟨g, o + ((i : Nat) : Int).toNat * 1, none⟩) K)) = K (bs.getD i 0) := fun K => by
        have := r.byte (i := (i : Nat)) (by omega) (by omega) K
        rw [r.n] at this; exact this
      rw [h3, r2.byte (by omega) (by omega), Int.toNat_natCast, bne_self_eq_false, condF, i64w (by omega), show ((i : Nat) : Int) + 1 = ((i + 1 : Nat) : Int) from rfl]
      exact same_loop r r2 hm R n (i + 1) (by omega) (by omega) K0 Kr
    · rw [if_neg (by omega)]
theorem same_yes {h : GH} {a b : Sl} {bs : List Int} (r : Rd h a bs) (r2 : Rd h b bs) (hm : bs.length ≤ 1000000) {R : Nat} (hR : 4000000 < R) {β : Type} (K : Bool → GH → Option β) : F_ref01_Same R a b h K = K true h := by
  unfold F_ref01_Same; rw [F_ref01_Same_gen, r.n, r2.n, bne_self_eq_false, condF]
  have := same_loop r r2 hm R R 0 (by omega) (by omega) (β := β)
  rw [show ((0 : Nat) : Int) = 0 from rfl] at this
  rw [this]
theorem lives06 {β : Type} (h : GH) (K : Bool → GH → Option β) : F_law06_lives h K = K true h := rfl
theorem packs_true {h : GH} {a : Sl} {zs : List Int} (r : Rdi h a zs) {R : Nat} (hR : 4000000 < R) : ∃ h', ∀ (β : Type) (K : Bool → GH → Option β), F_law06_SfanoPacks R a h K = K true h' := by
  obtain ⟨q, rq, _, e1⟩ := ref_ints r R 260
  have hm : (zs.take 260).length ≤ 1000000 := by simp; omega
  obtain ⟨h2, q2, k2, r2, n2, e2⟩ := prog_pack rq hm hR
  obtain ⟨h3, q3, k3, r3, n3, e3⟩ := ref_pack (rq.keep k2 (by simp)) hm hR
  have hl : (packP (zs.take 260)).length ≤ 1000000 := by
    have := goP_len (zs.take 260) 1
    unfold packP; split <;> simp at this ⊢; omega
  refine ⟨h3, fun β K => ?_⟩
  unfold F_law06_SfanoPacks; rw [F_law06_SfanoPacks_gen]
  rw [show ((260 : Nat) : Int) = 260 from rfl] at e1
  rw [e1, e2, e3, same_yes (r2.keep k3 (by simp)) r3 hl hR, condT, beq_self_eq_true, condT, lives06]
theorem packs_any {W : World} {a : Option Addr} {len cap : Nat} {zs : List Int} (hr : IsRow .i64 W a len cap zs) : Calls Try.prog 4 #[.slice a len cap] W fun e W' => e = .returned (.bool true) ∧ Below W.heap.size W W' := by
  let l : List Ar := [⟨a, len, cap, 1, i64s (zs.take len)⟩]
  have ok : ∀ x ∈ l, ArOk (arInj l) W x := fun x hx => by cases List.mem_singleton.1 hx; exact ar_ints hr _
  obtain ⟨h', e⟩ := packs_true (ar_row (l := l) (g := 0) rfl (ar_ints hr (arInj l))) (R := rounds) (by unfold rounds; omega)
  obtain ⟨v, h1, hk, hc⟩ := F_law06_SfanoPacks_sim (β := Value × GH) (r := (.bool true, h')) (K := fun v h => some (v, h)) (e _ _)
  cases hk
  exact ar_calls ok hc (.cons (ar_vr (l := l) (g := 0) rfl (ar_ints hr (arInj l))) .nil)
end Go.Proofs.Ytephmpbccajaaaa.Gx

