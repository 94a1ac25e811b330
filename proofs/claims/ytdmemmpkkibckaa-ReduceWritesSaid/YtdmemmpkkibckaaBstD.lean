/- The best followers of all bytes: both sides, and the law. No condition. -/
import Derived.Test.YtdmemmpkkibckaaBstC
import Derived.Test.YtdmemmpkkibckaaCutR
namespace Go.Proofs.Ytdmemmpkkibckaa.Gx
open Go Go.RowKit
set_option linter.unusedVariables false
set_option linter.unusedSimpArgs false
theorem bestP_zero {N : List Int} (h : ∀ x, x < 256 → N.getD x 0 = 0) : bestP N = [] := by
  have h1 : ascB N 256 = [] := by
    rw [List.eq_nil_iff_forall_not_mem]
    intro x hx
    have := ascB_mem.1 hx
    have h2 := h x.toNat (by omega)
    omega
  have h2 : ordZ N = [] := by have := (ordZ_spec N).1; rw [h1] at this; exact this.eq_nil
  unfold bestP
  rw [h2]; rfl
theorem beh_zero {b : List Int} {c : Int} (h0 : c ≠ 0) (hc : c ∉ b) : ∀ i, i ≤ b.length → ∀ x, behF b i c x = 0
  | 0, _, x => rfl
  | i + 1, hi, x => by
    rw [behF, beh_zero h0 hc i (by omega) x, if_neg]
    rintro ⟨q, _⟩
    unfold lastB at q
    by_cases c0 : i = 0
    · rw [if_pos c0] at q; exact h0 q.symm
    · rw [if_neg c0] at q
      refine hc ?_
      rw [← q, List.getD_eq_getElem?_getD, List.getElem?_eq_getElem (by omega)]; exact List.getElem_mem _
/-- the best followers of byte c -/
def bestC (b : List Int) (c : Nat) : List Int := bestP (behL b b.length ((c : Nat) : Int))
theorem bestC_none {b : List Int} {c : Nat} (h0 : c ≠ 0) (hc : ((c : Nat) : Int) ∉ b) : bestC b c = [] :=
  bestP_zero fun x hx => by rw [behL_getD b _ _ hx, beh_zero (by omega) hc _ (Nat.le_refl _)]; rfl
def nilS : Sl := ⟨none, 0, 0⟩
theorem slB_nil {h : GH} {g lo : Nat} (hl : h.look g = some (.row ⟨(List.replicate 256 (⟨none, 0, 0⟩ : Sl)).map slV, 0, false⟩)) : SlB h g lo (List.replicate 256 ⟨none, 0, 0⟩) (fun _ => []) := by
  refine ⟨hl, by rw [List.length_replicate], fun c hc => ?_⟩
  rw [List.getD_eq_getElem?_getD, List.getElem?_replicate, if_pos hc]
  exact ⟨Row.nil, by simp [rowsOf]⟩
theorem SlB.n {h : GH} {g lo : Nat} {ss : List Sl} {L : Nat → List Int} (s : SlB h g lo ss L) {c : Nat} (hc : c < 256) : (ss.getD c ⟨none, 0, 0⟩).n = (L c).length := (s.rd c hc).1.n
def chkN : List Value → Nat → Bool
  | [], 0 => true
  | .slice none 0 0 :: r, n + 1 => chkN r n
  | _, _ => false
theorem chkN_eq : ∀ (l : List Value) (n : Nat), chkN l n = true → l = (List.replicate n (⟨none, 0, 0⟩ : Sl)).map slV
  | [], 0, _ => rfl
  | [], n + 1, h => by simp [chkN] at h
  | v :: r, 0, h => by cases v <;> simp [chkN] at h
  | v :: r, n + 1, h => by
    unfold chkN at h
    split at h
    · rename_i h1 _; cases h1
    · rename_i h1 h2
      cases h1
      cases h2
      rw [chkN_eq _ _ h]; rfl
    · cases h
/-! ### the program's Best -/
theorem pbest_l0 {s : Sl} {b : List Int} (hb : B8 b) (hm : b.length ≤ 100000) (R : Nat) {p : Option Addr} {g : Nat} (hg : g ∉ rowsOf s) : ∀ (f i : Nat) {h : GH}, i ≤ b.length → b.length < f + i → Rd h s b → h.look g = some (.row ⟨i64s (tabL b i), 0, false⟩) →
    ∃ h', h'.look g = some (.row ⟨i64s (tabL b b.length), 0, false⟩) ∧ Keep h h' [g] ∧ ∀ (β : Type) (F1 : Option Addr → GH → (Sl → GH → Option β) → Option β) (K0 : Option Addr → Option Addr → GH → Option β), F_follow_Best_l0 F1 R f p (some ⟨g, 0, none⟩) (lastB b i) s ((b.length : Nat) : Int) ((i : Nat) : Int) h K0 = K0 p (some ⟨g, 0, none⟩) h' := by
  intro f
  induction f with
  | zero => intro i h h1 h2; omega
  | succ f ih =>
    intro i h h1 h2 r hl
    by_cases hi : i < b.length
    · have hx : 0 ≤ b.getD i 0 ∧ b.getD i 0 ≤ 255 := by rw [List.getD_eq_getElem?_getD, List.getElem?_eq_getElem hi]; exact hb _ (List.getElem_mem hi)
      have hc := lastB_byte b hb (i := i) (by omega)
      obtain ⟨x, hxx⟩ : ∃ x : Nat, b.getD i 0 = ((x : Nat) : Int) := ⟨(b.getD i 0).toNat, by omega⟩
      obtain ⟨c, hcc⟩ : ∃ c : Nat, lastB b i = ((c : Nat) : Int) := ⟨(lastB b i).toNat, by omega⟩
      rw [hxx] at hx
      rw [hcc] at hc
      have hx256 : x < 256 := by omega
      have hc256 : c < 256 := by omega
      have hf := behF_le b i ((c : Nat) : Int) ((x : Nat) : Int)
      have hgd := tabL_getD b i hc256 hx256
      have hp := fun (β : Type) (K : GH → Option β) => i64_put hl (i := c * 256 + x) (by rw [tabL_length]; omega) (((behF b i ((c : Nat) : Int) ((x : Nat) : Int) : Nat) : Int) + 1) K
      rw [tabL_step b hcc hxx hc256 hx256] at hp
      have k0 := keep_put h g (some (.row ⟨i64s (tabL b (i + 1)), 0, false⟩))
      have r2 := r.keep k0 (fun y hy hm => by simp at hm; subst hm; exact hg hy)
      obtain ⟨h', l', k', e'⟩ := ih (i + 1) (by omega) (by omega) r2 (look_put_same (look_lt hl))
      refine ⟨h', l', k0.trans k' (fun q hq => .inl hq), fun β F1 K0 => ?_⟩
      have hcl := i64_cell hl (i := c * 256 + x) (by rw [tabL_length]; omega)
      rw [hgd] at hcl
      have hby := r.byte (i := ((i : Nat) : Int)) (β := β) (by omega) (by omega)
      have wx : ∀ {β : Type} (K : Option β), within ((x : Nat) : Int) 256 K = K := fun K => within_t (by omega) (by omega) K
      have wc : ∀ {β : Type} (K : Option β), within ((c : Nat) : Int) 256 K = K := fun K => within_t (by omega) (by omega) K
      rw [F_follow_Best_l0_succ, decT (by omega), condT]
      refine Eq.trans (hby _) ?_
      rw [Int.toNat_natCast, hxx, hcc, exA_s, wc, wx, Int.toNat_natCast, Int.toNat_natCast, Nat.zero_add, Nat.mul_one, hcl, exI_s, exA_s, wc, wx, Nat.zero_add, i64w (x := ((behF b i ((c : Nat) : Int) ((x : Nat) : Int) : Nat) : Int) + 1) (by omega), hp β, i64w (by omega)]
      have e'' := e' β F1 K0
      rw [lastB_succ, hxx] at e''
      exact e''
    · have : i = b.length := by omega
      subst this
      refine ⟨h, hl, .refl _ _, fun β F1 K0 => ?_⟩
      rw [F_follow_Best_l0_succ, decF (by omega), condF]
theorem pbest_l1 {b : List Int} (hm : b.length ≤ 100000) {R : Nat} (hR : 4000000 < R) {p : Option Addr} {gt g lo : Nat} (hgt : gt < lo) (hlo : lo ≤ g) : ∀ (f i : Nat) {h : GH} {ss : List Sl}, i ≤ 256 → 256 < f + i → h.look gt = some (.row ⟨i64s (tabL b b.length), 0, false⟩) → SlB h g lo ss (fun c => if c < i then bestC b c else []) → g < h.next →
    ∃ h' ss', SlB h' g lo ss' (bestC b) ∧ Keep h h' [g] ∧ ∀ (β : Type) (K2 : Option Addr → Option Addr → GH → Option β), F_follow_Best_l1 (F_follow_counts_best R) R f p (some ⟨gt, 0, none⟩) (some ⟨g, 0, none⟩) ((i : Nat) : Int) h K2 = K2 p (some ⟨g, 0, none⟩) h' := by
  intro f
  induction f with
  | zero => intro i h ss h1 h2; omega
  | succ f ih =>
    intro i h ss h1 h2 hl sl hgn
    by_cases hi : i < 256
    · have cn : Cnt h (some ⟨gt, 0 + i * 256, none⟩) (behL b b.length ((i : Nat) : Int)) := by
        have hT : (⟨i64s (tabL b b.length), 0, false⟩ : Blk).cells.length = 65536 := by simp only [i64s_length, tabL_length]
        have hB : (i64s (behL b b.length ((i : Nat) : Int))).length = 256 := by simp only [i64s_length, behL_length]
        refine ⟨⟨hB.trans (Nat.mul_one 256).symm, Nat.le_refl _, .inr ⟨gt, 0 + i * 256, ⟨i64s (tabL b b.length), 0, false⟩, rfl, hl, ?_, ?_⟩⟩, behL_pos b (by omega) _⟩
        · rw [hT, hB]; omega
        · simp only [hB, Nat.zero_add, tab_row b b.length hi]
      obtain ⟨h3, q3, r3, k3, n3, e3⟩ := best_eq cn hR
      obtain ⟨h4, s4, k4, e4⟩ := (sl.keep k3 (by simp) (by simp)).put hi r3 (fun k hk => by have := n3 k hk; omega)
      have k34 : Keep h h4 [g] := (k3.mono (by simp)).trans k4 (fun q hq => .inl hq)
      obtain ⟨h', ss', s', k', e'⟩ := ih (i + 1) (by omega) (by omega) (k34.look hl (by simp; omega)) (s4.congr (fun c hc => by
        by_cases e : c = i
        · subst e; rw [if_pos rfl, if_pos (by omega)]; rfl
        · rw [if_neg e]
          by_cases e2 : c < i
          · rw [if_pos e2, if_pos (by omega)]
          · rw [if_neg e2, if_neg (by omega)])) (by have := k34.1; omega)
      refine ⟨h', ss', s', k34.trans k' (fun q hq => .inl hq), fun β K2 => ?_⟩
      rw [F_follow_Best_l1_succ, decT (by omega), condT, exA_s, within_t (by omega) (by omega), Int.toNat_natCast, e3, exA_s, within_t (by omega) (by omega), Nat.zero_add, Nat.mul_one, e4, i64w (by omega)]
      exact e' β K2
    · have : i = 256 := by omega
      subst this
      refine ⟨h, ss, sl.congr (fun c hc => by rw [if_pos hc]), .refl _ _, fun β K2 => ?_⟩
      rw [F_follow_Best_l1_succ, decF (by omega), condF]
theorem best_prog {h : GH} {s : Sl} {b : List Int} (r : Rd h s b) (hb : B8 b) (hm : b.length ≤ 100000) {R : Nat} (hR : 4000000 < R) : ∃ h' g ss, SlB h' g h.next ss (bestC b) ∧ h.next ≤ g ∧ Keep h h' [] ∧ ∀ (β : Type) (K : List Value → GH → Option β), F_follow_Best R s h K = K (ss.map slV) h' := by
  have lt := r.lt
  obtain ⟨h1, eh1⟩ : ∃ h1, h1 = h.push (.row ⟨(List.replicate 256 (⟨none, 0, 0⟩ : Sl)).map slV, 0, false⟩) := ⟨_, rfl⟩
  obtain ⟨h2, eh2⟩ : ∃ h2, h2 = h1.push (.row ⟨i64s (tabL b 0), 0, false⟩) := ⟨_, rfl⟩
  have n1 : h1.next = h.next + 1 := by rw [eh1, next_push]
  have n2 : h2.next = h.next + 2 := by rw [eh2, next_push, n1]
  have l2 : h2.look (h.next + 1) = some (.row ⟨i64s (tabL b 0), 0, false⟩) := by rw [eh2, ← n1]; exact look_push_new
  have lo2 : h2.look h.next = some (.row ⟨(List.replicate 256 (⟨none, 0, 0⟩ : Sl)).map slV, 0, false⟩) := by rw [eh2, look_push_old (by omega), eh1]; exact look_push_new
  have k2 : Keep h h2 [] := by rw [eh2, eh1]; exact (keep_push _ _ []).trans (keep_push _ _ []) (by simp)
  obtain ⟨h3, l3, k3, e3⟩ := pbest_l0 hb hm R (p := some ⟨h.next, 0, none⟩) (g := h.next + 1) (s := s) (fun q => by have := lt _ q; omega) R 0 (by omega) (by omega) (r.keep k2 (by simp)) l2
  have k23 : Keep h h3 [] := k2.trans k3 (fun q hq => by simp at hq; subst hq; exact .inr (by omega))
  have lo3 := k3.look lo2 (by simp)
  have b3 := k3.1
  obtain ⟨h4, eh4⟩ : ∃ h4, h4 = h3.push (.row ⟨(List.replicate 256 (⟨none, 0, 0⟩ : Sl)).map slV, 0, false⟩) := ⟨_, rfl⟩
  have n4 : h4.next = h3.next + 1 := by rw [eh4, next_push]
  have k4 : Keep h3 h4 [] := by rw [eh4]; exact keep_push _ _ []
  have s4 : SlB h4 h3.next h3.next (List.replicate 256 ⟨none, 0, 0⟩) (fun _ => []) := slB_nil (by rw [eh4]; exact look_push_new)
  obtain ⟨h5, ss, s5, k5, e5⟩ := pbest_l1 hm hR (p := some ⟨h.next, 0, none⟩) (gt := h.next + 1) (g := h3.next) (lo := h3.next) (by omega) (Nat.le_refl _) R 0 (by omega) (by omega) (k4.look l3 (by simp)) (s4.congr (fun c hc => by rw [if_neg (by omega)])) (by omega)
  have k45 : Keep h3 h5 [] := k4.trans k5 (fun q hq => by simp at hq; subst hq; exact .inr (Nat.le_refl _))
  have lo5 := k45.look lo3 (by simp)
  have k6 := keep_put h5 h.next (some (.row ⟨ss.map slV, 0, false⟩))
  have hss : (ss.map slV).length = 256 := by rw [List.length_map]; exact s5.len
  have hrep : ((List.replicate 256 (⟨none, 0, 0⟩ : Sl)).map slV).length = 256 := by rw [List.length_map, List.length_replicate]
  have b4 := k4.1
  have s6 := s5.keep k6 (by simp; omega) (by simp; omega)
  refine ⟨_, h3.next, ss, ⟨s6.look, s6.len, fun c hc => ⟨(s6.rd c hc).1, fun k hk => by have := (s6.rd c hc).2 k hk; omega⟩⟩, by omega, (k23.trans k45 (by simp)).trans k6 (fun q hq => by simp at hq; subst hq; exact .inr (Nat.le_refl _)), fun β K => ?_⟩
  have ns : nsub (ss.map slV) 0 256 = some (ss.map slV) := by have := nsub_all (ss.map slV); rwa [hss] at this
  unfold F_follow_Best
  rw [F_follow_Best_gen, Z28_eq, gnew_eq (allCells_slV _), ← eh1, Z42_eq, ← tabL_0 b, gnew_eq (allCells_i64s _), ← eh2, n1, r.n]
  have e3' := e3 β (F_follow_counts_best R)
  rw [show ((0 : Nat) : Int) = 0 from rfl, show lastB b 0 = 0 from rfl] at e3'
  refine Eq.trans (e3' _) ?_
  rw [gnew_eq (allCells_slV _), ← eh4]
  have e5' := e5 β
  rw [show ((0 : Nat) : Int) = 0 from rfl] at e5'
  refine Eq.trans (e5' _) ?_
  rw [exA_s, rowCells_of s5.look, ns, exL_s, hss, beq_t, condT, exA_s, gput_eq lo5 (allCells_slV _) (by rw [hss, hrep]; omega), nlay_all _ _ (by rw [hss, hrep]), exA_s, rowCells_of (look_put_same (look_lt lo5)), ns, exL_s, hss, beq_t, condT]
theorem same_loopB {h : GH} {a b : Sl} {bs : List Int} (r : Rd h a bs) (r2 : Rd h b bs) (hm : bs.length ≤ 1000000) (R : Nat) : ∀ (n i : Nat), i ≤ bs.length → bs.length < n + i → ∀ {β : Type} (K0 : GH → Option β) (Kr : Bool → GH → Option β), F_ref01_Same_l0 R n a b ((i : Nat) : Int) h K0 Kr = K0 h
  | 0, i, h1, h2, β, K0, Kr => by omega
  | n + 1, i, h1, h2, β, K0, Kr => by
    rw [F_ref01_Same_l0_succ, r.n, cond_dec]
    by_cases hi : i < bs.length
    · rw [if_pos (by omega)]
      have h3 : ∀ {β : Type} (K : Int → Option β), (exA a.a fun g o => within ((i : Nat) : Int) bs.length (exI .u8 (h.cell ⟨g, o + ((i : Nat) : Int).toNat * 1, none⟩) K)) = K (bs.getD i 0) := fun K => by
        have := r.byte (i := (i : Nat)) (by omega) (by omega) K
        rw [r.n] at this; exact this
      rw [h3, r2.byte (by omega) (by omega), Int.toNat_natCast, bne_self_eq_false, condF, i64w (by omega), show ((i : Nat) : Int) + 1 = ((i + 1 : Nat) : Int) from rfl]
      exact same_loopB r r2 hm R n (i + 1) (by omega) (by omega) K0 Kr
    · rw [if_neg (by omega)]
theorem same_yesB {h : GH} {a b : Sl} {bs : List Int} (r : Rd h a bs) (r2 : Rd h b bs) (hm : bs.length ≤ 1000000) {R : Nat} (hR : 4000000 < R) {β : Type} (K : Bool → GH → Option β) : F_ref01_Same R a b h K = K true h := by
  unfold F_ref01_Same; rw [F_ref01_Same_gen, r.n, r2.n, bne_self_eq_false, condF]
  exact same_loopB r r2 hm R R 0 (by omega) (by omega) (fun h13 => K true h13) (fun w14 h15 => K w14 h15)
theorem bestC_len (b : List Int) (c : Nat) : (bestC b c).length ≤ 32 := by unfold bestC bestP; simp; omega
end Go.Proofs.Ytdmemmpkkibckaa.Gx

