/- Whether an extra field may be: the program's word and the document's are the same. No condition. -/
import Derived.Test.YtibngikhlgmhaaaExt
namespace Go.Proofs.Ytibngikhlgmhaaa.Gx
open Go
set_option linter.unusedVariables false
/-- what is said of an extra field -/
def chkX (bs : List Int) : Int := match idsP (bs.length + 1) bs with | none => 4 | some ids => if ids.contains 1 then 12 else 0
section
variable {h : GH} {bs : List Int}
theorem extra_read {a : Sl} (r : Rd h a bs) (h8 : B8 bs) (hm : bs.length ≤ 2000000) {R : Nat} (hR : 4000000 < R) :
    ∃ h' q, Keep h h' [] ∧ (∀ k ∈ rowsOf q, h.next ≤ k) ∧ (match idsP (bs.length + 1) bs with
      | some l => Flds h' q l ∧ ∀ (β : Type) (K : Sl → Int → GH → Option β), F_extra_Read R a h K = K q 0 h'
      | none => ∀ (β : Type) (K : Sl → Int → GH → Option β), F_extra_Read R a h K = K ⟨none, 0, 0⟩ 3 h') := by
  obtain ⟨h1, g, s, e1, C1, k1, n1⟩ := open_cur r (by omega) R
  obtain ⟨h2, q, k2, n2, hr⟩ := extra_loop h8 hm (R := R) (by omega) (bs.length + 1) R (at_ := 0) C1 (by omega) (by omega) (by omega) Flds.nil (by simp) (by simp [rowsOf])
  refine ⟨h2, q, k1.trans k2 (fun x hx => by simp [rowsOf] at hx; subst hx; right; exact n1 _ (by simp [ownC])), fun k hk => ?_, ?_⟩
  · rcases n2 k hk with h | h
    · simp [rowsOf] at h
    · have := k1.1; omega
  · simp only [List.drop_zero] at hr
    cases hi : idsP (bs.length + 1) bs with
    | none =>
      rw [hi] at hr
      intro β K
      unfold F_extra_Read; rw [F_extra_Read_gen, e1, hr]
    | some l =>
      rw [hi] at hr
      refine ⟨by simpa using hr.1, fun β K => ?_⟩
      unfold F_extra_Read; rw [F_extra_Read_gen, e1, hr.2]
theorem index_loop {q : Sl} {ids : List Int} {g : Nat} {id : Int} {R : Nat} : ∀ (k n i : Nat) {h : GH}, Flds h q ids → h.look g = some (.row ⟨[.int .i64 id], 0, false⟩) → i + k = ids.length → k < n → ids.length ≤ 2000000 → g ∉ rowsOf q →
    ∃ (h' : GH) (r : Int), Keep h h' [] ∧ ((r < 0) ↔ ¬ id ∈ ids.drop i) ∧ (0 ≤ r → r < ids.length) ∧ ∀ (β : Type) (K : Int → GH → Option β), F_slices_IndexFunc_api_Field_s1_l0 (F_extra_Find_1_s1 R) R n q (some ⟨g, 0, none⟩) ((ids.length : Nat) : Int) (i : Nat) h (fun h' => K (-1) h') (fun w h' => K w h') = K r h'
  | 0, n, i, h, F, hg, hi, hn, hm, hne => by
    obtain ⟨n, rfl⟩ : ∃ k, n = k + 1 := ⟨n - 1, by omega⟩
    refine ⟨h, -1, .refl _ _, ?_, by omega, fun β K => ?_⟩
    · rw [List.drop_eq_nil_of_le (by omega)]; simp
    · rw [F_slices_IndexFunc_api_Field_s1_l0_succ, decF (by omega), condF]
  | k + 1, n, i, h, F, hg, hi, hn, hm, hne => by
    obtain ⟨n, rfl⟩ : ∃ k, n = k + 1 := ⟨n - 1, by omega⟩
    obtain ⟨cs, v, hc⟩ := F.vec
    have hlt : i < ids.length := by omega
    obtain ⟨c1, sl, c2⟩ := hc i hlt
    have hlen := v.len
    rw [F.n] at hlen
    obtain ⟨g0, o0, ha, hcell⟩ := v.row.cell (by rw [F.n]; omega) (by omega)
    have k0 := keep_push h (.row ⟨[.int .i64 ids[i], .slice sl.a sl.n sl.c], 0, false⟩) []
    have hstep : ∀ (β : Type) (K0 : GH → Option β) (Kr : Int → GH → Option β), F_slices_IndexFunc_api_Field_s1_l0 (F_extra_Find_1_s1 R) R (n + 1) q (some ⟨g, 0, none⟩) ((ids.length : Nat) : Int) (i : Nat) h K0 Kr =
        (bif ids[i] == id then Kr ((i : Nat) : Int) (h.push (.row ⟨[.int .i64 ids[i], .slice sl.a sl.n sl.c], 0, false⟩)) else F_slices_IndexFunc_api_Field_s1_l0 (F_extra_Find_1_s1 R) R n q (some ⟨g, 0, none⟩) ((ids.length : Nat) : Int) ((i + 1 : Nat) : Int) (h.push (.row ⟨[.int .i64 ids[i], .slice sl.a sl.n sl.c], 0, false⟩)) K0 Kr) := fun β K0 Kr => by
      rw [F_slices_IndexFunc_api_Field_s1_l0_succ, decT (by omega), condT, ha]
      simp only [exA_s]
      rw [within_t (by omega) (by rw [F.n]; omega), Int.toNat_natCast, hcell _ (by omega), c1, exI_s, Nat.add_assoc, hcell _ (by omega), c2, exS_s]
      unfold F_extra_Find_1_s1
      rw [F_extra_Find_1_s1_gen, gnew_eq rfl]
      rw [cell_of look_push_new, show nth [Value.int .i64 ids[i], .slice sl.a sl.n sl.c] (0 + 0) = some (.int .i64 ids[i]) from rfl, exI_s, exA_s, cell_of (k0.look hg (by simp)), show nth [Value.int .i64 id] 0 = some (.int .i64 id) from rfl, exI_s]
      rw [i64w (by omega), show ((i : Nat) : Int) + 1 = ((i + 1 : Nat) : Int) by omega]
    by_cases he : ids[i] = id
    · refine ⟨_, i, k0, ?_, by omega, fun β K => ?_⟩
      · constructor
        · intro h; omega
        · intro h; exact absurd (by rw [List.drop_eq_getElem_cons hlt, he]; exact .head _) h
      · rw [hstep, he, beq_self_eq_true, condT]
    · obtain ⟨h', r, k', q1, q2, e'⟩ := index_loop (R := R) (q := q) (id := id) (g := g) k n (i + 1) (F.keep k0 (by simp)) (k0.look hg (by simp)) (by omega) (by omega) hm hne
      refine ⟨h', r, k0.trans k' (by simp), ?_, q2, fun β K => ?_⟩
      · rw [q1, List.drop_eq_getElem_cons hlt, List.mem_cons]
        constructor
        · intro h hh; rcases hh with hh | hh
          · exact he hh.symm
          · exact h hh
        · intro h hh; exact h (.inr hh)
      · rw [hstep, beq_eq_false_iff_ne.2 he, condF, e']
theorem index_any {q : Sl} {ids : List Int} {g : Nat} {id : Int} {R : Nat} (hR : 4000000 < R) {h : GH} (F : Flds h q ids) (hg : h.look g = some (.row ⟨[.int .i64 id], 0, false⟩)) (hm : ids.length ≤ 2000000) (hne : g ∉ rowsOf q) :
    ∃ (h' : GH) (r : Int), Keep h h' [] ∧ ((r < 0) ↔ ¬ id ∈ ids) ∧ (0 ≤ r → r < ids.length) ∧ ∀ (β : Type) (K : Int → GH → Option β), F_slices_IndexFunc_api_Field_s1 R q (some ⟨g, 0, none⟩) h K = K r h' := by
  obtain ⟨h', r, k, u1, u2, e⟩ := index_loop (R := R) ids.length R 0 F hg (by omega) (by omega) hm hne
  refine ⟨h', r, k, by simpa using u1, u2, fun β K => ?_⟩
  unfold F_slices_IndexFunc_api_Field_s1; rw [F_slices_IndexFunc_api_Field_s1_gen, F.n]
  exact e β K
theorem extra_find {a : Sl} (r : Rd h a bs) (h8 : B8 bs) (hm : bs.length ≤ 2000000) {R : Nat} (hR : 4000000 < R) (id : Int) : ∃ h' q, Keep h h' [] ∧
    ∀ (β : Type) (K : Sl → Bool → GH → Option β), F_extra_Find R a id h K = K q (match idsP (bs.length + 1) bs with | none => false | some ids => ids.contains id) h' := by
  have k0 := keep_push h (.row ⟨[.int .i64 id], 0, false⟩) []
  obtain ⟨h1, q1, k1, n1, hr⟩ := extra_read (r.keep k0 (by simp)) h8 hm hR
  have hlook := k1.look (look_push_new (h := h) (o := .row ⟨[.int .i64 id], 0, false⟩)) (by simp)
  cases hi : idsP (bs.length + 1) bs with
  | none =>
    rw [hi] at hr
    obtain ⟨h2, r2, k2, _, _, e2⟩ := index_any (q := ⟨none, 0, 0⟩) (ids := []) (id := id) hR Flds.nil hlook (by simp) (by simp [rowsOf])
    refine ⟨h2, ⟨none, 0, 0⟩, (k0.trans k1 (by simp)).trans k2 (by simp), fun β K => ?_⟩
    unfold F_extra_Find; rw [F_extra_Find_gen, gnew_eq rfl, hr, e2, bne_iff_ne.2 (by omega), condT]
  | some ids =>
    rw [hi] at hr
    have hlen : ids.length ≤ 2000000 := by
      have : ∀ (f : Nat) (l : List Int) (ids : List Int), idsP f l = some ids → ids.length ≤ l.length := by
        intro f
        induction f with
        | zero => intro l ids h; cases h
        | succ f ih =>
          intro l ids h
          rw [idsP] at h
          split at h
          · cases h; simp
          · split at h
            · cases h
            · split at h
              · cases h
              · simp only [Option.map_eq_some_iff] at h
                obtain ⟨l2, h2, rfl⟩ := h
                have := ih _ _ h2
                simp only [List.length_drop, List.length_cons] at this ⊢
                omega
      have := this _ _ _ hi; omega
    obtain ⟨h2, r2, k2, u1, u2, e2⟩ := index_any (q := q1) (ids := ids) (id := id) hR hr.1 hlook hlen (fun hm => by
      have := n1 _ hm
      rw [next_push] at this; omega)
    have F2 := hr.1.keep k2 (by simp)
    have start : ∀ (β : Type) (K : Sl → Bool → GH → Option β), F_extra_Find R a id h K = _ := fun β K => by
      unfold F_extra_Find; rw [F_extra_Find_gen, gnew_eq rfl, hr.2, e2, bne_self_eq_false, condF]
    by_cases hlt : r2 < 0
    · refine ⟨h2, ⟨none, 0, 0⟩, (k0.trans k1 (by simp)).trans k2 (by simp), fun β K => ?_⟩
      rw [start, decT hlt, condT]
      have : ids.contains id = false := by
        have := u1.1 hlt
        simpa using this
      simp only [this]
    · have hr2 := u2 (by omega)
      obtain ⟨cs, v, hc⟩ := F2.vec
      obtain ⟨c1, sl, c2⟩ := hc r2.toNat (by omega)
      obtain ⟨g0, o0, ha, hcell⟩ := v.row.cell (by rw [F2.n]; omega) (by omega)
      have hl := v.len
      rw [F2.n] at hl
      refine ⟨h2, sl, (k0.trans k1 (by simp)).trans k2 (by simp), fun β K => ?_⟩
      rw [start, decF hlt, condF, ha, exA_s, within_t (by omega) (by rw [F2.n]; omega), Nat.add_assoc, hcell _ (by omega), c2, exS_s]
      have : ids.contains id = true := by
        have := fun hh => hlt (u1.2 hh)
        simpa using this
      simp only [this]
theorem check_extra {a : Sl} (r : Rd h a bs) (h8 : B8 bs) (hm : bs.length ≤ 2000000) {R : Nat} (hR : 4000000 < R) : ∃ h', Keep h h' [] ∧ ∀ (β : Type) (K : Int → GH → Option β), F_denote_checkExtra R a h K = K (chkX bs) h' := by
  obtain ⟨h1, q1, k1, n1, hr⟩ := extra_read r h8 hm hR
  obtain ⟨h2, q2, k2, e2⟩ := extra_find (r.keep k1 (by simp)) h8 hm hR 1
  unfold chkX
  cases hi : idsP (bs.length + 1) bs with
  | none =>
    rw [hi] at hr
    refine ⟨h1, k1, fun β K => ?_⟩
    unfold F_denote_checkExtra; rw [F_denote_checkExtra_gen, hr, bne_iff_ne.2 (by omega), condT]
  | some ids =>
    rw [hi] at hr e2
    refine ⟨h2, k1.trans k2 (by simp), fun β K => ?_⟩
    unfold F_denote_checkExtra; rw [F_denote_checkExtra_gen, hr.2, bne_self_eq_false, condF, e2]
    simp only []
    cases ids.contains 1 <;> simp
/-! ### the document's -/
theorem num_loop {q : Sl} {ns : List Int} (r : Rd h q ns) (h8 : B8 ns) (hl : ns.length ≤ 4) (R : Nat) : ∀ (k n : Nat), k ≤ ns.length → k < n → ∀ (β : Type) (K : Int → GH → Option β),
    F_ref02_Num_l0 R n q (le (ns.drop k)) ((k : Nat) - 1 : Int) h K = K (le ns) h
  | 0, n, hk, hn, β, K => by
    obtain ⟨n, rfl⟩ : ∃ k, n = k + 1 := ⟨n - 1, by omega⟩
    rw [F_ref02_Num_l0_succ, decF (by omega), condF]; rfl
  | k + 1, n, hk, hn, β, K => by
    obtain ⟨n, rfl⟩ : ∃ k, n = k + 1 := ⟨n - 1, by omega⟩
    have hlt : k < ns.length := by omega
    have hb := h8 _ (List.getElem_mem hlt)
    have hacc := le_bound (a := ns.drop k) fun b hb => h8 b (List.mem_of_mem_drop hb)
    have hd : ns.drop k = ns[k] :: ns.drop (k + 1) := List.drop_eq_getElem_cons hlt
    have hle : le (ns.drop k) = ns[k] + 256 * le (ns.drop (k + 1)) := by rw [hd]; rfl
    have h4 : le (ns.drop k) ≤ 4294967295 := by
      have h1 : (256 : Nat) ^ (ns.drop k).length ≤ 256 ^ 4 := Nat.pow_le_pow_right (by omega) (by simp; omega)
      have e4 : (256 : Nat) ^ 4 = 4294967296 := by decide +kernel
      have h2 := pow_cast (ns.drop k).length
      rw [← h2] at hacc; omega
    have h0 := (le_bound (a := ns.drop (k + 1)) fun b hb => h8 b (List.mem_of_mem_drop hb)).1
    have hg : ns.getD (((k + 1 : Nat) : Int) - 1).toNat 0 = ns[k] := by rw [show (((k + 1 : Nat) : Int) - 1).toNat = k by omega, List.getD_eq_getElem?_getD, List.getElem?_eq_getElem hlt]; rfl
    rw [F_ref02_Num_l0_succ, decT (by omega), condT, r.byte (by omega) (by omega), hg, u32w (x := ns[k]) (by omega), u32w (x := le (ns.drop (k + 1)) * 256) (by omega), u32w (by omega), i64w (by omega)]
    have := num_loop r h8 hl R k n (by omega) (by omega) β K
    rw [show le (ns.drop (k + 1)) * 256 + ns[k] = le (ns.drop k) by omega, show ((k + 1 : Nat) : Int) - 1 - 1 = (k : Nat) - 1 by omega]
    exact this
theorem num_rd {q : Sl} {ns : List Int} (r : Rd h q ns) (h8 : B8 ns) (hl : ns.length ≤ 4) {R : Nat} (hR : 8 < R) (β : Type) (K : Int → GH → Option β) : F_ref02_Num R q h K = K (le ns) h := by
  unfold F_ref02_Num; rw [F_ref02_Num_gen, r.n, i64w (by omega)]
  have := num_loop r h8 hl R ns.length R (Nat.le_refl _) (by omega) β K
  rw [List.drop_length] at this
  exact this
theorem copy_rd {s : Sl} {bs : List Int} (r : Rd h s bs) (hm : bs.length ≤ 274877906944) (R : Nat) : ∃ h' q, (∀ (β : Type) (K : Sl → GH → Option β), F_ref01_Copy R s h K = K q h') ∧ Bv h' q bs ∧ Keep h h' [] ∧ ∀ k ∈ rowsOf q, h.next ≤ k := by
  obtain ⟨h', q, e, v, k, n⟩ := app_bytes (Vec.nil (h := h) (z := 1)) (bs := []) r (by simpa using hm)
  refine ⟨h', q, fun β K => ?_, by simpa using v, by simpa [rowsOf] using k, fun x hx => (n x hx).elim (fun h => by simp [rowsOf] at h) id⟩
  unfold F_ref01_Copy; rw [F_ref01_Copy_gen, e]
theorem ref_loop (h8 : B8 bs) (hm : bs.length ≤ 2000000) {a : Sl} {R : Nat} (hR : 8 < R) : ∀ (f n : Nat) {h : GH} {out : Sl} {at_ : Nat} {ids : List Int}, Rd h a bs → at_ ≤ bs.length → bs.length - at_ < f → f < n → Flds h out ids → ids.length ≤ at_ → (∀ k ∈ rowsOf out, k ∉ rowsOf a) →
    ∃ h' q, Keep h h' (rowsOf out) ∧ (∀ k ∈ rowsOf q, k ∈ rowsOf out ∨ h.next ≤ k) ∧ (match idsP f (bs.drop at_) with
      | some l => Flds h' q (ids ++ l) ∧ ∀ (β : Type) (K0 : Sl → GH → Option β) (Kr : Sl → Int → GH → Option β), F_ref23_Read_l0 (F_ref02_Num R) (F_ref01_Copy R) R n a out (at_ : Nat) h K0 Kr = K0 q h'
      | none => ∀ (β : Type) (K0 : Sl → GH → Option β) (Kr : Sl → Int → GH → Option β), F_ref23_Read_l0 (F_ref02_Num R) (F_ref01_Copy R) R n a out (at_ : Nat) h K0 Kr = Kr ⟨none, 0, 0⟩ 3 h')
  | 0, n, h, out, at_, ids, r, hat, hf, hn, F, hi, hd => by omega
  | f + 1, n, h, out, at_, ids, r, hat, hf, hn, F, hi, hd => by
    obtain ⟨n, rfl⟩ : ∃ k, n = k + 1 := ⟨n - 1, by omega⟩
    have hcap := r.cap
    have hrn := r.n
    by_cases h0 : bs.length - at_ = 0
    · refine ⟨h, out, .refl _ _, fun k hk => .inl hk, ?_⟩
      have : idsP (f + 1) (bs.drop at_) = some [] := by simp [idsP, h0]
      rw [this]
      refine ⟨by simpa using F, fun β K0 Kr => ?_⟩
      rw [F_ref23_Read_l0_succ, hrn, decF (by omega), condF]
    by_cases h4 : bs.length - at_ < 4
    · refine ⟨h, ⟨none, 0, 0⟩, .refl _ _, by simp [rowsOf], ?_⟩
      have : idsP (f + 1) (bs.drop at_) = none := by rw [idsP, List.length_drop, if_neg h0, if_pos h4]
      rw [this]
      intro β K0 Kr
      rw [F_ref23_Read_l0_succ, hrn, decT (by omega), condT, i64w (by omega), decT (by omega), condT]
    · have c1 := r.cut (lo := at_ + 2) (hi := at_ + 4) (mx := a.c) (by omega) (by omega) (by omega) (by omega)
      have c2 := r.cut (lo := at_) (hi := at_ + 2) (mx := a.c) (by omega) (by omega) (by omega) (by omega)
      have b8 : ∀ l m, B8 ((bs.drop l).take m) := fun l m b hb => h8 b (List.mem_of_mem_drop (List.mem_of_mem_take hb))
      obtain ⟨N, hN⟩ : ∃ N, N = le (((bs.drop at_).drop 2).take 2) := ⟨_, rfl⟩
      have e1 : (bs.drop (at_ + 2)).take (at_ + 4 - (at_ + 2)) = ((bs.drop at_).drop 2).take 2 := by rw [List.drop_drop, show at_ + 4 - (at_ + 2) = 2 by omega]
      have e2 : (bs.drop at_).take (at_ + 2 - at_) = (bs.drop at_).take 2 := by rw [show at_ + 2 - at_ = 2 by omega]
      have hb1 := le_bound (a := ((bs.drop at_).drop 2).take 2) (by rw [List.drop_drop]; exact b8 _ _)
      have hb2 := le_bound (a := (bs.drop at_).take 2) (b8 _ _)
      have p2 : (256 : Int) ^ 2 = 65536 := by decide +kernel
      rw [show (((bs.drop at_).drop 2).take 2).length = 2 by simp; omega, p2, ← hN] at hb1
      rw [show ((bs.drop at_).take 2).length = 2 by simp; omega, p2] at hb2
      have start : ∀ (β : Type) (K0 : Sl → GH → Option β) (Kr : Sl → Int → GH → Option β), F_ref23_Read_l0 (F_ref02_Num R) (F_ref01_Copy R) R (n + 1) a out (at_ : Nat) h K0 Kr = _ := fun β K0 Kr => by
        rw [F_ref23_Read_l0_succ, hrn, decT (by omega), condT, i64w (x := ((bs.length : Nat) : Int) - (at_ : Nat)) (by omega), decF (by omega), condF, i64w (by omega), bnd_t (by omega) (by omega), i64w (by omega), bnd_t (by omega) (by omega),
          show ((at_ : Nat) + 4 : Int).toNat = at_ + 4 by omega, show ((at_ : Nat) + 2 : Int).toNat = at_ + 2 by omega, num_rd c1 (b8 _ _) (by simp; omega) hR, e1, ← hN, i64w (x := N) (by omega), i64w (x := ((bs.length : Nat) : Int) - (at_ : Nat) - 4) (by omega)]
      by_cases hbad : N > ((bs.length - at_ : Nat) : Int) - 4
      · refine ⟨h, ⟨none, 0, 0⟩, .refl _ _, by simp [rowsOf], ?_⟩
        have : idsP (f + 1) (bs.drop at_) = none := by rw [idsP, List.length_drop, if_neg h0, if_neg h4, ← hN, if_pos hbad]
        rw [this]
        intro β K0 Kr
        rw [start, decT (by omega), condT]
      · have c3 := r.cut (lo := at_ + 4) (hi := at_ + (4 + N.toNat)) (mx := a.c) (by omega) (by omega) (by omega) (by omega)
        obtain ⟨h1, q1, e5, v1, k1, n1⟩ := copy_rd c3 (by simp; omega) R
        obtain ⟨h2, q2, e6, F2, k2, n2⟩ := (F.keep k1 (by simp)).add (le ((bs.drop at_).take 2)) q1 (by omega)
        have r2 := (r.keep k1 (by simp)).keep k2 (fun x hx hm => hd x hm hx)
        obtain ⟨h6, q6, k6, n6, hrest⟩ := ref_loop h8 hm hR f n (at_ := at_ + (4 + N.toNat)) r2 (by omega) (by omega) (by omega) F2 (by simp; omega) (fun k hk hc => by
          rcases n2 k hk with h | h
          · exact hd k h hc
          · have := r.lt k hc; have := k1.1; omega)
        refine ⟨h6, q6, ⟨by have := k1.1; have := k2.1; have := k6.1; omega, fun x hx hm => ?_⟩, fun k hk => ?_, ?_⟩
        · rw [k6.2 x (by have := k1.1; have := k2.1; omega) (fun h => by
            rcases n2 x h with h | h
            · exact hm h
            · have := k1.1; omega), k2.2 x (by have := k1.1; omega) hm, k1.2 x hx (by simp)]
        · rcases n6 k hk with h | h
          · rcases n2 k h with h | h
            · exact .inl h
            · right; have := k1.1; omega
          · right; have := k1.1; have := k2.1; omega
        · have hids : idsP (f + 1) (bs.drop at_) = (idsP f (bs.drop (at_ + (4 + N.toNat)))).map (le ((bs.drop at_).take 2) :: ·) := by
            rw [idsP, List.length_drop, if_neg h0, if_neg h4, ← hN, if_neg hbad, List.drop_drop]
          have step : ∀ (β : Type) (K0 : Sl → GH → Option β) (Kr : Sl → Int → GH → Option β), F_ref23_Read_l0 (F_ref02_Num R) (F_ref01_Copy R) R (n + 1) a out (at_ : Nat) h K0 Kr = F_ref23_Read_l0 (F_ref02_Num R) (F_ref01_Copy R) R n a q2 ((at_ + (4 + N.toNat) : Nat) : Int) h2 K0 Kr := fun β K0 Kr => by
            rw [start, decF (by omega), condF, bnd_t (by omega) (by omega), bnd_t (by omega) (by omega), show (((at_ : Nat) : Int)).toNat = at_ by omega, show ((at_ : Nat) + 2 : Int).toNat = at_ + 2 by omega, num_rd c2 (b8 _ _) (by simp; omega) hR, e2, i64w (x := ((at_ : Nat) : Int) + 4 + N) (by omega), bnd_t (by omega) (by omega), bnd_t (by omega) (by omega),
              show ((at_ : Nat) + 4 + N : Int).toNat = at_ + (4 + N.toNat) by omega, show ((at_ : Nat) + 4 : Int).toNat = at_ + 4 by omega, e5, i64w (x := le ((bs.drop at_).take 2)) (by omega), e6, show ((at_ : Nat) : Int) + 4 + N = ((at_ + (4 + N.toNat) : Nat) : Int) by omega]
          rw [hids]
          cases hq : idsP f (bs.drop (at_ + (4 + N.toNat))) with
          | none =>
            rw [hq] at hrest
            intro β K0 Kr
            rw [step]
            exact hrest β K0 Kr
          | some l =>
            rw [hq] at hrest
            refine ⟨by simpa using hrest.1, fun β K0 Kr => ?_⟩
            rw [step]
            exact hrest.2 β K0 Kr
theorem list_loop {β : Type} {q : Sl} {ids : List Int} (F : Flds h q ids) (hm : ids.length ≤ 2000000) (G : Sl → GH → (Sl → Int → GH → Option β) → Option β) {R : Nat} : ∀ (k n i : Nat), i + k = ids.length → k < n → ∀ (K : Int → GH → Option β),
    F_ref26_list_l0 G R n q (i : Nat) h (fun h' => K 0 h') (fun w h' => K w h') = K (if (ids.drop i).contains 1 then 12 else 0) h
  | 0, n, i, hi, hn, K => by
    obtain ⟨n, rfl⟩ : ∃ k, n = k + 1 := ⟨n - 1, by omega⟩
    rw [F_ref26_list_l0_succ, F.n, decF (by omega), condF, List.drop_eq_nil_of_le (by omega)]; rfl
  | k + 1, n, i, hi, hn, K => by
    obtain ⟨n, rfl⟩ : ∃ k, n = k + 1 := ⟨n - 1, by omega⟩
    obtain ⟨cs, v, hc⟩ := F.vec
    have hlt : i < ids.length := by omega
    obtain ⟨c1, sl, c2⟩ := hc i hlt
    have hlen := v.len
    rw [F.n] at hlen
    obtain ⟨g0, o0, ha, hcell⟩ := v.row.cell (by rw [F.n]; omega) (by omega)
    rw [F_ref26_list_l0_succ, F.n, decT (by omega), condT, ha, exA_s, within_t (by omega) (by omega), Nat.add_zero, Int.toNat_natCast, hcell _ (by omega), c1, exI_s, List.drop_eq_getElem_cons hlt]
    by_cases he : ids[i] = 1
    · rw [he, beq_self_eq_true, condT]; simp
    · rw [beq_eq_false_iff_ne.2 he, condF, i64w (by omega), show ((i : Nat) : Int) + 1 = ((i + 1 : Nat) : Int) by omega, list_loop F hm G k n (i + 1) (by omega) (by omega) K]
      have : (1 == ids[i]) = false := beq_eq_false_iff_ne.2 (fun h => he h.symm)
      rw [List.contains_cons, this, Bool.false_or]
theorem ref_list {a : Sl} (r : Rd h a bs) (h8 : B8 bs) (hm : bs.length ≤ 2000000) {R : Nat} (hR : 4000000 < R) : ∃ h', Keep h h' [] ∧ ∀ (β : Type) (K : Int → GH → Option β), F_ref26_list R a h K = K (chkX bs) h' := by
  obtain ⟨h1, q1, k1, n1, hr⟩ := ref_loop h8 hm (R := R) (by omega) (bs.length + 1) R (at_ := 0) (out := ⟨none, 0, 0⟩) r (by omega) (by omega) (by omega) Flds.nil (by simp) (by simp [rowsOf])
  simp only [List.drop_zero] at hr
  refine ⟨h1, by simpa [rowsOf] using k1, fun β K => ?_⟩
  unfold chkX
  unfold F_ref26_list; rw [F_ref26_list_gen]
  unfold F_ref23_Read; rw [F_ref23_Read_gen]
  cases hi : idsP (bs.length + 1) bs with
  | none =>
    rw [hi] at hr
    rw [show (0 : Int) = ((0 : Nat) : Int) from rfl, hr, bne_iff_ne.2 (by omega), condT]
  | some ids =>
    rw [hi] at hr
    have hlen : ids.length ≤ 2000000 := by
      have : ∀ (f : Nat) (l : List Int) (ids : List Int), idsP f l = some ids → ids.length ≤ l.length := by
        intro f
        induction f with
        | zero => intro l ids h; cases h
        | succ f ih =>
          intro l ids h
          rw [idsP] at h
          split at h
          · cases h; simp
          · split at h
            · cases h
            · split at h
              · cases h
              · simp only [Option.map_eq_some_iff] at h
                obtain ⟨l2, h2, rfl⟩ := h
                have := ih _ _ h2
                simp only [List.length_drop, List.length_cons] at this ⊢
                omega
      have := this _ _ _ hi; omega
    have hL := list_loop (β := β) (h := h1) (q := q1) (ids := ids) (by simpa using hr.1) hlen (fun a h K => F_ref23_Read R a h K) (R := R) ids.length R 0 (by omega) (by omega) K
    rw [show (0 : Int) = ((0 : Nat) : Int) from rfl, hr.2]
    simp only [List.drop_zero] at hL
    exact hL
end
end Go.Proofs.Ytibngikhlgmhaaa.Gx

