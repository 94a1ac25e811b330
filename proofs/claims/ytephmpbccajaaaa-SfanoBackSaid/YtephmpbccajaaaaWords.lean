/- The words of lengths, the program's and the document's: the law. No condition. -/
import Derived.Test.YtephmpbccajaaaaTreeB
namespace Go.Proofs.Ytephmpbccajaaaa.Gx
open Go Go.RowKit
set_option linter.unusedVariables false
set_option linter.unusedSimpArgs false
theorem scodes_loop {h : GH} {a b : Sl} {cs : List (Int × Int)} (r : Row h a 2 (codesV cs)) (r2 : Row h b 2 (codesV cs)) (hm : cs.length ≤ 1000000) (R : Nat) {β : Type} (K0 : GH → Option β) (Kr : Bool → GH → Option β) : ∀ (n i : Nat), i ≤ cs.length → cs.length < n + i → F_ref04_SameCodes_l0 R n a b (i : Nat) h K0 Kr = K0 h
  | 0, i, h1, h2 => by omega
  | n + 1, i, h1, h2 => by
    have l1 : a.n = cs.length := by have := r.len; rw [codesV_length] at this; omega
    have l2 : b.n = cs.length := by have := r2.len; rw [codesV_length] at this; omega
    rw [F_ref04_SameCodes_l0_succ, l1]
    by_cases hi : i < cs.length
    · obtain ⟨_, ga, oa, haa, ca⟩ := r.code (by omega)
      obtain ⟨_, gb, ob, hab, cb⟩ := r2.code (by omega)
      have ca := ca i hi
      have cb := cb i hi
      rw [decT (by omega), condT, haa, hab]
      simp only [exA_s, l2, within_n hi, Int.toNat_natCast, ca.1, ca.2, cb.1, cb.2, exI_s, beq_self_eq_true, Bool.and_self, notT, condF]
      rw [i64w (by omega), show ((i : Nat) : Int) + 1 = ((i + 1 : Nat) : Int) from rfl]
      exact scodes_loop r r2 hm R K0 Kr n (i + 1) (by omega) (by omega)
    · rw [decF (by omega), condF]
theorem same_codes {h : GH} {a b : Sl} {cs : List (Int × Int)} (r : Row h a 2 (codesV cs)) (r2 : Row h b 2 (codesV cs)) (hm : cs.length ≤ 1000000) {R : Nat} (hR : 4000000 < R) {β : Type} (K : Bool → GH → Option β) : F_ref04_SameCodes R a b h K = K true h := by
  have l1 : a.n = cs.length := by have := r.len; rw [codesV_length] at this; omega
  have l2 : b.n = cs.length := by have := r2.len; rw [codesV_length] at this; omega
  unfold F_ref04_SameCodes; rw [F_ref04_SameCodes_gen, l1, l2, bne_self_eq_false, condF]
  exact scodes_loop r r2 hm R (fun h15 => K true h15) (fun w16 h17 => K w16 h17) R 0 (by omega) (by omega)
theorem sints_loop {h : GH} {a b : Sl} {zs : List Int} (r : Rdi h a zs) (r2 : Rdi h b zs) (hm : zs.length ≤ 1000000) (R : Nat) {β : Type} (K0 : GH → Option β) (Kr : Bool → GH → Option β) : ∀ (n i : Nat), i ≤ zs.length → zs.length < n + i → F_ref01_SameInts_l0 R n a b (i : Nat) h K0 Kr = K0 h
  | 0, i, h1, h2 => by omega
  | n + 1, i, h1, h2 => by
    have l1 := r.ni
    have l2 := r2.ni
    rw [F_ref01_SameInts_l0_succ]
    by_cases hi : i < zs.length
    · rw [l1, decT (by omega), condT]
      have ga : ∀ (K : Int → Option β), (exA a.a fun g o => within ((i : Nat) : Int) zs.length (exI .i64 (h.cell ⟨g, o + ((i : Nat) : Int).toNat * 1, none⟩) K)) = K (zs.getD i 0) := fun K => by
        have := r.intN (β := β) hi K
        rw [l1] at this; exact this
      have gb : ∀ (K : Int → Option β), (exA b.a fun g o => within ((i : Nat) : Int) b.n (exI .i64 (h.cell ⟨g, o + ((i : Nat) : Int).toNat * 1, none⟩) K)) = K (zs.getD i 0) := fun K => r2.intN (β := β) hi K
      rw [ga, gb, bne_self_eq_false, condF, i64w (by omega), show ((i : Nat) : Int) + 1 = ((i + 1 : Nat) : Int) from rfl]
      exact sints_loop r r2 hm R K0 Kr n (i + 1) (by omega) (by omega)
    · rw [l1, decF (by omega), condF]
theorem same_ints {h : GH} {a b : Sl} {zs : List Int} (r : Rdi h a zs) (r2 : Rdi h b zs) (hm : zs.length ≤ 1000000) {R : Nat} (hR : 4000000 < R) {β : Type} (K : Bool → GH → Option β) : F_ref01_SameInts R a b h K = K true h := by
  unfold F_ref01_SameInts; rw [F_ref01_SameInts_gen, r.ni, r2.ni, bne_self_eq_false, condF]
  exact sints_loop r r2 hm R (fun h13 => K true h13) (fun w14 h15 => K w14 h15) R 0 (by omega) (by omega)
theorem wordsP_le (zs : List Int) : (wordsP zs).length ≤ zs.length := by
  by_cases c : checkE zs = 0
  · rw [wordsP_length c]; exact Nat.le_refl _
  · rw [wordsP, if_neg c]; simp
theorem words_true {h : GH} {a : Sl} {zs : List Int} (r : Rdi h a zs) {R : Nat} (hR : 4000000 < R) : ∃ h', ∀ (β : Type) (K : Bool → GH → Option β), F_law06_SfanoWords R a h K = K true h' := by
  obtain ⟨q, rq, _, e1⟩ := ref_ints r R 260
  have hm : (zs.take 260).length ≤ 260 := by simp; omega
  obtain ⟨h1, s, ea, v1, k1, n1, l1⟩ := app_vec (by_ := 8) (Vec.nil (h := h) (z := 1)) rq Nat.one_pos (allCells_i64s _) (by have := rq.ni; simp [most]; omega)
  rw [List.nil_append] at v1
  have rs : Rdi h1 s (zs.take 260) := v1.row
  have rq1 := rq.keep k1 (by simp [rowsOf])
  obtain ⟨h2, q2, k2, r2, n2, e2⟩ := prog_codes rs (by omega) hR
  obtain ⟨h3, q3, k3, r3, n3, e3⟩ := ref_words (rq1.keep k2 (by simp)) (by omega) hR
  obtain ⟨h4, p, k4, hp, e4⟩ := prog_new ((rs.keep k2 (by simp)).keep k3 (by simp)) (by omega) hR
  have r2' := (r2.keep k3 (by simp)).keep k4 (by simp)
  have r3' := r3.keep k4 (by simp)
  have rs' := ((rs.keep k2 (by simp)).keep k3 (by simp)).keep k4 (by simp)
  have rq' := ((rq1.keep k2 (by simp)).keep k3 (by simp)).keep k4 (by simp)
  have hw := wordsP_le (zs.take 260)
  refine ⟨h4, fun β K => ?_⟩
  unfold F_law06_SfanoWords; rw [F_law06_SfanoWords_gen]
  rw [show ((260 : Nat) : Int) = 260 from rfl] at e1
  rw [e1, ea, e2, e3, e4, same_codes r2' r3' (by omega) hR, condT, beq_self_eq_true, condT, condT]
  have hb : (p.isNone == (checkE (zs.take 260) != 0)) = true := by
    rcases hp with ⟨c, rfl⟩ | ⟨c, gd, gt, T, ps, rfl, _⟩
    · rw [bne_int, decT c]; rfl
    · rw [c]; rfl
  rw [hb, condT, same_ints rs' rq' (by omega) hR, condT, lives06]
theorem words_any {W : World} {a : Option Addr} {len cap : Nat} {zs : List Int} (hr : IsRow .i64 W a len cap zs) : Calls Try.prog 5 #[.slice a len cap] W fun e W' => e = .returned (.bool true) ∧ Below W.heap.size W W' := by
  let l : List Ar := [⟨a, len, cap, 1, i64s (zs.take len)⟩]
  have ok : ∀ x ∈ l, ArOk (arInj l) W x := fun x hx => by cases List.mem_singleton.1 hx; exact ar_ints hr _
  obtain ⟨h', e⟩ := words_true (ar_row (l := l) (g := 0) rfl (ar_ints hr (arInj l))) (R := rounds) (by unfold rounds; omega)
  obtain ⟨v, h1, hk, hc⟩ := F_law06_SfanoWords_sim (β := Value × GH) (r := (.bool true, h')) (K := fun v h => some (v, h)) (e _ _)
  cases hk
  exact ar_calls ok hc (.cons (ar_vr (l := l) (g := 0) rfl (ar_ints hr (arInj l))) .nil)
end Go.Proofs.Ytephmpbccajaaaa.Gx

