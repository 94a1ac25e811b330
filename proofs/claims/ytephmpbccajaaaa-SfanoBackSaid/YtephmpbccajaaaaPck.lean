/- Lengths as bytes: the program's rows and the document's are one. No condition. -/
import Derived.Test.YtephmpbccajaaaaInt
import Derived.Test.YtephmpbccajaaaaGx0
namespace Go.Proofs.Ytephmpbccajaaaa.Gx
open Go Go.RowKit
set_option linter.unusedVariables false
set_option linter.unusedSimpArgs false
theorem ref_ints {h : GH} {a : Sl} {zs : List Int} (r : Rdi h a zs) (R n : Nat) : ∃ q, Rdi h q (zs.take n) ∧ (∀ k ∈ rowsOf q, k ∈ rowsOf a) ∧ ∀ (β : Type) (K : Sl → GH → Option β), F_ref01_Ints R a n h K = K q h := by
  have hn := r.ni
  have hc := r.cap
  by_cases c : a.n > n
  · refine ⟨_, r.cuti (hi := n) (by omega), fun k hk => ?_, fun β K => ?_⟩
    · cases ha : a.a with
      | none => simp [rowsOf, addO, ha] at hk
      | some x => simpa [rowsOf, addO, ha] using hk
    · unfold F_ref01_Ints; rw [F_ref01_Ints_gen, decT (by omega), condT, bnd_t (by omega) (by omega)]; rfl
  · refine ⟨a, by rw [List.take_of_length_le (by omega)]; exact r, fun k hk => hk, fun β K => ?_⟩
    unfold F_ref01_Ints; rw [F_ref01_Ints_gen, decF (by omega), condF]
def lenP (x : Int) : Prop := 1 ≤ x ∧ x ≤ 16
instance (x : Int) : Decidable (lenP x) := inferInstanceAs (Decidable (_ ∧ _))
def rightP (zs : List Int) : Bool := decide (1 ≤ zs.length ∧ zs.length ≤ 256 ∧ ∀ x ∈ zs, lenP x)
theorem right1_eq (R : Nat) (x : Int) (h : GH) {β : Type} (K : Bool → GH → Option β) : F_sfano_right_1 R x h K = K (decide (¬ lenP x)) h := by
  unfold F_sfano_right_1; rw [F_sfano_right_1_gen]; simp only [cond_dec]
  by_cases c : x < 1
  · rw [if_pos c, decT]; unfold lenP; omega
  · rw [if_neg c]; congr 1; rw [decide_eq_decide]; unfold lenP; omega
theorem getD_drop {zs : List Int} {i : Nat} (hi : i < zs.length) : zs.drop i = zs.getD i 0 :: zs.drop (i + 1) := by
  rw [List.getD_eq_getElem?_getD, List.getElem?_eq_getElem hi, Option.getD_some]; exact List.drop_eq_getElem_cons hi
theorem index_loop' {h : GH} {a : Sl} {zs : List Int} (r : Rdi h a zs) (hm : zs.length ≤ 1000000) (R : Nat) : ∀ (n i : Nat), i ≤ zs.length → zs.length < n + i → ∀ {β : Type} (K0 : GH → Option β) (Kr : Int → GH → Option β),
    (∀ x ∈ zs.drop i, lenP x) → F_slices_IndexFunc_int_s1_l0 (F_sfano_right_1 R) R n a (zs.length : Nat) (i : Nat) h K0 Kr = K0 h
  | 0, i, h1, h2, β, K0, Kr, hx => by omega
  | n + 1, i, h1, h2, β, K0, Kr, hx => by
    rw [F_slices_IndexFunc_int_s1_l0_succ, cond_dec]
    by_cases hi : i < zs.length
    · rw [if_pos (by omega), r.int (by omega) (by omega), right1_eq, Int.toNat_natCast, decF (by
        intro q; exact q (hx _ (by rw [getD_drop hi]; exact List.mem_cons_self))), condF, i64w (by omega), show ((i : Nat) : Int) + 1 = ((i + 1 : Nat) : Int) from rfl]
      exact index_loop' r hm R n (i + 1) (by omega) (by omega) K0 Kr fun x hm => hx x (by rw [getD_drop hi]; exact List.mem_cons_of_mem _ hm)
    · rw [if_neg (by omega)]
theorem index_loop'' {h : GH} {a : Sl} {zs : List Int} (r : Rdi h a zs) (hm : zs.length ≤ 1000000) (R : Nat) : ∀ (n i : Nat), i ≤ zs.length → zs.length < n + i → 
    ¬ (∀ x ∈ zs.drop i, lenP x) → ∃ j : Int, 0 ≤ j ∧ ∀ {β : Type} (K0 : GH → Option β) (Kr : Int → GH → Option β), F_slices_IndexFunc_int_s1_l0 (F_sfano_right_1 R) R n a (zs.length : Nat) (i : Nat) h K0 Kr = Kr j h
  | 0, i, h1, h2, hx => by omega
  | n + 1, i, h1, h2, hx => by
    by_cases hi : i < zs.length
    · by_cases hl : lenP (zs.getD i 0)
      · obtain ⟨j, hj, e⟩ := index_loop'' r hm R n (i + 1) (by omega) (by omega) (fun q => hx fun x hm => by
          rw [getD_drop hi] at hm
          rcases List.mem_cons.1 hm with rfl | hm
          · exact hl
          · exact q x hm)
        refine ⟨j, hj, fun K0 Kr => ?_⟩
        rw [F_slices_IndexFunc_int_s1_l0_succ, cond_dec, if_pos (by omega), r.int (by omega) (by omega), right1_eq, Int.toNat_natCast, decF (by intro q; exact q hl), condF, i64w (by omega), show ((i : Nat) : Int) + 1 = ((i + 1 : Nat) : Int) from rfl]
        exact e K0 Kr
      · refine ⟨(i : Nat), by omega, fun K0 Kr => ?_⟩
        rw [F_slices_IndexFunc_int_s1_l0_succ, cond_dec, if_pos (by omega), r.int (by omega) (by omega), right1_eq, Int.toNat_natCast, decT hl, condT]
    · exact absurd (fun x hm => by rw [List.drop_eq_nil_of_le (by omega)] at hm; cases hm) hx
theorem right_eq {h : GH} {a : Sl} {zs : List Int} (r : Rdi h a zs) (hm : zs.length ≤ 1000000) {R : Nat} (hR : 4000000 < R) {β : Type} (K : Bool → GH → Option β) : F_sfano_right R a h K = K (rightP zs) h := by
  have hn := r.ni
  unfold F_sfano_right; rw [F_sfano_right_gen]
  unfold F_slices_ContainsFunc_int_s1; rw [F_slices_ContainsFunc_int_s1_gen]
  unfold F_slices_IndexFunc_int_s1; rw [F_slices_IndexFunc_int_s1_gen, hn]
  simp only [cond_dec]
  unfold rightP
  by_cases c1 : 1 ≤ zs.length
  · rw [if_pos (by omega)]
    by_cases c2 : zs.length ≤ 256
    · rw [if_pos (by omega)]
      by_cases c3 : ∀ x ∈ zs, lenP x
      · have := fun (K0 : GH → Option β) Kr => index_loop' r hm R R 0 (by omega) (by omega) K0 Kr (by simpa using c3)
        rw [show ((0 : Nat) : Int) = 0 from rfl] at this
        rw [this, show decide ((-1 : Int) ≥ 0) = false from rfl, decT ⟨c1, c2, c3⟩]; rfl
      · obtain ⟨j, hj, this⟩ := index_loop'' r hm R R 0 (by omega) (by omega) (by simpa using c3)
        rw [show ((0 : Nat) : Int) = 0 from rfl] at this
        rw [this, decT (show j ≥ 0 from hj), decF (fun q => c3 q.2.2)]; rfl
    · rw [if_neg (by omega), decF (by omega)]
  · rw [if_neg (by omega), decF (by omega)]
theorem may_loop {h : GH} {a : Sl} {zs : List Int} (r : Rdi h a zs) (hm : zs.length ≤ 1000000) (R : Nat) : ∀ (n i : Nat), i ≤ zs.length → zs.length < n + i → ∀ {β : Type} (K0 : Sl → GH → Option β) (Kr : Bool → GH → Option β),
    F_ref06_May_l0 R n a (i : Nat) h K0 Kr = if ∀ x ∈ zs.drop i, lenP x then K0 a h else Kr false h
  | 0, i, h1, h2, β, K0, Kr => by omega
  | n + 1, i, h1, h2, β, K0, Kr => by
    have hn := r.ni
    rw [F_ref06_May_l0_succ, hn, cond_dec]
    by_cases hi : i < zs.length
    · rw [if_pos (by omega)]
      have hin : within ((i : Nat) : Int) zs.length (β := β) = within ((i : Nat) : Int) a.n := by rw [hn]
      simp only [hin, Int.toNat_natCast, r.intN hi, cond_dec]
      by_cases c1 : zs.getD i 0 < 1
      · rw [if_pos c1, if_neg]; intro q; have := q (zs.getD i 0) (by rw [getD_drop hi]; exact List.mem_cons_self); unfold lenP at this; omega
      rw [if_neg c1]
      by_cases c2 : zs.getD i 0 > 16
      · rw [if_pos c2, if_neg]; intro q; have := q (zs.getD i 0) (by rw [getD_drop hi]; exact List.mem_cons_self); unfold lenP at this; omega
      rw [if_neg c2, i64w (by omega), show ((i : Nat) : Int) + 1 = ((i + 1 : Nat) : Int) from rfl, may_loop r hm R n (i + 1) (by omega) (by omega) K0 Kr]
      by_cases c3 : ∀ x ∈ zs.drop (i + 1), lenP x
      · rw [if_pos c3, if_pos]; rw [getD_drop hi]; intro x hx; rcases List.mem_cons.1 hx with rfl | hx
        · unfold lenP; omega
        · exact c3 x hx
      · rw [if_neg c3, if_neg]; intro q; exact c3 fun x hx => q x (by rw [getD_drop hi]; exact List.mem_cons_of_mem _ hx)
    · rw [if_neg (by omega), if_pos]; rw [List.drop_eq_nil_of_le (by omega)]; simp
theorem may_eq {h : GH} {a : Sl} {zs : List Int} (r : Rdi h a zs) (hm : zs.length ≤ 1000000) {R : Nat} (hR : 4000000 < R) {β : Type} (K : Bool → GH → Option β) : F_ref06_May R a h K = K (rightP zs) h := by
  have hn := r.ni
  unfold F_ref06_May; rw [F_ref06_May_gen]
  have := may_loop r hm R R 0 (by omega) (by omega) (β := β)
  rw [show ((0 : Nat) : Int) = 0 from rfl] at this
  rw [this, List.drop_zero]
  unfold rightP
  by_cases c3 : ∀ x ∈ zs, lenP x
  · rw [if_pos c3, hn]; simp only [cond_dec]
    by_cases c1 : 1 ≤ zs.length
    · rw [if_pos (by omega)]; congr 1; rw [decide_eq_decide]; constructor
      · intro q; exact ⟨c1, by omega, c3⟩
      · intro q; omega
    · rw [if_neg (by omega), decF (by omega)]
  · rw [if_neg c3, decF (fun q => c3 q.2.2)]
end Go.Proofs.Ytephmpbccajaaaa.Gx

