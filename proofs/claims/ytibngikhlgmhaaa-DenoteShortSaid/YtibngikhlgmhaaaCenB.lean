/- CheckCentral, the program's and the document's: one law. No condition. -/
import Derived.Test.YtibngikhlgmhaaaCen
namespace Go.Proofs.Ytibngikhlgmhaaa.Gx
open Go
set_option linter.unusedVariables false
set_option linter.unusedSimpArgs false
def flagsP (m f : Int) : Prop := (moreP m = true ∧ (f = 0 ∨ f = 2 ∨ f = 4 ∨ f = 6)) ∨ (¬ moreP m = true ∧ f = 0)
instance (m f : Int) : Decidable (flagsP m f) := inferInstanceAs (Decidable (_ ∨ _))
def halvesP (a1 a2 a3 a4 a5 a11 a12 a13 : Int) : Prop := two a1 ∧ two a2 ∧ two a3 ∧ two a4 ∧ two a5 ∧ two a11 ∧ two a12 ∧ two a13
instance (a1 a2 a3 a4 a5 a11 a12 a13 : Int) : Decidable (halvesP a1 a2 a3 a4 a5 a11 a12 a13) := inferInstanceAs (Decidable (_ ∧ _))
/-- what a central header's check answers -/
def chkC (a1 a2 a3 a4 a5 a7 a8 a11 a12 a13 a15 : Int) (ex : List Int) : Int :=
  if ¬ halvesP a1 a2 a3 a4 a5 a11 a12 a13 then 18 else
  if a12 ≠ 0 ∨ a7 = 4294967295 ∨ a8 = 4294967295 ∨ a15 = 4294967295 then 12 else
  if ¬ knownP a3 = true then 11 else
  if ¬ flagsP a3 a2 ∨ a1 > 21 then 12 else
  if a3 = 0 ∧ a7 ≠ a8 then 9 else
  if chkX ex ≠ 0 then chkX ex else unpP a4 a5
section
variable (h : GH) (a1 a2 a3 a4 a5 a6 a7 a8 : Int) (a9 a10 : Sl) (a11 a12 a13 a14 a15 : Int) (a16 : Sl)
def cen16 : List Value := [Value.int .i64 a1, Value.int .i64 a2, Value.int .i64 a3, Value.int .i64 a4, Value.int .i64 a5, Value.int .u32 a6, Value.int .u32 a7, Value.int .u32 a8, Value.slice a9.a a9.n a9.c, Value.slice a10.a a10.n a10.c, Value.int .i64 a11, Value.int .i64 a12, Value.int .i64 a13, Value.int .u32 a14, Value.int .u32 a15, Value.slice a16.a a16.n a16.c]
def cen10 : List Value := [Value.int .i64 a1, Value.int .i64 a2, Value.int .i64 a3, Value.int .i64 a4, Value.int .i64 a5, Value.int .u32 a6, Value.int .u32 a7, Value.int .u32 a8, Value.slice a9.a a9.n a9.c, Value.slice a10.a a10.n a10.c]
def cenH : GH := (((h.push (.row ⟨[Value.int .i64 a1, Value.int .i64 a2, Value.int .i64 a3, Value.int .i64 a4, Value.int .i64 a5, Value.int .u32 a6, Value.int .u32 a7, Value.int .u32 a8, Value.slice a9.a a9.n a9.c, Value.slice a10.a a10.n a10.c, Value.int .i64 a11, Value.int .i64 a12, Value.int .i64 a13, Value.int .u32 a14, Value.int .u32 a15, Value.slice a16.a a16.n a16.c], 0, false⟩)).push (.row ⟨[Value.int .i64 0, Value.int .i64 0, Value.int .i64 0, Value.int .i64 0, Value.int .i64 0, Value.int .u32 0, Value.int .u32 0, Value.int .u32 0, Value.slice none 0 0, Value.slice none 0 0], 0, false⟩)).put (h.next + 1) (some (.row ⟨[Value.int .i64 a1, Value.int .i64 a2, Value.int .i64 a3, Value.int .i64 a4, Value.int .i64 a5, Value.int .u32 a6, Value.int .u32 a7, Value.int .u32 a8, Value.slice a9.a a9.n a9.c, Value.slice a10.a a10.n a10.c], 0, false⟩))).push (.row ⟨[Value.int .i64 a1, Value.int .i64 a2, Value.int .i64 a3, Value.int .i64 a4, Value.int .i64 a5, Value.int .i64 a11, Value.int .i64 a12, Value.int .i64 a13], 1, false⟩)
theorem cenH_17 : (cenH h a1 a2 a3 a4 a5 a6 a7 a8 a9 a10 a11 a12 a13 a14 a15 a16).look h.next = some (.row ⟨[Value.int .i64 a1, Value.int .i64 a2, Value.int .i64 a3, Value.int .i64 a4, Value.int .i64 a5, Value.int .u32 a6, Value.int .u32 a7, Value.int .u32 a8, Value.slice a9.a a9.n a9.c, Value.slice a10.a a10.n a10.c, Value.int .i64 a11, Value.int .i64 a12, Value.int .i64 a13, Value.int .u32 a14, Value.int .u32 a15, Value.slice a16.a a16.n a16.c], 0, false⟩) := by simp only [cenH, look_push_if, look_put_if, cell_look, rowCell_row, nth_0, nth_s, gnew_if, gput_if, allCells_n, allCells_c, isCell_i, isCell_b, isCell_s, isCell_p, ble_dec, nlay_def, sameAt_1, veqO_i, veqO_b, veqO_s, veqO_p, exS_s', exA_s, exI_s, exB_s, exP_s, exS_s, condT, condF, notT, notF, isNone_s, next_push, next_put, Nat.zero_add, Nat.add_zero, Nat.add_assoc, Nat.reduceAdd, if_true, if_false, Bool.and_true, Bool.true_and, Bool.or_false, Bool.false_or, Nat.reduceEqDiff, Nat.add_eq_left, Nat.left_eq_add, reduceCtorEq, List.length_cons, List.length_nil, List.take_zero, List.take_succ_cons, List.take_nil, List.drop_zero, List.drop_succ_cons, List.drop_nil, List.nil_append, List.cons_append, List.append_nil, decide_true, decide_false, Nat.reduceLeDiff, Nat.le_refl, Nat.lt_add_one, Nat.lt_add_right_iff_pos, Nat.zero_lt_one, Nat.reduceLT, Nat.succ_ne_self, Nat.one_ne_zero, Nat.add_left_cancel_iff, ite_self]
theorem cenH_29 : (cenH h a1 a2 a3 a4 a5 a6 a7 a8 a9 a10 a11 a12 a13 a14 a15 a16).look (h.next + 1) = some (.row ⟨[Value.int .i64 a1, Value.int .i64 a2, Value.int .i64 a3, Value.int .i64 a4, Value.int .i64 a5, Value.int .u32 a6, Value.int .u32 a7, Value.int .u32 a8, Value.slice a9.a a9.n a9.c, Value.slice a10.a a10.n a10.c], 0, false⟩) := by simp only [cenH, look_push_if, look_put_if, cell_look, rowCell_row, nth_0, nth_s, gnew_if, gput_if, allCells_n, allCells_c, isCell_i, isCell_b, isCell_s, isCell_p, ble_dec, nlay_def, sameAt_1, veqO_i, veqO_b, veqO_s, veqO_p, exS_s', exA_s, exI_s, exB_s, exP_s, exS_s, condT, condF, notT, notF, isNone_s, next_push, next_put, Nat.zero_add, Nat.add_zero, Nat.add_assoc, Nat.reduceAdd, if_true, if_false, Bool.and_true, Bool.true_and, Bool.or_false, Bool.false_or, Nat.reduceEqDiff, Nat.add_eq_left, Nat.left_eq_add, reduceCtorEq, List.length_cons, List.length_nil, List.take_zero, List.take_succ_cons, List.take_nil, List.drop_zero, List.drop_succ_cons, List.drop_nil, List.nil_append, List.cons_append, List.append_nil, decide_true, decide_false, Nat.reduceLeDiff, Nat.le_refl, Nat.lt_add_one, Nat.lt_add_right_iff_pos, Nat.zero_lt_one, Nat.reduceLT, Nat.succ_ne_self, Nat.one_ne_zero, Nat.add_left_cancel_iff, ite_self]
theorem cenH_40 : (cenH h a1 a2 a3 a4 a5 a6 a7 a8 a9 a10 a11 a12 a13 a14 a15 a16).look (h.next + 2) = some (.row ⟨i64s [a1, a2, a3, a4, a5, a11, a12, a13], 1, false⟩) := by simp only [cenH, look_push_if, look_put_if, cell_look, rowCell_row, nth_0, nth_s, gnew_if, gput_if, allCells_n, allCells_c, isCell_i, isCell_b, isCell_s, isCell_p, ble_dec, nlay_def, sameAt_1, veqO_i, veqO_b, veqO_s, veqO_p, exS_s', exA_s, exI_s, exB_s, exP_s, exS_s, condT, condF, notT, notF, isNone_s, next_push, next_put, Nat.zero_add, Nat.add_zero, Nat.add_assoc, Nat.reduceAdd, if_true, if_false, Bool.and_true, Bool.true_and, Bool.or_false, Bool.false_or, Nat.reduceEqDiff, Nat.add_eq_left, Nat.left_eq_add, reduceCtorEq, List.length_cons, List.length_nil, List.take_zero, List.take_succ_cons, List.take_nil, List.drop_zero, List.drop_succ_cons, List.drop_nil, List.nil_append, List.cons_append, List.append_nil, decide_true, decide_false, Nat.reduceLeDiff, Nat.le_refl, Nat.lt_add_one, Nat.lt_add_right_iff_pos, Nat.zero_lt_one, Nat.reduceLT, Nat.succ_ne_self, Nat.one_ne_zero, Nat.add_left_cancel_iff, ite_self]; rfl
theorem cenH_keep : Keep h (cenH h a1 a2 a3 a4 a5 a6 a7 a8 a9 a10 a11 a12 a13 a14 a15 a16) [] := ((((Keep.refl h []).pushR _).pushR _).putR _ _ (.inr (by omega))).pushR _
theorem cen_halves {β : Type} {R : Nat} (hR : 4000000 < R) (K : Bool → GH → Option β) : F_denote_halves R ⟨some ⟨h.next + 2, 0, none⟩, 8, 8⟩ (cenH h a1 a2 a3 a4 a5 a6 a7 a8 a9 a10 a11 a12 a13 a14 a15 a16) K = K (decide (halvesP a1 a2 a3 a4 a5 a11 a12 a13)) (cenH h a1 a2 a3 a4 a5 a6 a7 a8 a9 a10 a11 a12 a13 a14 a15 a16) := by
  unfold F_denote_halves; rw [F_denote_halves_gen]
  have := halves_loop (R := R) (c := 8) (cenH_40 h a1 a2 a3 a4 a5 a6 a7 a8 a9 a10 a11 a12 a13 a14 a15 a16) (by simp) R 0 (by omega) (by simp; omega) (fun h9 => K true h9) (fun w10 h11 => K w10 h11)
  refine Eq.trans this ?_
  by_cases c : halvesP a1 a2 a3 a4 a5 a11 a12 a13
  · rw [decT c, if_pos]; simpa [halvesP] using c
  · rw [decF c, if_neg]; simpa [halvesP] using c
theorem cen_refhalves {β : Type} {R : Nat} (hR : 4000000 < R) (F1 : Int → GH → (Bool → GH → Option β) → Option β) (F2 : Int → GH → (Int → GH → Option β) → Option β) (F3 : Sl → GH → (Int → GH → Option β) → Option β) (F4 : Int → Int → GH → (Int → Int → Int → Int → Int → Int → Int → GH → Option β) → Option β) (p q : Option Addr) (K0 : Option Addr → Option Addr → GH → Option β) (Kr : Int → GH → Option β) :
    F_ref26_CheckCentral_l0 F1 F2 F3 F4 R R p q ⟨some ⟨h.next + 2, 0, none⟩, 8, 8⟩ 0 (cenH h a1 a2 a3 a4 a5 a6 a7 a8 a9 a10 a11 a12 a13 a14 a15 a16) K0 Kr = if halvesP a1 a2 a3 a4 a5 a11 a12 a13 then K0 p q (cenH h a1 a2 a3 a4 a5 a6 a7 a8 a9 a10 a11 a12 a13 a14 a15 a16) else Kr 18 (cenH h a1 a2 a3 a4 a5 a6 a7 a8 a9 a10 a11 a12 a13 a14 a15 a16) := by
  have := refhalves_loop (R := R) (c := 8) p q (cenH_40 h a1 a2 a3 a4 a5 a6 a7 a8 a9 a10 a11 a12 a13 a14 a15 a16) (by simp) R 0 (by omega) (by simp; omega) F1 F2 F3 F4 K0 Kr
  refine Eq.trans this ?_
  by_cases c : halvesP a1 a2 a3 a4 a5 a11 a12 a13
  · rw [if_pos c, if_pos]; simpa [halvesP] using c
  · rw [if_neg c, if_neg]; simpa [halvesP] using c

/-- all but the extra field and the time -/
def passC (a1 a2 a3 a4 a5 a7 a8 a11 a12 a13 a15 : Int) : Prop := halvesP a1 a2 a3 a4 a5 a11 a12 a13 ∧ ¬ (a12 ≠ 0 ∨ a7 = 4294967295 ∨ a8 = 4294967295 ∨ a15 = 4294967295) ∧ knownP a3 = true ∧ flagsP a3 a2 ∧ ¬ a1 > 21 ∧ ¬ (a3 = 0 ∧ a7 ≠ a8)
instance (a1 a2 a3 a4 a5 a7 a8 a11 a12 a13 a15 : Int) : Decidable (passC a1 a2 a3 a4 a5 a7 a8 a11 a12 a13 a15) := inferInstanceAs (Decidable (_ ∧ _))
theorem chkC_pass {a1 a2 a3 a4 a5 a7 a8 a11 a12 a13 a15 : Int} (hp : passC a1 a2 a3 a4 a5 a7 a8 a11 a12 a13 a15) (bs : List Int) : chkC a1 a2 a3 a4 a5 a7 a8 a11 a12 a13 a15 bs = if chkX bs ≠ 0 then chkX bs else unpP a4 a5 := by
  obtain ⟨p1, p2, p3, p4, p5, p6⟩ := hp
  rw [chkC, if_neg (by simpa using p1), if_neg p2, if_neg (by simpa using p3), if_neg (by rintro (q | q) <;> contradiction), if_neg p6]
theorem check_central {bs : List Int} (r : Rd h a10 bs) (h8 : B8 bs) (hm : bs.length ≤ 2000000) {R : Nat} (hR : 4000000 < R) : ∃ h', Keep h h' [] ∧ ∀ (β : Type) (K : Int → GH → Option β), F_denote_CheckCentral R a1 a2 a3 a4 a5 a6 a7 a8 a9 a10 a11 a12 a13 a14 a15 a16 h K = K (chkC a1 a2 a3 a4 a5 a7 a8 a11 a12 a13 a15 bs) h' := by
  have k1 := cenH_keep h a1 a2 a3 a4 a5 a6 a7 a8 a9 a10 a11 a12 a13 a14 a15 a16
  have l17 := cenH_17 h a1 a2 a3 a4 a5 a6 a7 a8 a9 a10 a11 a12 a13 a14 a15 a16
  have l29 := cenH_29 h a1 a2 a3 a4 a5 a6 a7 a8 a9 a10 a11 a12 a13 a14 a15 a16
  have hf := fun (β : Type) => cen_halves (β := β) h a1 a2 a3 a4 a5 a6 a7 a8 a9 a10 a11 a12 a13 a14 a15 a16 hR
  have r1 := r.keep k1 (by simp)
  obtain ⟨H, hH⟩ : ∃ H, H = cenH h a1 a2 a3 a4 a5 a6 a7 a8 a9 a10 a11 a12 a13 a14 a15 a16 := ⟨_, rfl⟩
  rw [← hH] at k1 l17 l29 r1
  unfold cenH at hH
  have hf : ∀ (β : Type) (K : Bool → GH → Option β), F_denote_halves R ⟨some ⟨h.next + 2, 0, none⟩, 8, 8⟩ H K = K (decide (halvesP a1 a2 a3 a4 a5 a11 a12 a13)) H := by rw [hH]; exact hf
  by_cases hp : passC a1 a2 a3 a4 a5 a7 a8 a11 a12 a13 a15
  · rw [chkC_pass hp]
    obtain ⟨p1, p2, p3, p4, p5, p6⟩ := hp
    obtain ⟨h2, k2, e2⟩ := check_extra r1 h8 hm hR
    have l17' := k2.look l17 (by simp)
    have l29' := k2.look l29 (by simp)
    have p1' := p1
    obtain ⟨-, -, -, t4, t5, -⟩ := p1'
    obtain ⟨h3, q1, q2, q3, q4, q5, q6, k3, e3⟩ := dos_unpack R t4 t5 h2
    have f1 : ¬ needP a3 = 0 := by rw [needP_0]; simpa using p3
    have f2 : ¬ (a12 ≠ 0) := fun q => p2 (.inl q)
    have f3 : ¬ a7 = 4294967295 := fun q => p2 (.inr (.inl q))
    have f4 : ¬ a8 = 4294967295 := fun q => p2 (.inr (.inr (.inl q)))
    have f5 : ¬ a15 = 4294967295 := fun q => p2 (.inr (.inr (.inr q)))
    have f6 : ¬ (IntKind.wrap .i64 (BitVec.ofInt (IntKind.bits .i64) a2 &&& ~~~ BitVec.ofInt (IntKind.bits .i64) (if moreP a3 = true then 6 else 0)).toNat ≠ 0) := fun hne => by
      rcases p4 with ⟨m, f⟩ | ⟨m, f⟩
      · rw [if_pos m] at hne; exact hne ((andnot6 a2 p1.2.1).2 f)
      · rw [if_neg m, andnot0 a2 p1.2.1] at hne; exact hne f
    by_cases c1 : chkX bs ≠ 0
    · rw [if_pos c1]
      refine ⟨h2, k1.trans k2 (by simp), fun β K => ?_⟩
      unfold F_denote_CheckCentral; rw [F_denote_CheckCentral_gen]
      simp only [look_push_if, look_put_if, cell_look, rowCell_row, nth_0, nth_s, gnew_if, gput_if, allCells_n, allCells_c, isCell_i, isCell_b, isCell_s, isCell_p, ble_dec, nlay_def, sameAt_1, veqO_i, veqO_b, veqO_s, veqO_p, exS_s', exA_s, exI_s, exB_s, exP_s, exS_s, condT, condF, notT, notF, isNone_s, next_push, next_put, Nat.zero_add, Nat.add_zero, Nat.add_assoc, Nat.reduceAdd, if_true, if_false, Bool.and_true, Bool.true_and, Bool.or_false, Bool.false_or, Nat.reduceEqDiff, Nat.add_eq_left, Nat.left_eq_add, reduceCtorEq, List.length_cons, List.length_nil, List.take_zero, List.take_succ_cons, List.take_nil, List.drop_zero, List.drop_succ_cons, List.drop_nil, List.nil_append, List.cons_append, List.append_nil, decide_true, decide_false, Nat.reduceLeDiff, Nat.le_refl, Nat.lt_add_one, Nat.lt_add_right_iff_pos, Nat.zero_lt_one, Nat.reduceLT, Nat.succ_ne_self, Nat.one_ne_zero, Nat.add_left_cancel_iff, ite_self]
      simp only [← hH, hf, l17, l29, need_eq, allowed_eq, e2, look_push_if, look_put_if, cell_look, rowCell_row, nth_0, nth_s, gnew_if, gput_if, allCells_n, allCells_c, isCell_i, isCell_b, isCell_s, isCell_p, ble_dec, nlay_def, sameAt_1, veqO_i, veqO_b, veqO_s, veqO_p, exS_s', exA_s, exI_s, exB_s, exP_s, exS_s, condT, condF, notT, notF, isNone_s, next_push, next_put, Nat.zero_add, Nat.add_zero, Nat.add_assoc, Nat.reduceAdd, if_true, if_false, Bool.and_true, Bool.true_and, Bool.or_false, Bool.false_or, Nat.reduceEqDiff, Nat.add_eq_left, Nat.left_eq_add, reduceCtorEq, List.length_cons, List.length_nil, List.take_zero, List.take_succ_cons, List.take_nil, List.drop_zero, List.drop_succ_cons, List.drop_nil, List.nil_append, List.cons_append, List.append_nil, decide_true, decide_false, Nat.reduceLeDiff, Nat.le_refl, Nat.lt_add_one, Nat.lt_add_right_iff_pos, Nat.zero_lt_one, Nat.reduceLT, Nat.succ_ne_self, Nat.one_ne_zero, Nat.add_left_cancel_iff, ite_self, bne_int, beq_int, not_dec, cond_dec]
      rw [if_neg (by simpa using p1), if_neg f2, if_neg f3, if_neg f4, if_neg f5, if_neg f1, if_neg f6, if_neg p5]
      by_cases c2 : a3 = 0
      · rw [if_pos c2, if_neg (fun q => p6 ⟨c2, q⟩), if_pos c1]
      · rw [if_neg c2, if_pos c1]
    · rw [if_neg c1]
      refine ⟨_, ((((k1.trans k2 (by simp)).trans k3 (by simp)).pushR (.row ⟨[Value.int .i64 0, Value.int .i64 0, Value.int .i64 0, Value.int .i64 0, Value.int .i64 0, Value.int .i64 0], 0, false⟩)).putR h3.next (some (.row ⟨[.int .i64 q1, .int .i64 q2, .int .i64 q3, .int .i64 q4, .int .i64 q5, .int .i64 q6], 0, false⟩)) (.inr ((k1.trans k2 (by simp)).trans k3 (by simp)).1)), fun β K => ?_⟩
      unfold F_denote_CheckCentral; rw [F_denote_CheckCentral_gen]
      simp only [look_push_if, look_put_if, cell_look, rowCell_row, nth_0, nth_s, gnew_if, gput_if, allCells_n, allCells_c, isCell_i, isCell_b, isCell_s, isCell_p, ble_dec, nlay_def, sameAt_1, veqO_i, veqO_b, veqO_s, veqO_p, exS_s', exA_s, exI_s, exB_s, exP_s, exS_s, condT, condF, notT, notF, isNone_s, next_push, next_put, Nat.zero_add, Nat.add_zero, Nat.add_assoc, Nat.reduceAdd, if_true, if_false, Bool.and_true, Bool.true_and, Bool.or_false, Bool.false_or, Nat.reduceEqDiff, Nat.add_eq_left, Nat.left_eq_add, reduceCtorEq, List.length_cons, List.length_nil, List.take_zero, List.take_succ_cons, List.take_nil, List.drop_zero, List.drop_succ_cons, List.drop_nil, List.nil_append, List.cons_append, List.append_nil, decide_true, decide_false, Nat.reduceLeDiff, Nat.le_refl, Nat.lt_add_one, Nat.lt_add_right_iff_pos, Nat.zero_lt_one, Nat.reduceLT, Nat.succ_ne_self, Nat.one_ne_zero, Nat.add_left_cancel_iff, ite_self]
      simp only [← hH, hf, l17, l29, need_eq, allowed_eq, e2, l29', e3, look_push_if, look_put_if, cell_look, rowCell_row, nth_0, nth_s, gnew_if, gput_if, allCells_n, allCells_c, isCell_i, isCell_b, isCell_s, isCell_p, ble_dec, nlay_def, sameAt_1, veqO_i, veqO_b, veqO_s, veqO_p, exS_s', exA_s, exI_s, exB_s, exP_s, exS_s, condT, condF, notT, notF, isNone_s, next_push, next_put, Nat.zero_add, Nat.add_zero, Nat.add_assoc, Nat.reduceAdd, if_true, if_false, Bool.and_true, Bool.true_and, Bool.or_false, Bool.false_or, Nat.reduceEqDiff, Nat.add_eq_left, Nat.left_eq_add, reduceCtorEq, List.length_cons, List.length_nil, List.take_zero, List.take_succ_cons, List.take_nil, List.drop_zero, List.drop_succ_cons, List.drop_nil, List.nil_append, List.cons_append, List.append_nil, decide_true, decide_false, Nat.reduceLeDiff, Nat.le_refl, Nat.lt_add_one, Nat.lt_add_right_iff_pos, Nat.zero_lt_one, Nat.reduceLT, Nat.succ_ne_self, Nat.one_ne_zero, Nat.add_left_cancel_iff, ite_self, bne_int, beq_int, not_dec, cond_dec]
      rw [if_neg (by simpa using p1), if_neg f2, if_neg f3, if_neg f4, if_neg f5, if_neg f1, if_neg f6, if_neg p5]
      by_cases c2 : a3 = 0
      · rw [if_pos c2, if_neg (fun q => p6 ⟨c2, q⟩), if_neg c1]
      · rw [if_neg c2, if_neg c1]
  · refine ⟨H, k1, fun β K => ?_⟩
    obtain ⟨v, hv⟩ : ∃ v, v = chkC a1 a2 a3 a4 a5 a7 a8 a11 a12 a13 a15 bs := ⟨_, rfl⟩
    rw [← hv]; unfold chkC at hv
    unfold F_denote_CheckCentral; rw [F_denote_CheckCentral_gen]
    simp only [look_push_if, look_put_if, cell_look, rowCell_row, nth_0, nth_s, gnew_if, gput_if, allCells_n, allCells_c, isCell_i, isCell_b, isCell_s, isCell_p, ble_dec, nlay_def, sameAt_1, veqO_i, veqO_b, veqO_s, veqO_p, exS_s', exA_s, exI_s, exB_s, exP_s, exS_s, condT, condF, notT, notF, isNone_s, next_push, next_put, Nat.zero_add, Nat.add_zero, Nat.add_assoc, Nat.reduceAdd, if_true, if_false, Bool.and_true, Bool.true_and, Bool.or_false, Bool.false_or, Nat.reduceEqDiff, Nat.add_eq_left, Nat.left_eq_add, reduceCtorEq, List.length_cons, List.length_nil, List.take_zero, List.take_succ_cons, List.take_nil, List.drop_zero, List.drop_succ_cons, List.drop_nil, List.nil_append, List.cons_append, List.append_nil, decide_true, decide_false, Nat.reduceLeDiff, Nat.le_refl, Nat.lt_add_one, Nat.lt_add_right_iff_pos, Nat.zero_lt_one, Nat.reduceLT, Nat.succ_ne_self, Nat.one_ne_zero, Nat.add_left_cancel_iff, ite_self]
    simp only [← hH, hf, l17, l29, need_eq, allowed_eq, look_push_if, look_put_if, cell_look, rowCell_row, nth_0, nth_s, gnew_if, gput_if, allCells_n, allCells_c, isCell_i, isCell_b, isCell_s, isCell_p, ble_dec, nlay_def, sameAt_1, veqO_i, veqO_b, veqO_s, veqO_p, exS_s', exA_s, exI_s, exB_s, exP_s, exS_s, condT, condF, notT, notF, isNone_s, next_push, next_put, Nat.zero_add, Nat.add_zero, Nat.add_assoc, Nat.reduceAdd, if_true, if_false, Bool.and_true, Bool.true_and, Bool.or_false, Bool.false_or, Nat.reduceEqDiff, Nat.add_eq_left, Nat.left_eq_add, reduceCtorEq, List.length_cons, List.length_nil, List.take_zero, List.take_succ_cons, List.take_nil, List.drop_zero, List.drop_succ_cons, List.drop_nil, List.nil_append, List.cons_append, List.append_nil, decide_true, decide_false, Nat.reduceLeDiff, Nat.le_refl, Nat.lt_add_one, Nat.lt_add_right_iff_pos, Nat.zero_lt_one, Nat.reduceLT, Nat.succ_ne_self, Nat.one_ne_zero, Nat.add_left_cancel_iff, ite_self, bne_int, beq_int, not_dec, cond_dec]
    by_cases p1 : halvesP a1 a2 a3 a4 a5 a11 a12 a13
    rotate_left
    · rw [if_pos p1, hv, if_pos p1]
    rw [if_neg (by simpa using p1)]; rw [if_neg (by simpa using p1)] at hv
    by_cases f2 : a12 ≠ 0
    · rw [if_pos f2, hv, if_pos (.inl f2)]
    by_cases f3 : a7 = 4294967295
    · rw [if_neg f2, if_pos f3, hv, if_pos (.inr (.inl f3))]
    by_cases f4 : a8 = 4294967295
    · rw [if_neg f2, if_neg f3, if_pos f4, hv, if_pos (.inr (.inr (.inl f4)))]
    by_cases f5 : a15 = 4294967295
    · rw [if_neg f2, if_neg f3, if_neg f4, if_pos f5, hv, if_pos (.inr (.inr (.inr f5)))]
    have p2 : ¬ (a12 ≠ 0 ∨ a7 = 4294967295 ∨ a8 = 4294967295 ∨ a15 = 4294967295) := by rintro (q | q | q | q) <;> contradiction
    rw [if_neg f2, if_neg f3, if_neg f4, if_neg f5]; rw [if_neg p2] at hv
    by_cases p3 : knownP a3 = true
    rotate_left
    · rw [if_pos ((needP_0 a3).2 p3), hv, if_pos p3]
    rw [if_neg (by rw [needP_0]; simpa using p3)]; rw [if_neg (by simpa using p3)] at hv
    have f6 : (IntKind.wrap .i64 (BitVec.ofInt (IntKind.bits .i64) a2 &&& ~~~ BitVec.ofInt (IntKind.bits .i64) (if moreP a3 = true then 6 else 0)).toNat ≠ 0) ↔ ¬ flagsP a3 a2 := by
      by_cases m : moreP a3 = true
      · rw [if_pos m]; unfold flagsP; rw [Ne, andnot6 a2 p1.2.1]; simp [m]
      · rw [if_neg m, andnot0 a2 p1.2.1]; unfold flagsP; simp [m]
    by_cases p4 : flagsP a3 a2
    rotate_left
    · rw [if_pos (f6.2 p4), hv, if_pos (.inl p4)]
    rw [if_neg (fun q => f6.1 q p4)]
    by_cases p5 : a1 > 21
    · rw [if_pos p5, hv, if_pos (.inr p5)]
    rw [if_neg p5]; rw [if_neg (by rintro (q | q) <;> contradiction)] at hv
    by_cases p6 : a3 = 0 ∧ a7 ≠ a8
    · rw [if_pos p6.1, if_pos p6.2, hv, if_pos p6]
    exact absurd ⟨p1, p2, p3, p4, p5, p6⟩ hp
theorem pick {α : Type} (m f : Int) (T E : α) : (if (if moreP m = true then (6 : Int) else 0) = 6 then if f = 0 then T else if f = 2 then T else if f = 4 then T else if ¬ f = 6 then E else T else if ¬ f = 0 then E else T) = if flagsP m f then T else E := by
  by_cases c : moreP m = true
  · rw [if_pos c, if_pos rfl]
    by_cases f0 : f = 0
    · rw [if_pos f0, if_pos (show flagsP m f from .inl ⟨c, .inl f0⟩)]
    by_cases f2 : f = 2
    · rw [if_neg f0, if_pos f2, if_pos (show flagsP m f from .inl ⟨c, .inr (.inl f2)⟩)]
    by_cases f4 : f = 4
    · rw [if_neg f0, if_neg f2, if_pos f4, if_pos (show flagsP m f from .inl ⟨c, .inr (.inr (.inl f4))⟩)]
    by_cases f6 : f = 6
    · rw [if_neg f0, if_neg f2, if_neg f4, if_neg (by simpa using f6), if_pos (show flagsP m f from .inl ⟨c, .inr (.inr (.inr f6))⟩)]
    rw [if_neg f0, if_neg f2, if_neg f4, if_pos f6, if_neg]
    rintro (⟨_, q | q | q | q⟩ | ⟨q, _⟩) <;> contradiction
  · rw [if_neg c, if_neg (by decide)]
    by_cases f0 : f = 0
    · rw [if_neg (by simpa using f0), if_pos (show flagsP m f from .inr ⟨c, f0⟩)]
    · rw [if_pos f0, if_neg]; rintro (⟨q, _⟩ | ⟨_, q⟩) <;> contradiction
theorem cond_known {α : Type} (m : Int) (x y : α) : (bif !knownP m then x else y) = if ¬ knownP m = true then x else y := by cases knownP m <;> rfl
theorem ref_central {bs : List Int} (r : Rd h a10 bs) (h8 : B8 bs) (hm : bs.length ≤ 2000000) {R : Nat} (hR : 4000000 < R) : ∃ h', Keep h h' [] ∧ ∀ (β : Type) (K : Int → GH → Option β), F_ref26_CheckCentral R a1 a2 a3 a4 a5 a6 a7 a8 a9 a10 a11 a12 a13 a14 a15 a16 h K = K (chkC a1 a2 a3 a4 a5 a7 a8 a11 a12 a13 a15 bs) h' := by
  have k1 := cenH_keep h a1 a2 a3 a4 a5 a6 a7 a8 a9 a10 a11 a12 a13 a14 a15 a16
  have l17 := cenH_17 h a1 a2 a3 a4 a5 a6 a7 a8 a9 a10 a11 a12 a13 a14 a15 a16
  have l29 := cenH_29 h a1 a2 a3 a4 a5 a6 a7 a8 a9 a10 a11 a12 a13 a14 a15 a16
  have hf := fun (β : Type) => cen_refhalves (β := β) h a1 a2 a3 a4 a5 a6 a7 a8 a9 a10 a11 a12 a13 a14 a15 a16 hR
  have r1 := r.keep k1 (by simp)
  obtain ⟨H, hH⟩ : ∃ H, H = cenH h a1 a2 a3 a4 a5 a6 a7 a8 a9 a10 a11 a12 a13 a14 a15 a16 := ⟨_, rfl⟩
  rw [← hH] at k1 l17 l29 r1
  unfold cenH at hH
  have hf : ∀ (β : Type) (p q : Option Addr) (K0 : Option Addr → Option Addr → GH → Option β) (Kr : Int → GH → Option β),
    F_ref26_CheckCentral_l0 (F_ref25_Known R) (F_ref25_Allowed R) (F_ref26_list R) (F_ref22_Unpack R) R R p q ⟨some ⟨h.next + 2, 0, none⟩, 8, 8⟩ 0 H K0 Kr = if halvesP a1 a2 a3 a4 a5 a11 a12 a13 then K0 p q H else Kr 18 H := by rw [hH]; exact fun β => hf β _ _ _ _
  by_cases hp : passC a1 a2 a3 a4 a5 a7 a8 a11 a12 a13 a15
  · rw [chkC_pass hp]
    obtain ⟨p1, p2, p3, p4, p5, p6⟩ := hp
    obtain ⟨h2, k2, e2⟩ := ref_list r1 h8 hm hR
    have l17' := k2.look l17 (by simp)
    have l29' := k2.look l29 (by simp)
    have p1' := p1
    obtain ⟨-, -, -, t4, t5, -⟩ := p1'
    obtain ⟨h3, q1, q2, q3, q4, q5, q6, k3, e3⟩ := ref_unpack R t4 t5 h2
    have f2 : ¬ (a12 ≠ 0) := fun q => p2 (.inl q)
    have f3 : ¬ a7 = 4294967295 := fun q => p2 (.inr (.inl q))
    have f4 : ¬ a8 = 4294967295 := fun q => p2 (.inr (.inr (.inl q)))
    have f5 : ¬ a15 = 4294967295 := fun q => p2 (.inr (.inr (.inr q)))
    by_cases c1 : chkX bs ≠ 0
    · rw [if_pos c1]
      refine ⟨h2, k1.trans k2 (by simp), fun β K => ?_⟩
      unfold F_ref26_CheckCentral; rw [F_ref26_CheckCentral_gen]
      simp only [look_push_if, look_put_if, cell_look, rowCell_row, nth_0, nth_s, gnew_if, gput_if, allCells_n, allCells_c, isCell_i, isCell_b, isCell_s, isCell_p, ble_dec, nlay_def, sameAt_1, veqO_i, veqO_b, veqO_s, veqO_p, exS_s', exA_s, exI_s, exB_s, exP_s, exS_s, condT, condF, notT, notF, isNone_s, next_push, next_put, Nat.zero_add, Nat.add_zero, Nat.add_assoc, Nat.reduceAdd, if_true, if_false, Bool.and_true, Bool.true_and, Bool.or_false, Bool.false_or, Nat.reduceEqDiff, Nat.add_eq_left, Nat.left_eq_add, reduceCtorEq, List.length_cons, List.length_nil, List.take_zero, List.take_succ_cons, List.take_nil, List.drop_zero, List.drop_succ_cons, List.drop_nil, List.nil_append, List.cons_append, List.append_nil, decide_true, decide_false, Nat.reduceLeDiff, Nat.le_refl, Nat.lt_add_one, Nat.lt_add_right_iff_pos, Nat.zero_lt_one, Nat.reduceLT, Nat.succ_ne_self, Nat.one_ne_zero, Nat.add_left_cancel_iff, ite_self]
      simp only [← hH, hf, l17, l29, refknown_eq, refallowed_eq, e2, look_push_if, look_put_if, cell_look, rowCell_row, nth_0, nth_s, gnew_if, gput_if, allCells_n, allCells_c, isCell_i, isCell_b, isCell_s, isCell_p, ble_dec, nlay_def, sameAt_1, veqO_i, veqO_b, veqO_s, veqO_p, exS_s', exA_s, exI_s, exB_s, exP_s, exS_s, condT, condF, notT, notF, isNone_s, next_push, next_put, Nat.zero_add, Nat.add_zero, Nat.add_assoc, Nat.reduceAdd, if_true, if_false, Bool.and_true, Bool.true_and, Bool.or_false, Bool.false_or, Nat.reduceEqDiff, Nat.add_eq_left, Nat.left_eq_add, reduceCtorEq, List.length_cons, List.length_nil, List.take_zero, List.take_succ_cons, List.take_nil, List.drop_zero, List.drop_succ_cons, List.drop_nil, List.nil_append, List.cons_append, List.append_nil, decide_true, decide_false, Nat.reduceLeDiff, Nat.le_refl, Nat.lt_add_one, Nat.lt_add_right_iff_pos, Nat.zero_lt_one, Nat.reduceLT, Nat.succ_ne_self, Nat.one_ne_zero, Nat.add_left_cancel_iff, ite_self, bne_int, beq_int, not_dec, cond_dec, cond_known]
      rw [pick, if_pos p1, if_neg f2, if_neg f3, if_neg f4, if_neg f5, if_neg (by simpa using p3), if_pos p4, if_neg p5]
      by_cases c2 : a3 = 0
      · rw [if_pos c2, if_neg (fun q => p6 ⟨c2, q⟩), if_pos c1]
      · rw [if_neg c2, if_pos c1]
    · rw [if_neg c1]
      refine ⟨_, ((((k1.trans k2 (by simp)).trans k3 (by simp)).pushR (.row ⟨[Value.int .i64 0, Value.int .i64 0, Value.int .i64 0, Value.int .i64 0, Value.int .i64 0, Value.int .i64 0], 0, false⟩)).putR h3.next (some (.row ⟨[.int .i64 q1, .int .i64 q2, .int .i64 q3, .int .i64 q4, .int .i64 q5, .int .i64 q6], 0, false⟩)) (.inr ((k1.trans k2 (by simp)).trans k3 (by simp)).1)), fun β K => ?_⟩
      unfold F_ref26_CheckCentral; rw [F_ref26_CheckCentral_gen]
      simp only [look_push_if, look_put_if, cell_look, rowCell_row, nth_0, nth_s, gnew_if, gput_if, allCells_n, allCells_c, isCell_i, isCell_b, isCell_s, isCell_p, ble_dec, nlay_def, sameAt_1, veqO_i, veqO_b, veqO_s, veqO_p, exS_s', exA_s, exI_s, exB_s, exP_s, exS_s, condT, condF, notT, notF, isNone_s, next_push, next_put, Nat.zero_add, Nat.add_zero, Nat.add_assoc, Nat.reduceAdd, if_true, if_false, Bool.and_true, Bool.true_and, Bool.or_false, Bool.false_or, Nat.reduceEqDiff, Nat.add_eq_left, Nat.left_eq_add, reduceCtorEq, List.length_cons, List.length_nil, List.take_zero, List.take_succ_cons, List.take_nil, List.drop_zero, List.drop_succ_cons, List.drop_nil, List.nil_append, List.cons_append, List.append_nil, decide_true, decide_false, Nat.reduceLeDiff, Nat.le_refl, Nat.lt_add_one, Nat.lt_add_right_iff_pos, Nat.zero_lt_one, Nat.reduceLT, Nat.succ_ne_self, Nat.one_ne_zero, Nat.add_left_cancel_iff, ite_self]
      simp only [← hH, hf, l17, l29, refknown_eq, refallowed_eq, e2, l29', e3, look_push_if, look_put_if, cell_look, rowCell_row, nth_0, nth_s, gnew_if, gput_if, allCells_n, allCells_c, isCell_i, isCell_b, isCell_s, isCell_p, ble_dec, nlay_def, sameAt_1, veqO_i, veqO_b, veqO_s, veqO_p, exS_s', exA_s, exI_s, exB_s, exP_s, exS_s, condT, condF, notT, notF, isNone_s, next_push, next_put, Nat.zero_add, Nat.add_zero, Nat.add_assoc, Nat.reduceAdd, if_true, if_false, Bool.and_true, Bool.true_and, Bool.or_false, Bool.false_or, Nat.reduceEqDiff, Nat.add_eq_left, Nat.left_eq_add, reduceCtorEq, List.length_cons, List.length_nil, List.take_zero, List.take_succ_cons, List.take_nil, List.drop_zero, List.drop_succ_cons, List.drop_nil, List.nil_append, List.cons_append, List.append_nil, decide_true, decide_false, Nat.reduceLeDiff, Nat.le_refl, Nat.lt_add_one, Nat.lt_add_right_iff_pos, Nat.zero_lt_one, Nat.reduceLT, Nat.succ_ne_self, Nat.one_ne_zero, Nat.add_left_cancel_iff, ite_self, bne_int, beq_int, not_dec, cond_dec, cond_known]
      rw [pick, if_pos p1, if_neg f2, if_neg f3, if_neg f4, if_neg f5, if_neg (by simpa using p3), if_pos p4, if_neg p5]
      by_cases c2 : a3 = 0
      · rw [if_pos c2, if_neg (fun q => p6 ⟨c2, q⟩), if_neg c1]
      · rw [if_neg c2, if_neg c1]
  · refine ⟨H, k1, fun β K => ?_⟩
    obtain ⟨v, hv⟩ : ∃ v, v = chkC a1 a2 a3 a4 a5 a7 a8 a11 a12 a13 a15 bs := ⟨_, rfl⟩
    rw [← hv]; unfold chkC at hv
    unfold F_ref26_CheckCentral; rw [F_ref26_CheckCentral_gen]
    simp only [look_push_if, look_put_if, cell_look, rowCell_row, nth_0, nth_s, gnew_if, gput_if, allCells_n, allCells_c, isCell_i, isCell_b, isCell_s, isCell_p, ble_dec, nlay_def, sameAt_1, veqO_i, veqO_b, veqO_s, veqO_p, exS_s', exA_s, exI_s, exB_s, exP_s, exS_s, condT, condF, notT, notF, isNone_s, next_push, next_put, Nat.zero_add, Nat.add_zero, Nat.add_assoc, Nat.reduceAdd, if_true, if_false, Bool.and_true, Bool.true_and, Bool.or_false, Bool.false_or, Nat.reduceEqDiff, Nat.add_eq_left, Nat.left_eq_add, reduceCtorEq, List.length_cons, List.length_nil, List.take_zero, List.take_succ_cons, List.take_nil, List.drop_zero, List.drop_succ_cons, List.drop_nil, List.nil_append, List.cons_append, List.append_nil, decide_true, decide_false, Nat.reduceLeDiff, Nat.le_refl, Nat.lt_add_one, Nat.lt_add_right_iff_pos, Nat.zero_lt_one, Nat.reduceLT, Nat.succ_ne_self, Nat.one_ne_zero, Nat.add_left_cancel_iff, ite_self]
    simp only [← hH, hf, l17, l29, refknown_eq, refallowed_eq, look_push_if, look_put_if, cell_look, rowCell_row, nth_0, nth_s, gnew_if, gput_if, allCells_n, allCells_c, isCell_i, isCell_b, isCell_s, isCell_p, ble_dec, nlay_def, sameAt_1, veqO_i, veqO_b, veqO_s, veqO_p, exS_s', exA_s, exI_s, exB_s, exP_s, exS_s, condT, condF, notT, notF, isNone_s, next_push, next_put, Nat.zero_add, Nat.add_zero, Nat.add_assoc, Nat.reduceAdd, if_true, if_false, Bool.and_true, Bool.true_and, Bool.or_false, Bool.false_or, Nat.reduceEqDiff, Nat.add_eq_left, Nat.left_eq_add, reduceCtorEq, List.length_cons, List.length_nil, List.take_zero, List.take_succ_cons, List.take_nil, List.drop_zero, List.drop_succ_cons, List.drop_nil, List.nil_append, List.cons_append, List.append_nil, decide_true, decide_false, Nat.reduceLeDiff, Nat.le_refl, Nat.lt_add_one, Nat.lt_add_right_iff_pos, Nat.zero_lt_one, Nat.reduceLT, Nat.succ_ne_self, Nat.one_ne_zero, Nat.add_left_cancel_iff, ite_self, bne_int, beq_int, not_dec, cond_dec, cond_known]
    rw [pick]
    by_cases p1 : halvesP a1 a2 a3 a4 a5 a11 a12 a13
    rotate_left
    · rw [if_neg p1, hv, if_pos p1]
    rw [if_pos p1]; rw [if_neg (by simpa using p1)] at hv
    by_cases f2 : a12 ≠ 0
    · rw [if_pos f2, hv, if_pos (.inl f2)]
    by_cases f3 : a7 = 4294967295
    · rw [if_neg f2, if_pos f3, hv, if_pos (.inr (.inl f3))]
    by_cases f4 : a8 = 4294967295
    · rw [if_neg f2, if_neg f3, if_pos f4, hv, if_pos (.inr (.inr (.inl f4)))]
    by_cases f5 : a15 = 4294967295
    · rw [if_neg f2, if_neg f3, if_neg f4, if_pos f5, hv, if_pos (.inr (.inr (.inr f5)))]
    have p2 : ¬ (a12 ≠ 0 ∨ a7 = 4294967295 ∨ a8 = 4294967295 ∨ a15 = 4294967295) := by rintro (q | q | q | q) <;> contradiction
    rw [if_neg f2, if_neg f3, if_neg f4, if_neg f5]; rw [if_neg p2] at hv
    by_cases p3 : knownP a3 = true
    rotate_left
    · rw [if_pos p3, hv, if_pos p3]
    rw [if_neg (by simpa using p3)]; rw [if_neg (by simpa using p3)] at hv
    by_cases p4 : flagsP a3 a2
    rotate_left
    · rw [if_neg p4, hv, if_pos (.inl p4)]
    rw [if_pos p4]
    by_cases p5 : a1 > 21
    · rw [if_pos p5, hv, if_pos (.inr p5)]
    rw [if_neg p5]; rw [if_neg (by rintro (q | q) <;> contradiction)] at hv
    by_cases p6 : a3 = 0 ∧ a7 ≠ a8
    · rw [if_pos p6.1, if_pos p6.2, hv, if_pos p6]
    exact absurd ⟨p1, p2, p3, p4, p5, p6⟩ hp
end
end Go.Proofs.Ytibngikhlgmhaaa.Gx

