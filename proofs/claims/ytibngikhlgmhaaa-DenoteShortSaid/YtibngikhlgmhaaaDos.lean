/- Times of two numbers: the program's word and the document's are the same. No condition. -/
import Derived.Test.YtibngikhlgmhaaaSym
import Derived.Test.YtibngikhlgmhaaaGxx
namespace Go.Proofs.Ytibngikhlgmhaaa.Gx
open Go
set_option linter.unusedVariables false
set_option linter.unusedSimpArgs false
theorem leap_eq (R : Nat) (y : Int) {β : Type} (h : GH) (K : Bool → GH → Option β) : F_dos_leap R y h K = K (decide (Int.tmod y 4 = 0 ∧ y ≠ 2100)) h := by
  unfold F_dos_leap; rw [F_dos_leap_gen, beq_int, bne_int, cond_dec]
  by_cases h1 : Int.tmod y 4 = 0 <;> simp [h1]
def daysP (y m : Int) : Int := if m = 2 then (if Int.tmod y 4 = 0 ∧ y ≠ 2100 then 29 else 28) else if m = 4 ∨ m = 6 ∨ m = 9 ∨ m = 11 then 30 else 31
theorem days_eq (R : Nat) (y m : Int) {β : Type} (h : GH) (K : Int → GH → Option β) : F_dos_days R y m h K = K (daysP y m) h := by
  unfold F_dos_days; rw [F_dos_days_gen]
  unfold daysP
  simp only [leap_eq, beq_int, cond_dec]
  by_cases h2 : m = 2
  · rw [if_pos h2, if_pos h2]
    by_cases h1 : Int.tmod y 4 = 0 ∧ y ≠ 2100
    · rw [if_pos h1, if_pos h1]
    · rw [if_neg h1, if_neg h1]
  · rw [if_neg h2, if_neg h2]
    by_cases h4 : m = 4
    · simp [h4]
    by_cases h6 : m = 6
    · simp [h6]
    by_cases h9 : m = 9
    · simp [h9]
    by_cases h11 : m = 11
    · simp [h11]
    simp [h4, h6, h9, h11]
/-- whether a stamp is a time -/
def timeP (y m d hh mm ss : Int) : Bool := decide (1980 ≤ y ∧ y ≤ 2107 ∧ 1 ≤ m ∧ m ≤ 12 ∧ 1 ≤ d ∧ d ≤ daysP y m ∧ 0 ≤ hh ∧ hh ≤ 23 ∧ 0 ≤ mm ∧ mm ≤ 59 ∧ 0 ≤ ss ∧ ss ≤ 58 ∧ ss % 2 = 0)
theorem timeT {y m d hh mm ss : Int} (h : 1980 ≤ y ∧ y ≤ 2107 ∧ 1 ≤ m ∧ m ≤ 12 ∧ 1 ≤ d ∧ d ≤ daysP y m ∧ 0 ≤ hh ∧ hh ≤ 23 ∧ 0 ≤ mm ∧ mm ≤ 59 ∧ 0 ≤ ss ∧ ss ≤ 58 ∧ ss % 2 = 0) : timeP y m d hh mm ss = true := decide_eq_true h
theorem timeF {y m d hh mm ss : Int} (h : ¬ (1980 ≤ y ∧ y ≤ 2107 ∧ 1 ≤ m ∧ m ≤ 12 ∧ 1 ≤ d ∧ d ≤ daysP y m ∧ 0 ≤ hh ∧ hh ≤ 23 ∧ 0 ≤ mm ∧ mm ≤ 59 ∧ 0 ≤ ss ∧ ss ≤ 58 ∧ ss % 2 = 0)) : ¬ timeP y m d hh mm ss = true := by
  unfold timeP; rw [decide_eq_true_eq]; exact h
theorem dos_check (R : Nat) (y m d hh mm ss : Int) (hs : 0 ≤ ss ∧ ss ≤ 65535) {β : Type} (h : GH) (K : Int → GH → Option β) :
    F_dos_Check R y m d hh mm ss h K = K (if timeP y m d hh mm ss = true then 0 else 17) (h.push (.row ⟨[.int .i64 y, .int .i64 m, .int .i64 d, .int .i64 hh, .int .i64 mm, .int .i64 ss], 0, false⟩)) := by
  obtain ⟨v, hv⟩ : ∃ v : Int, v = if timeP y m d hh mm ss = true then 0 else 17 := ⟨_, rfl⟩
  have hand := and_mask (x := ss) 1 (by omega) (by omega)
  rw [show (((2 ^ 1 - 1 : Nat) : Nat) : Int) = 1 from rfl, show (((2 ^ 1 : Nat) : Nat) : Int) = 2 from rfl] at hand
  unfold F_dos_Check; rw [F_dos_Check_gen, ← hv]
  simp only [look_push_if, look_put_if, cell_look, rowCell_row, nth_0, nth_s, gnew_if, gput_if, allCells_n, allCells_c, isCell_i, isCell_b, isCell_s, isCell_p, ble_dec, nlay_def, sameAt_1, veqO_i, veqO_b, veqO_s, veqO_p, exS_s', exA_s, exI_s, exB_s, exP_s, exS_s, condT, condF, notT, notF, isNone_s, next_push, next_put, Nat.zero_add, Nat.add_zero, Nat.add_assoc, Nat.reduceAdd, if_true, if_false, Bool.and_true, Bool.true_and, Bool.or_false, Bool.false_or, Nat.reduceEqDiff, Nat.add_eq_left, Nat.left_eq_add, reduceCtorEq, List.length_cons, List.length_nil, List.take_zero, List.take_succ_cons, List.take_nil, List.drop_zero, List.drop_succ_cons, List.drop_nil, List.nil_append, List.cons_append, List.append_nil, decide_true, decide_false, Nat.reduceLeDiff, Nat.le_refl, Nat.lt_add_one, Nat.lt_add_right_iff_pos, Nat.zero_lt_one, Nat.reduceLT, Nat.succ_ne_self, Nat.one_ne_zero, Nat.add_left_cancel_iff, ite_self, days_eq, hand, beq_int, cond_dec]
  by_cases c0 : y < 1980
  · rw [if_pos c0, hv, if_neg (timeF (by omega))]
  rw [if_neg c0]
  by_cases c1 : y > 2107
  · rw [if_pos c1, hv, if_neg (timeF (by omega))]
  rw [if_neg c1]
  by_cases c2 : m < 1
  · rw [if_pos c2, hv, if_neg (timeF (by omega))]
  rw [if_neg c2]
  by_cases c3 : m > 12
  · rw [if_pos c3, hv, if_neg (timeF (by omega))]
  rw [if_neg c3]
  by_cases c4 : d < 1
  · rw [if_pos c4, hv, if_neg (timeF (by omega))]
  rw [if_neg c4]
  by_cases c5 : d > daysP y m
  · rw [if_pos c5, hv, if_neg (timeF (by omega))]
  rw [if_neg c5]
  by_cases c6 : hh < 0
  · rw [if_pos c6, hv, if_neg (timeF (by omega))]
  rw [if_neg c6]
  by_cases c7 : hh > 23
  · rw [if_pos c7, hv, if_neg (timeF (by omega))]
  rw [if_neg c7]
  by_cases c8 : mm < 0
  · rw [if_pos c8, hv, if_neg (timeF (by omega))]
  rw [if_neg c8]
  by_cases c9 : mm > 59
  · rw [if_pos c9, hv, if_neg (timeF (by omega))]
  rw [if_neg c9]
  by_cases c10 : ss < 0
  · rw [if_pos c10, hv, if_neg (timeF (by omega))]
  rw [if_neg c10]
  by_cases c11 : ss > 58
  · rw [if_pos c11, hv, if_neg (timeF (by omega))]
  rw [if_neg c11]
  by_cases c12 : ss % 2 = 1
  · rw [if_pos c12, hv, if_neg (timeF (by omega))]
  rw [if_neg c12]
  rw [hv, if_pos (timeT (by omega))]
theorem month_eq (R : Nat) {y m : Int} (hm : 1 ≤ m ∧ m ≤ 12) (h : GH) : ∃ h', Keep h h' [] ∧ ∀ (β : Type) (K : Int → GH → Option β), F_ref22_Month R y m h K = K (daysP y m) h' := by
  refine ⟨_, keep_push h (.row ⟨[.int .i64 31, .int .i64 28, .int .i64 31, .int .i64 30, .int .i64 31, .int .i64 30, .int .i64 31, .int .i64 31, .int .i64 30, .int .i64 31, .int .i64 30, .int .i64 31], 1, false⟩) [], fun β K => ?_⟩
  unfold F_ref22_Month; rw [F_ref22_Month_gen, gnew_eq rfl, i64w (by omega)]
  simp only [within_t (show 0 ≤ m - 1 by omega) (show m - 1 < (12 : Nat) by omega), cell_of look_push_new, beq_int, bne_int, cond_dec]
  have : m = 1 ∨ m = 2 ∨ m = 3 ∨ m = 4 ∨ m = 5 ∨ m = 6 ∨ m = 7 ∨ m = 8 ∨ m = 9 ∨ m = 10 ∨ m = 11 ∨ m = 12 := by omega
  unfold daysP
  rcases this with rfl | rfl | rfl | rfl | rfl | rfl | rfl | rfl | rfl | rfl | rfl | rfl
  case inr.inl =>
    by_cases h1 : Int.tmod y 4 = 0
    · by_cases h2 : y = 2100
      · simp [h1, h2]; rfl
      · simp [h1, h2]
    · simp [h1]; rfl
  all_goals rfl
theorem ref_is (R : Nat) (y m d hh mm ss : Int) (hs : 0 ≤ ss ∧ ss ≤ 65535) (h : GH) : ∃ h', Keep h h' [] ∧ ∀ (β : Type) (K : Bool → GH → Option β), F_ref22_Is R y m d hh mm ss h K = K (timeP y m d hh mm ss) h' := by
  have k0 := keep_push h (.row ⟨[.int .i64 y, .int .i64 m, .int .i64 d, .int .i64 hh, .int .i64 mm, .int .i64 ss], 0, false⟩) []
  have hl := look_push_new (h := h) (o := .row ⟨[.int .i64 y, .int .i64 m, .int .i64 d, .int .i64 hh, .int .i64 mm, .int .i64 ss], 0, false⟩)
  have htm : Int.tmod ss 2 = ss % 2 := IntWalk.rem_in ss 2 hs.1
  by_cases hm : 1 ≤ m ∧ m ≤ 12
  · by_cases hy : 1980 ≤ y ∧ y ≤ 2107 ∧ 1 ≤ d
    · obtain ⟨h', k', e⟩ := month_eq R (y := y) hm (h.push (.row ⟨[.int .i64 y, .int .i64 m, .int .i64 d, .int .i64 hh, .int .i64 mm, .int .i64 ss], 0, false⟩))
      have hl' := k'.look hl (by simp)
      refine ⟨h', k0.trans k' (by simp), fun β K => ?_⟩
      obtain ⟨v, hv⟩ : ∃ v, v = timeP y m d hh mm ss := ⟨_, rfl⟩
      unfold F_ref22_Is; rw [F_ref22_Is_gen, gnew_eq rfl, ← hv]
      simp only [hl', e, look_push_if, look_put_if, cell_look, rowCell_row, nth_0, nth_s, gnew_if, gput_if, allCells_n, allCells_c, isCell_i, isCell_b, isCell_s, isCell_p, ble_dec, nlay_def, sameAt_1, veqO_i, veqO_b, veqO_s, veqO_p, exS_s', exA_s, exI_s, exB_s, exP_s, exS_s, condT, condF, notT, notF, isNone_s, next_push, next_put, Nat.zero_add, Nat.add_zero, Nat.add_assoc, Nat.reduceAdd, if_true, if_false, Bool.and_true, Bool.true_and, Bool.or_false, Bool.false_or, Nat.reduceEqDiff, Nat.add_eq_left, Nat.left_eq_add, reduceCtorEq, List.length_cons, List.length_nil, List.take_zero, List.take_succ_cons, List.take_nil, List.drop_zero, List.drop_succ_cons, List.drop_nil, List.nil_append, List.cons_append, List.append_nil, decide_true, decide_false, Nat.reduceLeDiff, Nat.le_refl, Nat.lt_add_one, Nat.lt_add_right_iff_pos, Nat.zero_lt_one, Nat.reduceLT, Nat.succ_ne_self, Nat.one_ne_zero, Nat.add_left_cancel_iff, ite_self, beq_int, cond_dec, htm]
      have q1 : ¬ y < 1980 := by omega
      have q2 : ¬ y > 2107 := by omega
      have q3 : ¬ m < 1 := by omega
      have q4 : ¬ m > 12 := by omega
      have q5 : ¬ d < 1 := by omega
      simp only [q1, q2, q3, q4, q5, if_false]
      by_cases c0 : d > daysP y m
      · rw [if_pos c0, hv, Bool.eq_false_iff.2 (timeF (by omega))]
      rw [if_neg c0]
      by_cases e0 : (0 : Int) ≤ hh
      rotate_left
      · rw [if_neg e0, hv, Bool.eq_false_iff.2 (timeF (by omega))]
      rw [if_pos e0]
      by_cases e1 : hh ≤ 23
      rotate_left
      · rw [if_neg e1, hv, Bool.eq_false_iff.2 (timeF (by omega))]
      rw [if_pos e1]
      by_cases e2 : (0 : Int) ≤ mm
      rotate_left
      · rw [if_neg e2, hv, Bool.eq_false_iff.2 (timeF (by omega))]
      rw [if_pos e2]
      by_cases e3 : mm ≤ 59
      rotate_left
      · rw [if_neg e3, hv, Bool.eq_false_iff.2 (timeF (by omega))]
      rw [if_pos e3]
      by_cases e4 : (0 : Int) ≤ ss
      rotate_left
      · rw [if_neg e4, hv, Bool.eq_false_iff.2 (timeF (by omega))]
      rw [if_pos e4]
      by_cases e5 : ss ≤ 58
      rotate_left
      · rw [if_neg e5, hv, Bool.eq_false_iff.2 (timeF (by omega))]
      rw [if_pos e5]
      rw [hv]; congr 1
      unfold timeP
      rw [decide_eq_decide]
      constructor
      · intro h; omega
      · intro h; omega
    · refine ⟨_, k0, fun β K => ?_⟩
      unfold F_ref22_Is; rw [F_ref22_Is_gen, gnew_eq rfl, Bool.eq_false_iff.2 (timeF (by omega))]
      simp only [cell_of hl, look_push_if, look_put_if, cell_look, rowCell_row, nth_0, nth_s, gnew_if, gput_if, allCells_n, allCells_c, isCell_i, isCell_b, isCell_s, isCell_p, ble_dec, nlay_def, sameAt_1, veqO_i, veqO_b, veqO_s, veqO_p, exS_s', exA_s, exI_s, exB_s, exP_s, exS_s, condT, condF, notT, notF, isNone_s, next_push, next_put, Nat.zero_add, Nat.add_zero, Nat.add_assoc, Nat.reduceAdd, if_true, if_false, Bool.and_true, Bool.true_and, Bool.or_false, Bool.false_or, Nat.reduceEqDiff, Nat.add_eq_left, Nat.left_eq_add, reduceCtorEq, List.length_cons, List.length_nil, List.take_zero, List.take_succ_cons, List.take_nil, List.drop_zero, List.drop_succ_cons, List.drop_nil, List.nil_append, List.cons_append, List.append_nil, decide_true, decide_false, Nat.reduceLeDiff, Nat.le_refl, Nat.lt_add_one, Nat.lt_add_right_iff_pos, Nat.zero_lt_one, Nat.reduceLT, Nat.succ_ne_self, Nat.one_ne_zero, Nat.add_left_cancel_iff, ite_self, cond_dec]
      have q3 : ¬ m < 1 := by omega
      have q4 : ¬ m > 12 := by omega
      simp only [q3, q4, if_false]
      by_cases c1 : y < 1980
      · rw [if_pos c1]
      by_cases c2 : y > 2107
      · rw [if_neg c1, if_pos c2]
      rw [if_neg c1, if_neg c2, if_pos (by omega)]
  · refine ⟨_, k0, fun β K => ?_⟩
    unfold F_ref22_Is; rw [F_ref22_Is_gen, gnew_eq rfl, Bool.eq_false_iff.2 (timeF (by omega))]
    simp only [cell_of hl, look_push_if, look_put_if, cell_look, rowCell_row, nth_0, nth_s, gnew_if, gput_if, allCells_n, allCells_c, isCell_i, isCell_b, isCell_s, isCell_p, ble_dec, nlay_def, sameAt_1, veqO_i, veqO_b, veqO_s, veqO_p, exS_s', exA_s, exI_s, exB_s, exP_s, exS_s, condT, condF, notT, notF, isNone_s, next_push, next_put, Nat.zero_add, Nat.add_zero, Nat.add_assoc, Nat.reduceAdd, if_true, if_false, Bool.and_true, Bool.true_and, Bool.or_false, Bool.false_or, Nat.reduceEqDiff, Nat.add_eq_left, Nat.left_eq_add, reduceCtorEq, List.length_cons, List.length_nil, List.take_zero, List.take_succ_cons, List.take_nil, List.drop_zero, List.drop_succ_cons, List.drop_nil, List.nil_append, List.cons_append, List.append_nil, decide_true, decide_false, Nat.reduceLeDiff, Nat.le_refl, Nat.lt_add_one, Nat.lt_add_right_iff_pos, Nat.zero_lt_one, Nat.reduceLT, Nat.succ_ne_self, Nat.one_ne_zero, Nat.add_left_cancel_iff, ite_self, cond_dec]
    by_cases c1 : y < 1980
    · rw [if_pos c1]
    by_cases c2 : y > 2107
    · rw [if_neg c1, if_pos c2]
    by_cases c3 : m < 1
    · rw [if_neg c1, if_neg c2, if_pos c3]
    rw [if_neg c1, if_neg c2, if_neg c3, if_pos (by omega)]
theorem shr9 (x : Int) : shrI .i64 x 9 = x / 512 := shr_div 9 (by omega)
theorem shr5 (x : Int) : shrI .i64 x 5 = x / 32 := shr_div 5 (by omega)
theorem shr11 (x : Int) : shrI .i64 x 11 = x / 2048 := shr_div 11 (by omega)
theorem shl1 {x : Int} (h : 0 ≤ x ∧ x ≤ 65535) : shlI .i64 x 1 = x * 2 := by
  have hm : min (1 : Int).toNat (IntKind.bits .i64) = 1 := rfl
  rw [shlI, hm, Int.pow_one, i64w (by omega)]
/-- two numbers as a time: the error -/
def unpP (time date : Int) : Int := if timeP (date / 512 + 1980) (date / 32 % 16) (date % 32) (time / 2048) (time / 32 % 64) (time % 32 * 2) = true then 0 else 17
theorem Keep.pushR {h h1 : GH} {own : List Nat} (k : Keep h h1 own) (o : GObj) : Keep h (h1.push o) own := k.trans (keep_push h1 o []) (by simp)
theorem Keep.putR {h h1 : GH} {own : List Nat} (k : Keep h h1 own) (g : Nat) (o : Option GObj) (hg : g ∈ own ∨ h.next ≤ g) : Keep h (h1.put g o) own := k.trans (keep_put h1 g o) (by simpa using hg)
theorem mask4 {x : Int} (h : 0 ≤ x ∧ x ≤ 65535) : IntKind.wrap .i64 (BitVec.ofInt (IntKind.bits .i64) x &&& BitVec.ofInt (IntKind.bits .i64) 15).toNat = x % 16 := and_mask 4 (by omega) (by omega)
theorem mask5 {x : Int} (h : 0 ≤ x ∧ x ≤ 65535) : IntKind.wrap .i64 (BitVec.ofInt (IntKind.bits .i64) x &&& BitVec.ofInt (IntKind.bits .i64) 31).toNat = x % 32 := and_mask 5 (by omega) (by omega)
theorem mask6 {x : Int} (h : 0 ≤ x ∧ x ≤ 65535) : IntKind.wrap .i64 (BitVec.ofInt (IntKind.bits .i64) x &&& BitVec.ofInt (IntKind.bits .i64) 63).toNat = x % 64 := and_mask 6 (by omega) (by omega)
theorem dos_unpack (R : Nat) {time date : Int} (ht : 0 ≤ time ∧ time ≤ 65535) (hd : 0 ≤ date ∧ date ≤ 65535) (h : GH) : ∃ h' q1 q2 q3 q4 q5 q6, Keep h h' [] ∧ ∀ (β : Type) (K : Int → Int → Int → Int → Int → Int → Int → GH → Option β), F_dos_Unpack R time date h K = K q1 q2 q3 q4 q5 q6 (unpP time date) h' := by
  have x1 : ¬ time < 0 := by omega
  have x2 : ¬ time > 65535 := by omega
  have x3 : ¬ date < 0 := by omega
  have x4 : ¬ date > 65535 := by omega
  by_cases c : timeP (date / 512 + 1980) (date / 32 % 16) (date % 32) (time / 2048) (time / 32 % 64) (time % 32 * 2) = true
  all_goals
    unfold unpP
    refine ⟨?_, ?_, ?_, ?_, ?_, ?_, ?_, ?_, fun β K => ?_⟩
    case refine_9 =>
      unfold F_dos_Unpack; rw [F_dos_Unpack_gen]
      simp only [shr9, shr5, shr11, mask4 (x := date / 32) (by omega), mask5 (x := date) (by omega), mask5 (x := time) (by omega), mask6 (x := time / 32) (by omega)]
      rw [shl1 (by omega), i64w (x := date / 512 + 1980) (by omega)]
      simp only [look_push_if, look_put_if, cell_look, rowCell_row, nth_0, nth_s, gnew_if, gput_if, allCells_n, allCells_c, isCell_i, isCell_b, isCell_s, isCell_p, ble_dec, nlay_def, sameAt_1, veqO_i, veqO_b, veqO_s, veqO_p, exS_s', exA_s, exI_s, exB_s, exP_s, exS_s, condT, condF, notT, notF, isNone_s, next_push, next_put, Nat.zero_add, Nat.add_zero, Nat.add_assoc, Nat.reduceAdd, if_true, if_false, Bool.and_true, Bool.true_and, Bool.or_false, Bool.false_or, Nat.reduceEqDiff, Nat.add_eq_left, Nat.left_eq_add, reduceCtorEq, List.length_cons, List.length_nil, List.take_zero, List.take_succ_cons, List.take_nil, List.drop_zero, List.drop_succ_cons, List.drop_nil, List.nil_append, List.cons_append, List.append_nil, decide_true, decide_false, Nat.reduceLeDiff, Nat.le_refl, Nat.lt_add_one, Nat.lt_add_right_iff_pos, Nat.zero_lt_one, Nat.reduceLT, Nat.succ_ne_self, Nat.one_ne_zero, Nat.add_left_cancel_iff, ite_self, dos_check R (date / 512 + 1980) (date / 32 % 16) (date % 32) (time / 2048) (time / 32 % 64) (time % 32 * 2) (by omega), bne_int, cond_dec, x1, x2, x3, x4, c]
      rfl
    case refine_8 => repeat (first | exact Keep.refl _ _ | refine Keep.pushR ?_ _ | refine Keep.putR ?_ _ _ (.inr (by simp [GH.push, GH.put])))
theorem ref_unpack (R : Nat) {time date : Int} (ht : 0 ≤ time ∧ time ≤ 65535) (hd : 0 ≤ date ∧ date ≤ 65535) (h : GH) : ∃ h' q1 q2 q3 q4 q5 q6, Keep h h' [] ∧ ∀ (β : Type) (K : Int → Int → Int → Int → Int → Int → Int → GH → Option β), F_ref22_Unpack R time date h K = K q1 q2 q3 q4 q5 q6 (unpP time date) h' := by
  have x1 : ¬ time < 0 := by omega
  have x2 : ¬ time > 65535 := by omega
  have x3 : ¬ date < 0 := by omega
  have x4 : ¬ date > 65535 := by omega
  have y1 := IntWalk.i64_quo date 512 (by omega)
  have y2 := IntWalk.i64_quo date 32 (by omega)
  have y3 := IntWalk.i64_quo time 2048 (by omega)
  have y4 := IntWalk.i64_quo time 32 (by omega)
  have z1 := IntWalk.rem_in (date / 32) 16 (by omega)
  have z2 := IntWalk.rem_in date 32 (by omega)
  have z3 := IntWalk.rem_in (time / 32) 64 (by omega)
  have z4 := IntWalk.rem_in time 32 (by omega)
  have w1 : IntKind.wrap .i64 (1980 + date / 512) = date / 512 + 1980 := by rw [i64w (by omega), Int.add_comm]
  have w2 : IntKind.wrap .i64 (2 * (time % 32)) = time % 32 * 2 := by rw [i64w (by omega), Int.mul_comm]
  let h4 := ((h.push (.row ⟨[Value.int .i64 0, Value.int .i64 0, Value.int .i64 0, Value.int .i64 0, Value.int .i64 0, Value.int .i64 0], 0, false⟩)).push (.row ⟨[Value.int .i64 0, Value.int .i64 0, Value.int .i64 0, Value.int .i64 0, Value.int .i64 0, Value.int .i64 0], 0, false⟩)).put (h.next + 1) (some (.row ⟨[.int .i64 (date / 512 + 1980), .int .i64 (date / 32 % 16), .int .i64 (date % 32), .int .i64 (time / 2048), .int .i64 (time / 32 % 64), .int .i64 (time % 32 * 2)], 0, false⟩))
  have l3 : h4.look h.next = some (.row ⟨[Value.int .i64 0, Value.int .i64 0, Value.int .i64 0, Value.int .i64 0, Value.int .i64 0, Value.int .i64 0], 0, false⟩) := by simp only [h4, look_push_if, look_put_if, cell_look, rowCell_row, nth_0, nth_s, gnew_if, gput_if, allCells_n, allCells_c, isCell_i, isCell_b, isCell_s, isCell_p, ble_dec, nlay_def, sameAt_1, veqO_i, veqO_b, veqO_s, veqO_p, exS_s', exA_s, exI_s, exB_s, exP_s, exS_s, condT, condF, notT, notF, isNone_s, next_push, next_put, Nat.zero_add, Nat.add_zero, Nat.add_assoc, Nat.reduceAdd, if_true, if_false, Bool.and_true, Bool.true_and, Bool.or_false, Bool.false_or, Nat.reduceEqDiff, Nat.add_eq_left, Nat.left_eq_add, reduceCtorEq, List.length_cons, List.length_nil, List.take_zero, List.take_succ_cons, List.take_nil, List.drop_zero, List.drop_succ_cons, List.drop_nil, List.nil_append, List.cons_append, List.append_nil, decide_true, decide_false, Nat.reduceLeDiff, Nat.le_refl, Nat.lt_add_one, Nat.lt_add_right_iff_pos, Nat.zero_lt_one, Nat.reduceLT, Nat.succ_ne_self, Nat.one_ne_zero, Nat.add_left_cancel_iff, ite_self]
  have l4 : h4.look (h.next + 1) = some (.row ⟨[.int .i64 (date / 512 + 1980), .int .i64 (date / 32 % 16), .int .i64 (date % 32), .int .i64 (time / 2048), .int .i64 (time / 32 % 64), .int .i64 (time % 32 * 2)], 0, false⟩) := by simp only [h4, look_push_if, look_put_if, cell_look, rowCell_row, nth_0, nth_s, gnew_if, gput_if, allCells_n, allCells_c, isCell_i, isCell_b, isCell_s, isCell_p, ble_dec, nlay_def, sameAt_1, veqO_i, veqO_b, veqO_s, veqO_p, exS_s', exA_s, exI_s, exB_s, exP_s, exS_s, condT, condF, notT, notF, isNone_s, next_push, next_put, Nat.zero_add, Nat.add_zero, Nat.add_assoc, Nat.reduceAdd, if_true, if_false, Bool.and_true, Bool.true_and, Bool.or_false, Bool.false_or, Nat.reduceEqDiff, Nat.add_eq_left, Nat.left_eq_add, reduceCtorEq, List.length_cons, List.length_nil, List.take_zero, List.take_succ_cons, List.take_nil, List.drop_zero, List.drop_succ_cons, List.drop_nil, List.nil_append, List.cons_append, List.append_nil, decide_true, decide_false, Nat.reduceLeDiff, Nat.le_refl, Nat.lt_add_one, Nat.lt_add_right_iff_pos, Nat.zero_lt_one, Nat.reduceLT, Nat.succ_ne_self, Nat.one_ne_zero, Nat.add_left_cancel_iff, ite_self]
  have k4 : Keep h h4 [] := ((((Keep.refl h []).pushR _).pushR _).putR _ _ (.inr (by omega)))
  obtain ⟨h5, k5, e5⟩ := ref_is R (date / 512 + 1980) (date / 32 % 16) (date % 32) (time / 2048) (time / 32 % 64) (time % 32 * 2) (by omega) h4
  have m3 := k5.look l3 (by simp)
  have m4 := k5.look l4 (by simp)
  have m6 := look_lt m3
  have k45 := k4.trans k5 (by simp)
  by_cases c : timeP (date / 512 + 1980) (date / 32 % 16) (date % 32) (time / 2048) (time / 32 % 64) (time % 32 * 2) = true
  all_goals
    unfold unpP
    refine ⟨?_, ?_, ?_, ?_, ?_, ?_, ?_, ?_, fun β K => ?_⟩
    case refine_9 =>
      unfold F_ref22_Unpack; rw [F_ref22_Unpack_gen]
      simp only [y1, y2, y3, y4, z1, z2, z3, z4, w1, w2]
      simp only [look_push_if, look_put_if, cell_look, rowCell_row, nth_0, nth_s, gnew_if, gput_if, allCells_n, allCells_c, isCell_i, isCell_b, isCell_s, isCell_p, ble_dec, nlay_def, sameAt_1, veqO_i, veqO_b, veqO_s, veqO_p, exS_s', exA_s, exI_s, exB_s, exP_s, exS_s, condT, condF, notT, notF, isNone_s, next_push, next_put, Nat.zero_add, Nat.add_zero, Nat.add_assoc, Nat.reduceAdd, if_true, if_false, Bool.and_true, Bool.true_and, Bool.or_false, Bool.false_or, Nat.reduceEqDiff, Nat.add_eq_left, Nat.left_eq_add, reduceCtorEq, List.length_cons, List.length_nil, List.take_zero, List.take_succ_cons, List.take_nil, List.drop_zero, List.drop_succ_cons, List.drop_nil, List.nil_append, List.cons_append, List.append_nil, decide_true, decide_false, Nat.reduceLeDiff, Nat.le_refl, Nat.lt_add_one, Nat.lt_add_right_iff_pos, Nat.zero_lt_one, Nat.reduceLT, Nat.succ_ne_self, Nat.one_ne_zero, Nat.add_left_cancel_iff, ite_self, bne_int, cond_dec, x1, x2, x3, x4]
      simp only [look_push_if, look_put_if, cell_look, rowCell_row, nth_0, nth_s, gnew_if, gput_if, allCells_n, allCells_c, isCell_i, isCell_b, isCell_s, isCell_p, ble_dec, nlay_def, sameAt_1, veqO_i, veqO_b, veqO_s, veqO_p, exS_s', exA_s, exI_s, exB_s, exP_s, exS_s, condT, condF, notT, notF, isNone_s, next_push, next_put, Nat.zero_add, Nat.add_zero, Nat.add_assoc, Nat.reduceAdd, if_true, if_false, Bool.and_true, Bool.true_and, Bool.or_false, Bool.false_or, Nat.reduceEqDiff, Nat.add_eq_left, Nat.left_eq_add, reduceCtorEq, List.length_cons, List.length_nil, List.take_zero, List.take_succ_cons, List.take_nil, List.drop_zero, List.drop_succ_cons, List.drop_nil, List.nil_append, List.cons_append, List.append_nil, decide_true, decide_false, Nat.reduceLeDiff, Nat.le_refl, Nat.lt_add_one, Nat.lt_add_right_iff_pos, Nat.zero_lt_one, Nat.reduceLT, Nat.succ_ne_self, Nat.one_ne_zero, Nat.add_left_cancel_iff, ite_self, show ((h.push (.row ⟨[Value.int .i64 0, Value.int .i64 0, Value.int .i64 0, Value.int .i64 0, Value.int .i64 0, Value.int .i64 0], 0, false⟩)).push (.row ⟨[Value.int .i64 0, Value.int .i64 0, Value.int .i64 0, Value.int .i64 0, Value.int .i64 0, Value.int .i64 0], 0, false⟩)).put (h.next + 1) (some (.row ⟨[.int .i64 (date / 512 + 1980), .int .i64 (date / 32 % 16), .int .i64 (date % 32), .int .i64 (time / 2048), .int .i64 (time / 32 % 64), .int .i64 (time % 32 * 2)], 0, false⟩)) = h4 from rfl, e5, c, m3, m4, m6]
      rfl
    case refine_8 => exact k45.putR _ _ (.inr (Nat.le_refl _))
end Go.Proofs.Ytibngikhlgmhaaa.Gx

