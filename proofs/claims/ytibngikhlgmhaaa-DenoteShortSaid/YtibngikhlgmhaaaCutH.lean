/- Cut, Copy, CutHead of the document. No condition. -/
import Derived.Test.YtibngikhlgmhaaaCenB
import Derived.Test.YtibngikhlgmhaaaCutR
namespace Go.Proofs.Ytibngikhlgmhaaa.Gx
open Go
set_option linter.unusedVariables false
set_option linter.unusedSimpArgs false
theorem ref_copy {h : GH} {a : Sl} {bs : List Int} (r : Rd h a bs) (R : Nat) (hm : bs.length ≤ 2000000) : ∃ h' q, Keep h h' [] ∧ Bv h' q bs ∧ (∀ k ∈ rowsOf q, h.next ≤ k) ∧ ∀ (β : Type) (K : Sl → GH → Option β), F_ref01_Copy R a h K = K q h' := by
  have v0 : Bv h ⟨none, 0, 0⟩ [] := Vec.nil
  obtain ⟨h', q, e, v, k, n⟩ := app_bytes v0 r (by simp; omega)
  refine ⟨h', q, by simpa [rowsOf] using k, by simpa using v, fun x hx => by simpa [rowsOf] using n x hx, fun β K => ?_⟩
  unfold F_ref01_Copy; rw [F_ref01_Copy_gen]; exact e β K
/-- both at once: at most n bytes in memory of their own -/
theorem ref_cutcopy {h : GH} {a : Sl} {bs : List Int} (r : Rd h a bs) (R n : Nat) (hn : n ≤ 2000000) : ∃ h' p q, Keep h h' [] ∧ Rd h' q (bs.take n) ∧ (∀ k ∈ rowsOf q, h.next ≤ k) ∧ (∀ (β : Type) (K : Sl → GH → Option β), F_ref01_Cut R a n h K = K p h) ∧ ∀ (β : Type) (K : Sl → GH → Option β), F_ref01_Copy R p h K = K q h' := by
  obtain ⟨p, rp, _, e1⟩ := ref_cut r R n
  obtain ⟨h', q, k, v, n', e2⟩ := ref_copy rp R (by simp; omega)
  exact ⟨h', p, q, k, v.row, n', e1, e2⟩
theorem cut_head {h : GH} (a1 a2 a3 a4 a5 a6 a7 a8 : Int) {a9 a10 : Sl} {nm ex : List Int} (r9 : Rd h a9 nm) (r10 : Rd h a10 ex) (R n : Nat) (hn : n ≤ 2000000) :
    ∃ h' s9 s10, Keep h h' [] ∧ Rd h' s9 (nm.take n) ∧ Rd h' s10 (ex.take n) ∧ (∀ k ∈ rowsOf s9, h.next ≤ k) ∧ (∀ k ∈ rowsOf s10, h.next ≤ k) ∧
    ∀ (β : Type) (K : Int → Int → Int → Int → Int → Int → Int → Int → Sl → Sl → GH → Option β), F_ref24_CutHead R a1 a2 a3 a4 a5 a6 a7 a8 a9 a10 n h K = K a1 a2 a3 a4 a5 a6 a7 a8 s9 s10 h' := by
  obtain ⟨H, hH⟩ : ∃ H, H = (h.push (.row ⟨[Value.int .i64 a1, Value.int .i64 a2, Value.int .i64 a3, Value.int .i64 a4, Value.int .i64 a5, Value.int .u32 a6, Value.int .u32 a7, Value.int .u32 a8, Value.slice a9.a a9.n a9.c, Value.slice a10.a a10.n a10.c], 0, false⟩)).push (.row ⟨[Value.int .i64 0, Value.int .i64 0, Value.int .i64 0, Value.int .i64 0, Value.int .i64 0, Value.int .u32 0, Value.int .u32 0, Value.int .u32 0, Value.slice none 0 0, Value.slice none 0 0], 0, false⟩) := ⟨_, rfl⟩
  have k0 : Keep h H [] := by rw [hH]; exact ((Keep.refl h []).pushR _).pushR _
  have l12 : H.look h.next = some (.row ⟨[Value.int .i64 a1, Value.int .i64 a2, Value.int .i64 a3, Value.int .i64 a4, Value.int .i64 a5, Value.int .u32 a6, Value.int .u32 a7, Value.int .u32 a8, Value.slice a9.a a9.n a9.c, Value.slice a10.a a10.n a10.c], 0, false⟩) := by rw [hH]; simp only [look_push_if, look_put_if, cell_look, rowCell_row, nth_0, nth_s, gnew_if, gput_if, allCells_n, allCells_c, isCell_i, isCell_b, isCell_s, isCell_p, ble_dec, nlay_def, sameAt_1, veqO_i, veqO_b, veqO_s, veqO_p, exS_s', exA_s, exI_s, exB_s, exP_s, exS_s, condT, condF, notT, notF, isNone_s, next_push, next_put, Nat.zero_add, Nat.add_zero, Nat.add_assoc, Nat.reduceAdd, if_true, if_false, Bool.and_true, Bool.true_and, Bool.or_false, Bool.false_or, Nat.reduceEqDiff, Nat.add_eq_left, Nat.left_eq_add, reduceCtorEq, List.length_cons, List.length_nil, List.take_zero, List.take_succ_cons, List.take_nil, List.drop_zero, List.drop_succ_cons, List.drop_nil, List.nil_append, List.cons_append, List.append_nil, decide_true, decide_false, Nat.reduceLeDiff, Nat.le_refl, Nat.lt_add_one, Nat.lt_add_right_iff_pos, Nat.zero_lt_one, Nat.reduceLT, Nat.succ_ne_self, Nat.one_ne_zero, Nat.add_left_cancel_iff, ite_self]
  have l14 : H.look (h.next + 1) = some (.row ⟨[Value.int .i64 0, Value.int .i64 0, Value.int .i64 0, Value.int .i64 0, Value.int .i64 0, Value.int .u32 0, Value.int .u32 0, Value.int .u32 0, Value.slice none 0 0, Value.slice none 0 0], 0, false⟩) := by rw [hH]; simp only [look_push_if, look_put_if, cell_look, rowCell_row, nth_0, nth_s, gnew_if, gput_if, allCells_n, allCells_c, isCell_i, isCell_b, isCell_s, isCell_p, ble_dec, nlay_def, sameAt_1, veqO_i, veqO_b, veqO_s, veqO_p, exS_s', exA_s, exI_s, exB_s, exP_s, exS_s, condT, condF, notT, notF, isNone_s, next_push, next_put, Nat.zero_add, Nat.add_zero, Nat.add_assoc, Nat.reduceAdd, if_true, if_false, Bool.and_true, Bool.true_and, Bool.or_false, Bool.false_or, Nat.reduceEqDiff, Nat.add_eq_left, Nat.left_eq_add, reduceCtorEq, List.length_cons, List.length_nil, List.take_zero, List.take_succ_cons, List.take_nil, List.drop_zero, List.drop_succ_cons, List.drop_nil, List.nil_append, List.cons_append, List.append_nil, decide_true, decide_false, Nat.reduceLeDiff, Nat.le_refl, Nat.lt_add_one, Nat.lt_add_right_iff_pos, Nat.zero_lt_one, Nat.reduceLT, Nat.succ_ne_self, Nat.one_ne_zero, Nat.add_left_cancel_iff, ite_self]
  obtain ⟨h1, p1, q1, k1, r1, n1, e1, e2⟩ := ref_cutcopy (r9.keep k0 (by simp)) R n hn
  have m12 := k1.look l12 (by simp)
  have m14 := k1.look l14 (by simp)
  have k01 := k0.trans k1 (by simp)
  obtain ⟨h2, p2, q2, k2, r2, n2, e3, e4⟩ := ref_cutcopy (r10.keep k01 (by simp)) R n hn
  have o12 := k2.look m12 (by simp)
  have o14 := k2.look m14 (by simp)
  have x12 := look_lt o12
  have x14 := look_lt o14
  have k012 := k01.trans k2 (by simp)
  have hH1 : h.next + 2 ≤ H.next := by rw [hH]; simp [GH.push]
  have f1 : ∀ k ∈ rowsOf q1, h.next + 2 ≤ k := fun k hk => by have := n1 k hk; omega
  have f2 : ∀ k ∈ rowsOf q2, h.next + 2 ≤ k := fun k hk => by have := n2 k hk; have := k1.1; omega
  refine ⟨?_, q1, q2, ?_, ?_, ?_, fun k hk => by have := f1 k hk; omega, fun k hk => by have := f2 k hk; omega, fun β K => ?_⟩
  case refine_5 =>
    unfold F_ref24_CutHead; rw [F_ref24_CutHead_gen]
    simp only [look_push_if, look_put_if, cell_look, rowCell_row, nth_0, nth_s, gnew_if, gput_if, allCells_n, allCells_c, isCell_i, isCell_b, isCell_s, isCell_p, ble_dec, nlay_def, sameAt_1, veqO_i, veqO_b, veqO_s, veqO_p, exS_s', exA_s, exI_s, exB_s, exP_s, exS_s, condT, condF, notT, notF, isNone_s, next_push, next_put, Nat.zero_add, Nat.add_zero, Nat.add_assoc, Nat.reduceAdd, if_true, if_false, Bool.and_true, Bool.true_and, Bool.or_false, Bool.false_or, Nat.reduceEqDiff, Nat.add_eq_left, Nat.left_eq_add, reduceCtorEq, List.length_cons, List.length_nil, List.take_zero, List.take_succ_cons, List.take_nil, List.drop_zero, List.drop_succ_cons, List.drop_nil, List.nil_append, List.cons_append, List.append_nil, decide_true, decide_false, Nat.reduceLeDiff, Nat.le_refl, Nat.lt_add_one, Nat.lt_add_right_iff_pos, Nat.zero_lt_one, Nat.reduceLT, Nat.succ_ne_self, Nat.one_ne_zero, Nat.add_left_cancel_iff, ite_self]
    simp only [← hH, e1, e2, l12, l14, m12, m14, e3, e4, o12, o14, x12, x14, look_push_if, look_put_if, cell_look, rowCell_row, nth_0, nth_s, gnew_if, gput_if, allCells_n, allCells_c, isCell_i, isCell_b, isCell_s, isCell_p, ble_dec, nlay_def, sameAt_1, veqO_i, veqO_b, veqO_s, veqO_p, exS_s', exA_s, exI_s, exB_s, exP_s, exS_s, condT, condF, notT, notF, isNone_s, next_push, next_put, Nat.zero_add, Nat.add_zero, Nat.add_assoc, Nat.reduceAdd, if_true, if_false, Bool.and_true, Bool.true_and, Bool.or_false, Bool.false_or, Nat.reduceEqDiff, Nat.add_eq_left, Nat.left_eq_add, reduceCtorEq, List.length_cons, List.length_nil, List.take_zero, List.take_succ_cons, List.take_nil, List.drop_zero, List.drop_succ_cons, List.drop_nil, List.nil_append, List.cons_append, List.append_nil, decide_true, decide_false, Nat.reduceLeDiff, Nat.le_refl, Nat.lt_add_one, Nat.lt_add_right_iff_pos, Nat.zero_lt_one, Nat.reduceLT, Nat.succ_ne_self, Nat.one_ne_zero, Nat.add_left_cancel_iff, ite_self]
    rfl
  case refine_2 => exact ((k012.putR _ _ (.inr (Nat.le_refl _))).putR _ _ (.inr (Nat.le_refl _))).putR _ _ (.inr (by omega))
  case refine_3 => exact (((r1.keep k2 (by simp)).keep (keep_put _ _ _) (by intro x hx; have := f1 x hx; simp; omega)).keep (keep_put _ _ _) (by intro x hx; have := f1 x hx; simp; omega)).keep (keep_put _ _ _) (by intro x hx; have := f1 x hx; simp; omega)
  case refine_4 => exact ((r2.keep (keep_put _ _ _) (by intro x hx; have := f2 x hx; simp; omega)).keep (keep_put _ _ _) (by intro x hx; have := f2 x hx; simp; omega)).keep (keep_put _ _ _) (by intro x hx; have := f2 x hx; simp; omega)
end Go.Proofs.Ytibngikhlgmhaaa.Gx

