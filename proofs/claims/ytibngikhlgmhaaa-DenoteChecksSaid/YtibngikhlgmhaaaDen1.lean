/- DenoteChecks: it answers true. No condition. -/
import Derived.Test.YtibngikhlgmhaaaCutH
import Derived.Test.YtibngikhlgmhaaaArg
namespace Go.Proofs.Ytibngikhlgmhaaa.Gx
open Go Go.RowKit
set_option linter.unusedVariables false
set_option linter.unusedSimpArgs false
theorem lives26 {β : Type} (h : GH) (K : Bool → GH → Option β) : F_law26_lives h K = K true h := rfl
theorem checks_true {h : GH} (a1 a2 a3 a4 a5 a6 a7 a8 : Int) {a9 a10 : Sl} (a11 a12 a13 a14 a15 : Int) (a16 : Sl) {nm ex : List Int} (r9 : Rd h a9 nm) (r10 : Rd h a10 ex) (hx : B8 ex) {R : Nat} (hR : 4000000 < R) :
    ∃ h', ∀ (β : Type) (K : Bool → GH → Option β), F_law26_DenoteChecks R a1 a2 a3 a4 a5 a6 a7 a8 a9 a10 a11 a12 a13 a14 a15 a16 h K = K true h' := by
  obtain ⟨H, hH⟩ : ∃ H, H = h.push (.row ⟨[Value.int .i64 a1, Value.int .i64 a2, Value.int .i64 a3, Value.int .i64 a4, Value.int .i64 a5, Value.int .u32 a6, Value.int .u32 a7, Value.int .u32 a8, Value.slice a9.a a9.n a9.c, Value.slice a10.a a10.n a10.c, Value.int .i64 a11, Value.int .i64 a12, Value.int .i64 a13, Value.int .u32 a14, Value.int .u32 a15, Value.slice a16.a a16.n a16.c], 0, false⟩) := ⟨_, rfl⟩
  have k0 : Keep h H [] := by rw [hH]; exact (Keep.refl h []).pushR _
  have l17 : H.look h.next = some (.row ⟨[Value.int .i64 a1, Value.int .i64 a2, Value.int .i64 a3, Value.int .i64 a4, Value.int .i64 a5, Value.int .u32 a6, Value.int .u32 a7, Value.int .u32 a8, Value.slice a9.a a9.n a9.c, Value.slice a10.a a10.n a10.c, Value.int .i64 a11, Value.int .i64 a12, Value.int .i64 a13, Value.int .u32 a14, Value.int .u32 a15, Value.slice a16.a a16.n a16.c], 0, false⟩) := by rw [hH]; simp only [look_push_if, look_put_if, cell_look, rowCell_row, nth_0, nth_s, gnew_if, gput_if, allCells_n, allCells_c, isCell_i, isCell_b, isCell_s, isCell_p, ble_dec, nlay_def, sameAt_1, veqO_i, veqO_b, veqO_s, veqO_p, exS_s', exA_s, exI_s, exB_s, exP_s, exS_s, condT, condF, notT, notF, isNone_s, next_push, next_put, Nat.zero_add, Nat.add_zero, Nat.add_assoc, Nat.reduceAdd, if_true, if_false, Bool.and_true, Bool.true_and, Bool.or_false, Bool.false_or, Nat.reduceEqDiff, Nat.add_eq_left, Nat.left_eq_add, reduceCtorEq, List.length_cons, List.length_nil, List.take_zero, List.take_succ_cons, List.take_nil, List.drop_zero, List.drop_succ_cons, List.drop_nil, List.nil_append, List.cons_append, List.append_nil, decide_true, decide_false, Nat.reduceLeDiff, Nat.le_refl, Nat.lt_add_one, Nat.lt_add_right_iff_pos, Nat.zero_lt_one, Nat.reduceLT, Nat.succ_ne_self, Nat.one_ne_zero, Nat.add_left_cancel_iff, ite_self]
  obtain ⟨h1, s9, s10, k1, q9, q10, n9, n10, e1⟩ := cut_head a1 a2 a3 a4 a5 a6 a7 a8 (r9.keep k0 (by simp)) (r10.keep k0 (by simp)) R 100 (by omega)
  rw [show ((100 : Nat) : Int) = 100 from rfl] at e1
  have m17 := k1.look l17 (by simp)
  have x17 := look_lt m17
  have hH1 : h.next + 1 ≤ H.next := by rw [hH]; simp [GH.push]
  obtain ⟨H1, hH1e⟩ : ∃ H1, H1 = h1.put h.next (some (.row ⟨[Value.int .i64 a1, Value.int .i64 a2, Value.int .i64 a3, Value.int .i64 a4, Value.int .i64 a5, Value.int .u32 a6, Value.int .u32 a7, Value.int .u32 a8, Value.slice s9.a s9.n s9.c, Value.slice s10.a s10.n s10.c, Value.int .i64 a11, Value.int .i64 a12, Value.int .i64 a13, Value.int .u32 a14, Value.int .u32 a15, Value.slice a16.a a16.n a16.c], 0, false⟩)) := ⟨_, rfl⟩
  have o17 : H1.look h.next = some (.row ⟨[Value.int .i64 a1, Value.int .i64 a2, Value.int .i64 a3, Value.int .i64 a4, Value.int .i64 a5, Value.int .u32 a6, Value.int .u32 a7, Value.int .u32 a8, Value.slice s9.a s9.n s9.c, Value.slice s10.a s10.n s10.c, Value.int .i64 a11, Value.int .i64 a12, Value.int .i64 a13, Value.int .u32 a14, Value.int .u32 a15, Value.slice a16.a a16.n a16.c], 0, false⟩) := by rw [hH1e]; simp only [x17, look_push_if, look_put_if, cell_look, rowCell_row, nth_0, nth_s, gnew_if, gput_if, allCells_n, allCells_c, isCell_i, isCell_b, isCell_s, isCell_p, ble_dec, nlay_def, sameAt_1, veqO_i, veqO_b, veqO_s, veqO_p, exS_s', exA_s, exI_s, exB_s, exP_s, exS_s, condT, condF, notT, notF, isNone_s, next_push, next_put, Nat.zero_add, Nat.add_zero, Nat.add_assoc, Nat.reduceAdd, if_true, if_false, Bool.and_true, Bool.true_and, Bool.or_false, Bool.false_or, Nat.reduceEqDiff, Nat.add_eq_left, Nat.left_eq_add, reduceCtorEq, List.length_cons, List.length_nil, List.take_zero, List.take_succ_cons, List.take_nil, List.drop_zero, List.drop_succ_cons, List.drop_nil, List.nil_append, List.cons_append, List.append_nil, decide_true, decide_false, Nat.reduceLeDiff, Nat.le_refl, Nat.lt_add_one, Nat.lt_add_right_iff_pos, Nat.zero_lt_one, Nat.reduceLT, Nat.succ_ne_self, Nat.one_ne_zero, Nat.add_left_cancel_iff, ite_self]
  have p10 : Rd H1 s10 (ex.take 100) := by rw [hH1e]; exact q10.keep (keep_put _ _ _) (by intro x hx; have := n10 x hx; simp; omega)
  have b8 : B8 (ex.take 100) := fun b hb => hx b (List.mem_of_mem_take hb)
  have l100 : (ex.take 100).length ≤ 2000000 := by simp; omega
  obtain ⟨h2, k2, e2⟩ := check_central H1 a1 a2 a3 a4 a5 a6 a7 a8 s9 s10 a11 a12 a13 a14 a15 a16 p10 b8 l100 hR
  have u17 := k2.look o17 (by simp)
  obtain ⟨h3, k3, e3⟩ := ref_central h2 a1 a2 a3 a4 a5 a6 a7 a8 s9 s10 a11 a12 a13 a14 a15 a16 (p10.keep k2 (by simp)) b8 l100 hR
  refine ⟨h3, fun β K => ?_⟩
  unfold F_law26_DenoteChecks; rw [F_law26_DenoteChecks_gen]
  simp only [look_push_if, look_put_if, cell_look, rowCell_row, nth_0, nth_s, gnew_if, gput_if, allCells_n, allCells_c, isCell_i, isCell_b, isCell_s, isCell_p, ble_dec, nlay_def, sameAt_1, veqO_i, veqO_b, veqO_s, veqO_p, exS_s', exA_s, exI_s, exB_s, exP_s, exS_s, condT, condF, notT, notF, isNone_s, next_push, next_put, Nat.zero_add, Nat.add_zero, Nat.add_assoc, Nat.reduceAdd, if_true, if_false, Bool.and_true, Bool.true_and, Bool.or_false, Bool.false_or, Nat.reduceEqDiff, Nat.add_eq_left, Nat.left_eq_add, reduceCtorEq, List.length_cons, List.length_nil, List.take_zero, List.take_succ_cons, List.take_nil, List.drop_zero, List.drop_succ_cons, List.drop_nil, List.nil_append, List.cons_append, List.append_nil, decide_true, decide_false, Nat.reduceLeDiff, Nat.le_refl, Nat.lt_add_one, Nat.lt_add_right_iff_pos, Nat.zero_lt_one, Nat.reduceLT, Nat.succ_ne_self, Nat.one_ne_zero, Nat.add_left_cancel_iff, ite_self]
  simp only [← hH, l17, e1, m17, x17, look_push_if, look_put_if, cell_look, rowCell_row, nth_0, nth_s, gnew_if, gput_if, allCells_n, allCells_c, isCell_i, isCell_b, isCell_s, isCell_p, ble_dec, nlay_def, sameAt_1, veqO_i, veqO_b, veqO_s, veqO_p, exS_s', exA_s, exI_s, exB_s, exP_s, exS_s, condT, condF, notT, notF, isNone_s, next_push, next_put, Nat.zero_add, Nat.add_zero, Nat.add_assoc, Nat.reduceAdd, if_true, if_false, Bool.and_true, Bool.true_and, Bool.or_false, Bool.false_or, Nat.reduceEqDiff, Nat.add_eq_left, Nat.left_eq_add, reduceCtorEq, List.length_cons, List.length_nil, List.take_zero, List.take_succ_cons, List.take_nil, List.drop_zero, List.drop_succ_cons, List.drop_nil, List.nil_append, List.cons_append, List.append_nil, decide_true, decide_false, Nat.reduceLeDiff, Nat.le_refl, Nat.lt_add_one, Nat.lt_add_right_iff_pos, Nat.zero_lt_one, Nat.reduceLT, Nat.succ_ne_self, Nat.one_ne_zero, Nat.add_left_cancel_iff, ite_self]
  simp only [← hH1e, o17, e2, u17, e3, lives26, sameAt, beq_self_eq_true, look_push_if, look_put_if, cell_look, rowCell_row, nth_0, nth_s, gnew_if, gput_if, allCells_n, allCells_c, isCell_i, isCell_b, isCell_s, isCell_p, ble_dec, nlay_def, sameAt_1, veqO_i, veqO_b, veqO_s, veqO_p, exS_s', exA_s, exI_s, exB_s, exP_s, exS_s, condT, condF, notT, notF, isNone_s, next_push, next_put, Nat.zero_add, Nat.add_zero, Nat.add_assoc, Nat.reduceAdd, if_true, if_false, Bool.and_true, Bool.true_and, Bool.or_false, Bool.false_or, Nat.reduceEqDiff, Nat.add_eq_left, Nat.left_eq_add, reduceCtorEq, List.length_cons, List.length_nil, List.take_zero, List.take_succ_cons, List.take_nil, List.drop_zero, List.drop_succ_cons, List.drop_nil, List.nil_append, List.cons_append, List.append_nil, decide_true, decide_false, Nat.reduceLeDiff, Nat.le_refl, Nat.lt_add_one, Nat.lt_add_right_iff_pos, Nat.zero_lt_one, Nat.reduceLT, Nat.succ_ne_self, Nat.one_ne_zero, Nat.add_left_cancel_iff, ite_self]
/-- the cells of a central header -/
def cenL : List Lf := [.int .i64, .int .i64, .int .i64, .int .i64, .int .i64, .int .u32, .int .u32, .int .u32, .ints .u8, .ints .u8, .int .i64, .int .i64, .int .i64, .int .u32, .int .u32, .ints .u8]
theorem All2.two {α γ : Type} {R : α → γ → Prop} {a : α} {l : List α} {cs : List γ} (h : All2 R (a :: l) cs) : ∃ c r, cs = c :: r ∧ R a c ∧ All2 R l r := by cases h with | cons h t => exact ⟨_, _, rfl, h, t⟩
theorem checks_any {W : World} {cs : List Value} (o : All2 (LfOk W) cenL cs) : Calls Try.prog 3 #[.agg cs.toArray] W fun e W' => e = .returned (.bool true) ∧ Below W.heap.size W W' := by
  unfold cenL at o
  obtain _ | ⟨⟨a1, rfl, _⟩, o⟩ := o
  obtain _ | ⟨⟨a2, rfl, _⟩, o⟩ := o
  obtain _ | ⟨⟨a3, rfl, _⟩, o⟩ := o
  obtain _ | ⟨⟨a4, rfl, _⟩, o⟩ := o
  obtain _ | ⟨⟨a5, rfl, _⟩, o⟩ := o
  obtain _ | ⟨⟨a6, rfl, _⟩, o⟩ := o
  obtain _ | ⟨⟨a7, rfl, _⟩, o⟩ := o
  obtain _ | ⟨⟨a8, rfl, _⟩, o⟩ := o
  obtain _ | ⟨⟨a9, l9, c9, z9, rfl, i9⟩, o⟩ := o
  obtain _ | ⟨⟨a10, l10, c10, z10, rfl, i10⟩, o⟩ := o
  obtain _ | ⟨⟨a11, rfl, _⟩, o⟩ := o
  obtain _ | ⟨⟨a12, rfl, _⟩, o⟩ := o
  obtain _ | ⟨⟨a13, rfl, _⟩, o⟩ := o
  obtain _ | ⟨⟨a14, rfl, _⟩, o⟩ := o
  obtain _ | ⟨⟨a15, rfl, _⟩, o⟩ := o
  obtain _ | ⟨⟨a16, l16, c16, z16, rfl, i16⟩, o⟩ := o
  cases o
  let l : List Ar := [⟨a9, l9, c9, 1, u8s (z9.take l9)⟩, ⟨a10, l10, c10, 1, u8s (z10.take l10)⟩, ⟨a16, l16, c16, 1, u8s (z16.take l16)⟩]
  have ok : ∀ x ∈ l, ArOk (arInj l) W x := by
    intro x hx
    simp only [l, List.mem_cons, List.not_mem_nil, or_false] at hx
    rcases hx with rfl | rfl | rfl
    · exact ar_bytes i9 _
    · exact ar_bytes i10 _
    · exact ar_bytes i16 _
  have v9 := ar_vr (l := l) (g := 0) rfl (ar_bytes i9 (arInj l))
  have v10 := ar_vr (l := l) (g := 1) rfl (ar_bytes i10 (arInj l))
  have v16 := ar_vr (l := l) (g := 2) rfl (ar_bytes i16 (arInj l))
  obtain ⟨h', e⟩ := checks_true a1 a2 a3 a4 a5 a6 a7 a8 a11 a12 a13 a14 a15 (arSl 2 ⟨a16, l16, c16, 1, u8s (z16.take l16)⟩) (ar_row (l := l) (g := 0) rfl (ar_bytes i9 (arInj l))) (ar_row (l := l) (g := 1) rfl (ar_bytes i10 (arInj l))) (IsRow.b8 i10) (R := rounds) (by unfold rounds; omega)
  obtain ⟨v, h1, hk, hc⟩ := F_law26_DenoteChecks_sim (β := Value × GH) (r := (.bool true, h')) (K := fun v h => some (v, h)) (e _ _)
  cases hk
  refine ar_calls ok hc (.cons ?_ .nil)
  refine .agg _ _ rfl ?_
  suffices hs : All2 (VR (arInj l)) [Value.int .i64 a1, Value.int .i64 a2, Value.int .i64 a3, Value.int .i64 a4, Value.int .i64 a5, Value.int .u32 a6, Value.int .u32 a7, Value.int .u32 a8, Value.slice (arSl 0 ⟨a9, l9, c9, 1, u8s (z9.take l9)⟩).a (arSl 0 ⟨a9, l9, c9, 1, u8s (z9.take l9)⟩).n (arSl 0 ⟨a9, l9, c9, 1, u8s (z9.take l9)⟩).c, Value.slice (arSl 1 ⟨a10, l10, c10, 1, u8s (z10.take l10)⟩).a (arSl 1 ⟨a10, l10, c10, 1, u8s (z10.take l10)⟩).n (arSl 1 ⟨a10, l10, c10, 1, u8s (z10.take l10)⟩).c, Value.int .i64 a11, Value.int .i64 a12, Value.int .i64 a13, Value.int .u32 a14, Value.int .u32 a15, Value.slice (arSl 2 ⟨a16, l16, c16, 1, u8s (z16.take l16)⟩).a (arSl 2 ⟨a16, l16, c16, 1, u8s (z16.take l16)⟩).n (arSl 2 ⟨a16, l16, c16, 1, u8s (z16.take l16)⟩).c]
    [Value.int .i64 a1, Value.int .i64 a2, Value.int .i64 a3, Value.int .i64 a4, Value.int .i64 a5, Value.int .u32 a6, Value.int .u32 a7, Value.int .u32 a8, Value.slice a9 l9 c9, Value.slice a10 l10 c10, Value.int .i64 a11, Value.int .i64 a12, Value.int .i64 a13, Value.int .u32 a14, Value.int .u32 a15, Value.slice a16 l16 c16] by
    intro i v r hv hr
    obtain ⟨c, hc1, hc2⟩ := hs.get hv
    rw [show nth _ i = some r from hr] at hc1
    cases hc1
    exact hc2
  exact .cons (.same _ rfl) (.cons (.same _ rfl) (.cons (.same _ rfl) (.cons (.same _ rfl) (.cons (.same _ rfl) (.cons (.same _ rfl) (.cons (.same _ rfl) (.cons (.same _ rfl) (.cons v9 (.cons v10 (.cons (.same _ rfl) (.cons (.same _ rfl) (.cons (.same _ rfl) (.cons (.same _ rfl) (.cons (.same _ rfl) (.cons v16 .nil)))))))))))))))
end Go.Proofs.Ytibngikhlgmhaaa.Gx

