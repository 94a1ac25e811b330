/- hist.Out: New and Bytes walked. -/
import Derived.Test.YtplkdjbcdeakaaaHist2
import Derived.Lib.SliceRun
namespace Go.Proofs.Ytplkdjbcdeakaaa
open Go.RowKit
attribute [local go_sem ↓] Go.wp_at_zero Go.wp_at_succ

set_option maxHeartbeats 4000000 in
theorem hist_new (w : World) (win most : Int) (nz : Bool) (h1 : 1 ≤ win) (h2 : win ≤ 65536) (h3 : 0 ≤ most) :
    Calls Try.prog 24 #[.int .i64 win, .int .i64 most, .bool nz] w fun e w' => ∃ g v, e = .returned (.tuple #[.pointer (some ⟨g, 0, none⟩), .int .i64 0]) ∧ Below w.heap.size w w' ∧ HO w' w.heap.size g win most nz v [] := by
  have q1 : decide (win < 1) = false := by simp; omega
  have q2 : decide (65536 < win) = false := by simp; omega
  have q3 : decide (most < 0) = false := by simp; omega
  go_enter Try.func24, Try.ntmps24
  go_wp2_with fail
  go_ret2
  refine ⟨_, _, rfl, (Below.refl _ _).alloc (Nat.le_refl _) _, Blk.new w _ _, own_nil _ _ _ _, Nat.le_refl _, by simp, h1, h2⟩

set_option maxHeartbeats 4000000 in
theorem clone_any (w : World) (A : Option Addr) (n c : Nat) (bs : List Int) (h : RN .u8 w w.heap.size A n bs) (hA : A = none → n = 0 ∧ c = 0) (hn : n ≤ 1099511627776) :
    Calls Try.prog 39 #[.slice A n c] w fun e w' => ∃ v, e = .returned v ∧ Below w.heap.size w w' ∧ w'.ownsRow w.heap.size 5 1 v n (nums .u8 bs) := by
  obtain ⟨i0, hi0, hz0, hz1, hz2⟩ := info_parts byteInfo
  have q22 : ∀ (w : World) (a : Option Addr) (n c n' c' : Nat), (binOp .eql 22 (.slice a n c) (.slice none n' c')).run Try.prog w = .ok (.bool a.isNone) w := fun w a n c n' c' => Lib.run_eql_slice_nil w _ _ a n c n' c' Try.underlying22
  cases A with
  | none =>
    obtain ⟨rfl, rfl⟩ := hA rfl
    have hb : bs = [] := List.eq_nil_of_length_eq_zero h.len
    subst hb
    go_enter Try.func39, Try.ntmps39
    go_wp2_with fail
    go_ret
    exact ⟨_, rfl, Below.refl _ _, own_nil _ _ _ _⟩
  | some ad =>
    go_enter Try.func39, Try.ntmps39
    have hO := World.ownsRow_made (e := 5) (size := 1) w #[] 0 (Nat.le_refl _) (Nat.zero_le _) rfl
    go_wp2_with (at_builtin; refine wpList_append_any _ rfl _ _ _ rfl w.heap.size 5 i0 _ 1 1 Try.underlying22 hi0 hz0 hz1 hz2 rfl (by omega) _ 0 [] rfl hO w.heap.size _ n c (nums .u8 bs) rfl (Reads.alloc h (Nat.le_refl _) _) (nums_one _ _) (by simp only [maxLen]; omega) (by omega) (by simp) ?_; intro v5 w5 hown5 hg5 hat5)
    go_ret
    refine ⟨v5, rfl, ((Below.refl _ w).alloc (Nat.le_refl _) _).grown hg5 (by simp) (fun k hk => hbase hO k hk), by simpa using hown5⟩
theorem hist_bytes (w : World) (base g : Nat) (win most : Int) (nz : Bool) (v : Value) (bs : List Int) (h : HO w base g win most nz v bs) :
    Calls Try.prog 32 #[.pointer (some ⟨g, 0, none⟩)] w fun e w' => ∃ v, e = .returned v ∧ Below w.heap.size w w' ∧ w'.ownsRow w.heap.size 5 1 v bs.length (nums .u8 bs) := by
  have c0 : w.cell? ⟨g, 0, none⟩ = some (.int .i64 win) := h.blk.cell 0
  have c3 : w.cell? ⟨g, 3, none⟩ = some v := h.blk.cell 3
  obtain ⟨A, cc, rfl, hc⟩ := own_form h.own
  have hA : A = none → bs.length = 0 ∧ cc = 0 := by
    rintro rfl
    rcases h.own.2 with ⟨e, e2⟩ | ⟨_, _, _, e, _⟩
    · injection e with _ _ e3
      exact ⟨e2, e3⟩
    · cases e
  have hr := Reads.of_own h.own
  have hbn := h.bnd
  go_enter Try.func32, Try.ntmps32
  go_wp2_with fail
  refine (hist_ok w g win c0 h.win0).mono ?_
  rintro e w' ⟨rfl, rfl⟩
  go_wp2_with fail
  refine (clone_any w A bs.length cc bs hr hA hbn).mono ?_
  rintro e w2 ⟨v2, rfl, hb2, hown2⟩
  obtain ⟨A2, c2, rfl, _⟩ := own_form hown2
  go_wp2_with fail
  go_ret
  exact ⟨_, rfl, hb2, hown2⟩
open Go.RowKit
attribute [local go_sem ↓] Go.wp_at_zero Go.wp_at_succ

set_option maxHeartbeats 4000000 in
set_option maxRecDepth 100000 in
theorem hist_copy_full (w : World) (base g : Nat) (win most : Int) (nz : Bool) (v : Value) (bs : List Int) (d n : Nat) (h : HO w base g win most nz v bs) (hd : 1 ≤ d) (hdw : (d : Int) ≤ win) (hdn : d ≤ bs.length ∨ nz = true) (hr : most - bs.length < (n : Int)) (hm0 : 0 ≤ most) (hm : most ≤ 9223372036854775807) :
    Calls Try.prog 28 #[.pointer (some ⟨g, 0, none⟩), .int .i64 d, .int .i64 n] w fun e w' => e = .returned (.int .i64 9) ∧ Drawn w w' := by
  have c0 : w.cell? ⟨g, 0, none⟩ = some (.int .i64 win) := h.blk.cell 0
  have c1 : w.cell? ⟨g, 1, none⟩ = some (.int .i64 most) := h.blk.cell 1
  have c2 : w.cell? ⟨g, 2, none⟩ = some (.bool nz) := h.blk.cell 2
  have c3 : w.cell? ⟨g, 3, none⟩ = some v := h.blk.cell 3
  obtain ⟨A, cc, rfl, hc⟩ := own_form h.own
  have hbn := h.bnd
  have q2 : ¬ d = 0 := by omega
  have q3 : decide (win < d) = false := by simp; omega
  have q4 : decide ((bs.length : Int) < d) = true → nz = true := by
    intro e
    simp at e
    rcases hdn with h1 | h1
    · omega
    · exact h1
  have q5 : IntKind.i64.wrap (most - bs.length) = most - bs.length := IntWalk.i64_in _ (by omega)
  have q6 : decide (most - (bs.length : Int) < n) = true := by simp; omega
  go_enter Try.func28, Try.ntmps28
  go_wp2_with fail
  refine (hist_ok w g win c0 h.win0).mono ?_
  rintro e w' ⟨rfl, rfl⟩
  go_upto_region 5 with fail
  go_cut [20] (fun v20 wx => v20 = .bool false ∧ wx = w)
  case first =>
    go_wp2_with fail
    all_goals go_meet
    all_goals exact ⟨rfl, rfl⟩
  case rest =>
    obtain ⟨rfl, rfl⟩ := hcut
    go_wp2_with fail
    go_quiet (fail)
    go_wp2_with fail
    go_ret
    exact ⟨rfl, ⟨_, rfl⟩⟩
end Go.Proofs.Ytplkdjbcdeakaaa

