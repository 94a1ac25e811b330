/- hist.Out: Copy where there is no room. -/
import Derived.Test.YtplkdjbcdeakaaaHist2
namespace Go.Proofs.Ytplkdjbcdeakaaa
open Go.RowKit
attribute [local go_sem ↓] Go.wp_at_zero Go.wp_at_succ

set_option maxHeartbeats 4000000 in
set_option maxRecDepth 100000 in
theorem hist_copy_full (w : World) (base g : Nat) (win most : Int) (nz : Bool) (v : Value) (bs : List Int) (d n : Nat) (h : HO w base g win most nz v bs) (hd : 1 ≤ d) (hdw : (d : Int) ≤ win) (hdn : d ≤ bs.length ∨ nz = true) (hr : most - bs.length < (n : Int)) (hm0 : 0 ≤ most) (hm : most ≤ 9223372036854775807) :
    Calls Try.prog 28 #[.pointer (some ⟨g, 0, none⟩), .int .i64 d, .int .i64 n] w fun e w' => e = .returned (.int .i64 9) ∧ Drawn w w' := by
  have c0 : w.cell? ⟨g, 0, none⟩ = some (.int .i64 win) := h.blk.cell 0
  have c1 : w.cell? ⟨g, 1, none⟩ = some (.int .i64 most) := h.blk.cell 1
  have c2 : w.cell? ⟨g, 2, none⟩ = some (.bool nz) := h.blk.cell 2
  have c3 : w.cell? ⟨g, 3, none⟩ = some v := h.blk.cell 3
  obtain ⟨A, cc, rfl, hc⟩ := own_form h.own
  have hbn := h.bnd
  have q2 : ¬ d = 0 := by omega
  have q3 : decide (win < d) = false := by simp; omega
  have q4 : decide ((bs.length : Int) < d) = true → nz = true := by
    intro e
    simp at e
    rcases hdn with h1 | h1
    · omega
    · exact h1
  have q5 : IntKind.i64.wrap (most - bs.length) = most - bs.length := IntWalk.i64_in _ (by omega)
  have q6 : decide (most - (bs.length : Int) < n) = true := by simp; omega
  go_enter Try.func28, Try.ntmps28
  go_wp2_with fail
  refine (hist_ok w g win c0 h.win0).mono ?_
  rintro e w' ⟨rfl, rfl⟩
  go_upto_region 5 with fail
  go_cut [20] (fun v20 wx => v20 = .bool false ∧ wx = w)
  case first =>
    go_wp2_with fail
    all_goals go_meet
    all_goals exact ⟨rfl, rfl⟩
  case rest =>
    obtain ⟨rfl, rfl⟩ := hcut
    go_wp2_with fail
    go_quiet (fail)
    go_wp2_with fail
    go_ret
    exact ⟨rfl, ⟨_, rfl⟩⟩
end Go.Proofs.Ytplkdjbcdeakaaa
