/- lives of layer 13, and DleNobody. -/
import Derived.Test.YtplkdjbcdeakaaaDle1
namespace Go.Proofs.Ytplkdjbcdeakaaa
open Go.RowKit
attribute [local go_sem ↓] Go.wp_at_zero Go.wp_at_succ

set_option maxHeartbeats 4000000 in
theorem lives13 (w : World) : Calls Try.prog 18 #[] w fun e w' => e = .returned (.bool true) ∧ Below w.heap.size w w' := by
  go_enter Try.func18, Try.ntmps18
  go_wp2_with fail
  refine (dle_new w 1 1 (by omega) (by omega)).mono ?_
  rintro e w1 ⟨mg, og, ov, rfl, hb1, hD1⟩
  go_wp2_with fail
  refine (feed_mark w1 _ mg og 1 0 0 1 ov [] hD1 (by simp)).mono ?_
  rintro e w2 ⟨rfl, hb2, hD2⟩
  go_wp2_with fail
  refine (feed_zero w2 _ mg og 1 0 0 1 ov [] hD2 (by simp) (by simp)).mono ?_
  rintro e w3 ⟨rfl, hb3, ov3, hD3⟩
  go_wp2_with fail
  refine (dle_full w3 _ mg og 1 0 0 0 1 ov3 _ hD3 true (by simp [fullD])).mono ?_
  rintro e w4 ⟨rfl, hd4⟩
  have hD4 : DM w4 w.heap.size mg og 1 0 0 0 1 ov3 [144] := ⟨hD3.blk.drawn hd4, hD3.out.keep (hd4.below _), hD3.bas, hD3.ne, hD3.f1, hD3.f4⟩
  go_wp2_with fail
  refine (dle_bytes w4 _ mg og 1 0 0 0 1 ov3 _ hD4).mono ?_
  rintro e w5 ⟨u, rfl, hb5, hown5⟩
  obtain ⟨A5, c5, rfl, _⟩ := own_form hown5
  go_wp2_with fail
  go_ret
  exact ⟨rfl, (((hb1.trans hb2).trans hb3).trans (hd4.below _)).trans (hb5.mono (Nat.le_of_lt (Nat.lt_of_le_of_lt hD4.bas hD4.blk.lt)))⟩
end Go.Proofs.Ytplkdjbcdeakaaa

