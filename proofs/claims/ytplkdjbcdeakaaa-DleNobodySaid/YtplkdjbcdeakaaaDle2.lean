/- dle.Machine: Feed walked, case by case. -/
import Derived.Test.YtplkdjbcdeakaaaDle1
namespace Go.Proofs.Ytplkdjbcdeakaaa
open Go.RowKit
attribute [local go_sem ↓] Go.wp_at_zero Go.wp_at_succ

theorem HO.far {w : World} {base g : Nat} {win most : Int} {nz : Bool} {v : Value} {bs : List Int} (h : HO w base g win most nz v bs) {mg : Nat} {cs : Array Value} (hB : Blk w mg 44 cs) (hne : mg ≠ g) (i : Nat) (u : Value) : HO (w.setCell ⟨mg, i, none⟩ u) base g win most nz v bs :=
  ⟨h.blk.far (fun e => hne e.symm) u, own_set h.own (own_blk_ne h.own hB (by decide)) u, h.bas, h.bnd, h.win0, h.win1⟩
set_option maxHeartbeats 1000000 in
theorem feed_mark (w : World) (base mg og : Nat) (f v n size : Nat) (ov : Value) (bs : List Int) (h : DM w base mg og f 0 v n size ov bs) (hs : bs.length ≠ size) :
    Calls Try.prog 11 #[.pointer (some ⟨mg, 0, none⟩), .int .u8 144] w fun e w' => e = .returned (.int .i64 0) ∧ Below base w w' ∧ DM w' base mg og f 1 v n size ov bs := by
  have c1 : w.cell? ⟨mg, 1, none⟩ = some (.pointer (some ⟨og, 0, none⟩)) := h.blk.cell 1
  go_enter Try.func11, Try.ntmps11
  go_wp2_with fail
  refine (dle_ok w mg og c1).mono ?_
  rintro e w1 ⟨rfl, rfl⟩
  go_wp2_with fail
  refine (dle_full w base mg og f 0 v n size ov bs h false (by simp [fullD, hs])).mono ?_
  rintro e w2 ⟨rfl, hd⟩
  have hB : Blk w2 mg 44 #[.int .i64 f, .pointer (some ⟨og, 0, none⟩), .int .i64 0, .int .i64 v, .int .i64 n] := h.blk.drawn hd
  have c2 : w2.cell? ⟨mg, 2, none⟩ = some (.int .i64 0) := hB.cell 2
  have z2 : w2.frozen? ⟨mg, 2, none⟩ = false := hB.frozen 2
  go_wp2_with fail
  go_ret
  have hO2 := h.out.keep (hd.below _)
  have hb : Below base w w2 := hd.below _
  refine ⟨rfl, hb.setCell (show base ≤ mg from h.bas) _, hB.set_ 2 _, ?_, h.bas, h.ne, h.f1, h.f4⟩
  exact hO2.far hB h.ne 2 _
set_option maxHeartbeats 1000000 in
theorem begin_zero (w : World) (base mg og : Nat) (f v n size : Nat) (ov : Value) (bs : List Int) (h : DM w base mg og f 1 v n size ov bs) (hs : bs.length ≠ size) (hn : bs.length < 1099511627776) :
    Calls Try.prog 27 #[.pointer (some ⟨mg, 0, none⟩), .int .u8 0] w fun e w' => e = .returned (.int .i64 0) ∧ Below base w w' ∧ ∃ ov', DM w' base mg og f 0 v n size ov' (bs ++ [144]) := by
  have c1 : w.cell? ⟨mg, 1, none⟩ = some (.pointer (some ⟨og, 0, none⟩)) := h.blk.cell 1
  have hown := own_blk_ne h.out.own h.blk (by decide)
  go_enter Try.func27, Try.ntmps27
  go_wp2_with fail
  refine (hist_litC w base og 65536 size true ov bs 144 h.out (by omega) hn).mono ?_
  rintro e w2 ⟨rfl, hb2, hC2, ov2, hO2⟩
  have hB : Blk w2 mg 44 #[.int .i64 f, .pointer (some ⟨og, 0, none⟩), .int .i64 1, .int .i64 v, .int .i64 n] := hC2.blk h.blk (by
    intro hm
    rcases List.mem_cons.1 hm with e | e
    · exact h.ne e
    · exact hown (Option.mem_toList.1 e))
  have c2 : w2.cell? ⟨mg, 2, none⟩ = some (.int .i64 1) := hB.cell 2
  have z2 : w2.frozen? ⟨mg, 2, none⟩ = false := hB.frozen 2
  go_wp2_with fail
  go_ret
  exact ⟨rfl, hb2.setCell (show base ≤ mg from h.bas) _, ov2, hB.set_ 2 _, hO2.far hB h.ne 2 _, h.bas, h.ne, h.f1, h.f4⟩
set_option maxHeartbeats 1000000 in
theorem feed_zero (w : World) (base mg og : Nat) (f v n size : Nat) (ov : Value) (bs : List Int) (h : DM w base mg og f 1 v n size ov bs) (hs : bs.length ≠ size) (hn : bs.length < 1099511627776) :
    Calls Try.prog 11 #[.pointer (some ⟨mg, 0, none⟩), .int .u8 0] w fun e w' => e = .returned (.int .i64 0) ∧ Below base w w' ∧ ∃ ov', DM w' base mg og f 0 v n size ov' (bs ++ [144]) := by
  have c1 : w.cell? ⟨mg, 1, none⟩ = some (.pointer (some ⟨og, 0, none⟩)) := h.blk.cell 1
  go_enter Try.func11, Try.ntmps11
  go_wp2_with fail
  refine (dle_ok w mg og c1).mono ?_
  rintro e w1 ⟨rfl, rfl⟩
  go_wp2_with fail
  refine (dle_full w base mg og f 1 v n size ov bs h false (by simp [fullD])).mono ?_
  rintro e w2 ⟨rfl, hd⟩
  have hB : Blk w2 mg 44 #[.int .i64 f, .pointer (some ⟨og, 0, none⟩), .int .i64 1, .int .i64 v, .int .i64 n] := h.blk.drawn hd
  have c2 : w2.cell? ⟨mg, 2, none⟩ = some (.int .i64 1) := hB.cell 2
  have hO2 := h.out.keep (hd.below _)
  have hb : Below base w w2 := hd.below _
  go_wp2_with fail
  refine (begin_zero w2 base mg og f v n size ov bs ⟨hB, hO2, h.bas, h.ne, h.f1, h.f4⟩ hs hn).mono ?_
  rintro e w3 ⟨rfl, hb3, hD⟩
  go_wp2_with fail
  go_ret
  exact ⟨rfl, hb.trans hb3, hD⟩
end Go.Proofs.Ytplkdjbcdeakaaa
