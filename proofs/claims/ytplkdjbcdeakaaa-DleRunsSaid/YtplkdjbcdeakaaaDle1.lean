/- dle.Machine, walked: mask, right, ok, Rest, Full, New, Bytes, Feed. -/
import Derived.Test.YtplkdjbcdeakaaaHist2
namespace Go.Proofs.Ytplkdjbcdeakaaa
open Go.RowKit
attribute [local go_sem ↓] Go.wp_at_zero Go.wp_at_succ

/-- What a machine holds. -/
structure DM (w : World) (base mg og : Nat) (f st v n size : Nat) (ov : Value) (bs : List Int) : Prop where
  blk : Blk w mg 44 #[.int .i64 f, .pointer (some ⟨og, 0, none⟩), .int .i64 st, .int .i64 v, .int .i64 n]
  out : HO w base og 65536 size true ov bs
  bas : base ≤ mg
  ne : mg ≠ og
  f1 : 1 ≤ f
  f4 : f ≤ 4

theorem dle_ok (w : World) (mg og : Nat) (h : w.cell? ⟨mg, 1, none⟩ = some (.pointer (some ⟨og, 0, none⟩))) :
    Calls Try.prog 25 #[.pointer (some ⟨mg, 0, none⟩)] w fun e w' => e = .returned (.bool true) ∧ w = w' := by
  go_enter Try.func25, Try.ntmps25
  go_wp2_with fail
  go_ret
  exact ⟨rfl, rfl⟩
theorem dle_nil_ok (w : World) :
    Calls Try.prog 25 #[.pointer none] w fun e w' => e = .returned (.bool false) ∧ w = w' := by
  go_enter Try.func25, Try.ntmps25
  go_wp2_with fail
  go_ret
  exact ⟨rfl, rfl⟩
theorem dle_none_ok (w : World) (mg : Nat) (h : w.cell? ⟨mg, 1, none⟩ = some (.pointer none)) :
    Calls Try.prog 25 #[.pointer (some ⟨mg, 0, none⟩)] w fun e w' => e = .returned (.bool false) ∧ w = w' := by
  go_enter Try.func25, Try.ntmps25
  go_wp2_with fail
  go_ret
  exact ⟨rfl, rfl⟩
theorem dle_rest (w : World) (mg og : Nat) (st : Nat) (h : w.cell? ⟨mg, 1, none⟩ = some (.pointer (some ⟨og, 0, none⟩))) (hs : w.cell? ⟨mg, 2, none⟩ = some (.int .i64 st)) :
    Calls Try.prog 17 #[.pointer (some ⟨mg, 0, none⟩)] w fun e w' => e = .returned (.bool (decide (st = 0))) ∧ w = w' := by
  go_enter Try.func17, Try.ntmps17
  go_wp2_with fail
  refine (dle_ok w mg og h).mono ?_
  rintro e w' ⟨rfl, rfl⟩
  go_wp2_with fail
  go_ret
  refine ⟨?_, rfl⟩
  show Ending.returned (Value.bool _) = _
  refine ret_boolE ?_
  rcases Nat.eq_zero_or_pos st with h0 | h0
  · subst h0; rfl
  · have e : ((st : Int) == 0) = false := by simp; omega
    have e2 : decide (st = 0) = false := by simp; omega
    first | exact e.trans e2.symm | simp [e2]
theorem hist_okD (w : World) (g : Nat) (win : Int) (h : w.cell? ⟨g, 0, none⟩ = some (.int .i64 win)) (hw : 1 ≤ win) :
    Calls Try.prog 38 #[.pointer (some ⟨g, 0, none⟩)] w fun e w' => e = .returned (.bool true) ∧ Drawn w w' :=
  (hist_ok w g win h hw).mono fun _ _ ⟨he, hw⟩ => ⟨he, by rw [← hw]; exact Drawn.refl _⟩
theorem dle_okD (w : World) (mg og : Nat) (h : w.cell? ⟨mg, 1, none⟩ = some (.pointer (some ⟨og, 0, none⟩))) :
    Calls Try.prog 25 #[.pointer (some ⟨mg, 0, none⟩)] w fun e w' => e = .returned (.bool true) ∧ Drawn w w' :=
  (dle_ok w mg og h).mono fun _ _ ⟨he, hw⟩ => ⟨he, by rw [← hw]; exact Drawn.refl _⟩
set_option maxHeartbeats 1000000 in
theorem hist_full (w : World) (base g : Nat) (win most : Int) (nz : Bool) (v : Value) (bs : List Int) (h : HO w base g win most nz v bs) (b : Bool) (hb : ((bs.length : Int) == most) = b) :
    Calls Try.prog 33 #[.pointer (some ⟨g, 0, none⟩)] w fun e w' => e = .returned (.bool b) ∧ Drawn w w' := by
  have c0 : w.cell? ⟨g, 0, none⟩ = some (.int .i64 win) := h.blk.cell 0
  have c1 : w.cell? ⟨g, 1, none⟩ = some (.int .i64 most) := h.blk.cell 1
  have c3 : w.cell? ⟨g, 3, none⟩ = some v := h.blk.cell 3
  obtain ⟨A, cc, rfl, hc⟩ := own_form h.own
  have hw0 := h.win0
  subst hb
  go_enter Try.func33, Try.ntmps33
  go_wp2_with fail
  go_quiet ((go_at_call 38; first | exact quiet_drawn (hist_okD _ g win c0 hw0) | exact quiet_drawn0 (hist_okD _ g win c0 hw0)))
  go_wp2_with fail
  go_ret
  exact ⟨rfl, ⟨_, rfl⟩⟩
theorem dle_restD (w : World) (mg og : Nat) (st : Nat) (b : Bool) (h : w.cell? ⟨mg, 1, none⟩ = some (.pointer (some ⟨og, 0, none⟩))) (hs : w.cell? ⟨mg, 2, none⟩ = some (.int .i64 st)) (hb : decide (st = 0) = b) :
    Calls Try.prog 17 #[.pointer (some ⟨mg, 0, none⟩)] w fun e w' => e = .returned (.bool b) ∧ Drawn w w' := by
  subst hb
  exact (dle_rest w mg og st h hs).mono fun _ _ ⟨he, hw⟩ => ⟨he, by rw [← hw]; exact Drawn.refl _⟩
/-- Full: at rest, and no room. -/
def fullD (st n size : Nat) : Bool := decide (st = 0) && decide (n = size)
set_option maxHeartbeats 1000000 in
theorem dle_full (w : World) (base mg og : Nat) (f st v n size : Nat) (ov : Value) (bs : List Int) (h : DM w base mg og f st v n size ov bs) (b : Bool) (hb : fullD st bs.length size = b) :
    Calls Try.prog 15 #[.pointer (some ⟨mg, 0, none⟩)] w fun e w' => e = .returned (.bool b) ∧ Drawn w w' := by
  have c1 : w.cell? ⟨mg, 1, none⟩ = some (.pointer (some ⟨og, 0, none⟩)) := h.blk.cell 1
  have c2 : w.cell? ⟨mg, 2, none⟩ = some (.int .i64 st) := h.blk.cell 2
  have hO := h.out
  clear h
  by_cases h0 : st = 0
  · have hr := fun W h1 h2 => dle_restD W mg og st true h1 h2 (by simpa using h0)
    have hq : ((bs.length : Int) == (size : Int)) = b := by
      rw [← hb, fullD]
      by_cases e : bs.length = size
      · simp [h0, e]
      · have e2 : ((bs.length : Int) == (size : Int)) = false := by simp; omega
        rw [e2]
        simp [e]
    have hf := fun W h => hist_full W base og 65536 size true ov bs h b hq
    replace hb := hide hb
    replace h0 := hide h0
    replace hq := hide hq
    go_enter Try.func15, Try.ntmps15
    go_wp2_with fail
    refine (hr w c1 c2).mono ?_
    rintro e w1 ⟨rfl, hd⟩
    have c11 := (hd.cell _).trans c1
    go_wp2_with fail
    refine (hf w1 (hO.keep (hd.below _))).mono ?_
    rintro e w2 ⟨rfl, hd2⟩
    go_wp2_with fail
    go_ret
    exact ⟨rfl, hd.trans hd2⟩
  · have hb1 : b = false := by rw [← hb, fullD]; simp [h0]
    subst hb1
    have hr := fun W h1 h2 => dle_restD W mg og st false h1 h2 (by simpa using h0)
    replace h0 := hide h0
    replace hb := hide hb
    go_enter Try.func15, Try.ntmps15
    go_wp2_with fail
    refine (hr w c1 c2).mono ?_
    rintro e w1 ⟨rfl, hd⟩
    go_wp2_with fail
    go_ret
    exact ⟨rfl, hd⟩

set_option maxHeartbeats 1000000 in
theorem dle_bytes (w : World) (base mg og : Nat) (f st v n size : Nat) (ov : Value) (bs : List Int) (h : DM w base mg og f st v n size ov bs) :
    Calls Try.prog 14 #[.pointer (some ⟨mg, 0, none⟩)] w fun e w' => ∃ u, e = .returned u ∧ Below w.heap.size w w' ∧ w'.ownsRow w.heap.size 5 1 u bs.length (nums .u8 bs) := by
  have c1 : w.cell? ⟨mg, 1, none⟩ = some (.pointer (some ⟨og, 0, none⟩)) := h.blk.cell 1
  have hO := h.out
  go_enter Try.func14, Try.ntmps14
  go_wp2_with fail
  refine (dle_ok w mg og c1).mono ?_
  rintro e w1 ⟨rfl, rfl⟩
  go_wp2_with fail
  refine (hist_bytes w base og 65536 size true ov bs hO).mono ?_
  rintro e w2 ⟨u, rfl, hb2, hown2⟩
  obtain ⟨A2, c2, rfl, _⟩ := own_form hown2
  go_wp2_with fail
  go_ret
  exact ⟨_, rfl, hb2, hown2⟩
theorem dle_right (w : World) (f : Nat) (h1 : 1 ≤ f) (h4 : f ≤ 4) :
    Calls Try.prog 23 #[.int .i64 f] w fun e w' => e = .returned (.bool true) ∧ w = w' := by
  have q1 : (1 : Int) ≤ f := by omega
  have q2 : (f : Int) ≤ 4 := by omega
  go_enter Try.func23, Try.ntmps23
  go_wp2_with fail
  go_ret
  exact ⟨by simp, rfl⟩
set_option maxHeartbeats 1000000 in
theorem dle_new (w : World) (f size : Nat) (h1 : 1 ≤ f) (h4 : f ≤ 4) :
    Calls Try.prog 9 #[.int .i64 f, .int .i64 size] w fun e w' => ∃ mg og ov, e = .returned (.tuple #[.pointer (some ⟨mg, 0, none⟩), .int .i64 0]) ∧ Below w.heap.size w w' ∧ DM w' w.heap.size mg og f 0 0 0 size ov [] := by
  go_enter Try.func9, Try.ntmps9
  go_wp2_with fail
  refine (dle_right w f h1 h4).mono ?_
  rintro e w1 ⟨rfl, rfl⟩
  go_wp2_with fail
  refine (hist_new w 65536 size true (by omega) (by omega) (by omega)).mono ?_
  rintro e w2 ⟨og, ov, rfl, hb2, hO⟩
  go_wp2_with fail
  go_ret2
  refine ⟨_, og, ov, rfl, hb2.alloc hb2.size _, Blk.new w2 _ _, hO.keep ((Below.refl _ _).alloc (Nat.le_refl _) _), hb2.size, ?_, h1, h4⟩
  have := hO.blk.lt
  omega
open Go.RowKit
attribute [local go_sem ↓] Go.wp_at_zero Go.wp_at_succ

theorem HO.far {w : World} {base g : Nat} {win most : Int} {nz : Bool} {v : Value} {bs : List Int} (h : HO w base g win most nz v bs) {mg : Nat} {cs : Array Value} (hB : Blk w mg 44 cs) (hne : mg ≠ g) (i : Nat) (u : Value) : HO (w.setCell ⟨mg, i, none⟩ u) base g win most nz v bs :=
  ⟨h.blk.far (fun e => hne e.symm) u, own_set h.own (own_blk_ne h.own hB (by decide)) u, h.bas, h.bnd, h.win0, h.win1⟩
set_option maxHeartbeats 1000000 in
theorem feed_mark (w : World) (base mg og : Nat) (f v n size : Nat) (ov : Value) (bs : List Int) (h : DM w base mg og f 0 v n size ov bs) (hs : bs.length ≠ size) :
    Calls Try.prog 11 #[.pointer (some ⟨mg, 0, none⟩), .int .u8 144] w fun e w' => e = .returned (.int .i64 0) ∧ Below base w w' ∧ DM w' base mg og f 1 v n size ov bs := by
  have c1 : w.cell? ⟨mg, 1, none⟩ = some (.pointer (some ⟨og, 0, none⟩)) := h.blk.cell 1
  go_enter Try.func11, Try.ntmps11
  go_wp2_with fail
  refine (dle_ok w mg og c1).mono ?_
  rintro e w1 ⟨rfl, rfl⟩
  go_wp2_with fail
  refine (dle_full w base mg og f 0 v n size ov bs h false (by simp [fullD, hs])).mono ?_
  rintro e w2 ⟨rfl, hd⟩
  have hB : Blk w2 mg 44 #[.int .i64 f, .pointer (some ⟨og, 0, none⟩), .int .i64 0, .int .i64 v, .int .i64 n] := h.blk.drawn hd
  have c2 : w2.cell? ⟨mg, 2, none⟩ = some (.int .i64 0) := hB.cell 2
  have z2 : w2.frozen? ⟨mg, 2, none⟩ = false := hB.frozen 2
  go_wp2_with fail
  go_ret
  have hO2 := h.out.keep (hd.below _)
  have hb : Below base w w2 := hd.below _
  refine ⟨rfl, hb.setCell (show base ≤ mg from h.bas) _, hB.set_ 2 _, ?_, h.bas, h.ne, h.f1, h.f4⟩
  exact hO2.far hB h.ne 2 _
set_option maxHeartbeats 1000000 in
theorem begin_zero (w : World) (base mg og : Nat) (f v n size : Nat) (ov : Value) (bs : List Int) (h : DM w base mg og f 1 v n size ov bs) (hs : bs.length ≠ size) (hn : bs.length < 1099511627776) :
    Calls Try.prog 27 #[.pointer (some ⟨mg, 0, none⟩), .int .u8 0] w fun e w' => e = .returned (.int .i64 0) ∧ Below base w w' ∧ ∃ ov', DM w' base mg og f 0 v n size ov' (bs ++ [144]) := by
  have c1 : w.cell? ⟨mg, 1, none⟩ = some (.pointer (some ⟨og, 0, none⟩)) := h.blk.cell 1
  have hown := own_blk_ne h.out.own h.blk (by decide)
  go_enter Try.func27, Try.ntmps27
  go_wp2_with fail
  refine (hist_litC w base og 65536 size true ov bs 144 h.out (by omega) hn).mono ?_
  rintro e w2 ⟨rfl, hb2, hC2, ov2, hO2⟩
  have hB : Blk w2 mg 44 #[.int .i64 f, .pointer (some ⟨og, 0, none⟩), .int .i64 1, .int .i64 v, .int .i64 n] := hC2.blk h.blk (by
    intro hm
    rcases List.mem_cons.1 hm with e | e
    · exact h.ne e
    · exact hown (Option.mem_toList.1 e))
  have c2 : w2.cell? ⟨mg, 2, none⟩ = some (.int .i64 1) := hB.cell 2
  have z2 : w2.frozen? ⟨mg, 2, none⟩ = false := hB.frozen 2
  go_wp2_with fail
  go_ret
  exact ⟨rfl, hb2.setCell (show base ≤ mg from h.bas) _, ov2, hB.set_ 2 _, hO2.far hB h.ne 2 _, h.bas, h.ne, h.f1, h.f4⟩
set_option maxHeartbeats 1000000 in
theorem feed_zero (w : World) (base mg og : Nat) (f v n size : Nat) (ov : Value) (bs : List Int) (h : DM w base mg og f 1 v n size ov bs) (hs : bs.length ≠ size) (hn : bs.length < 1099511627776) :
    Calls Try.prog 11 #[.pointer (some ⟨mg, 0, none⟩), .int .u8 0] w fun e w' => e = .returned (.int .i64 0) ∧ Below base w w' ∧ ∃ ov', DM w' base mg og f 0 v n size ov' (bs ++ [144]) := by
  have c1 : w.cell? ⟨mg, 1, none⟩ = some (.pointer (some ⟨og, 0, none⟩)) := h.blk.cell 1
  go_enter Try.func11, Try.ntmps11
  go_wp2_with fail
  refine (dle_ok w mg og c1).mono ?_
  rintro e w1 ⟨rfl, rfl⟩
  go_wp2_with fail
  refine (dle_full w base mg og f 1 v n size ov bs h false (by simp [fullD])).mono ?_
  rintro e w2 ⟨rfl, hd⟩
  have hB : Blk w2 mg 44 #[.int .i64 f, .pointer (some ⟨og, 0, none⟩), .int .i64 1, .int .i64 v, .int .i64 n] := h.blk.drawn hd
  have c2 : w2.cell? ⟨mg, 2, none⟩ = some (.int .i64 1) := hB.cell 2
  have hO2 := h.out.keep (hd.below _)
  have hb : Below base w w2 := hd.below _
  go_wp2_with fail
  refine (begin_zero w2 base mg og f v n size ov bs ⟨hB, hO2, h.bas, h.ne, h.f1, h.f4⟩ hs hn).mono ?_
  rintro e w3 ⟨rfl, hb3, hD⟩
  go_wp2_with fail
  go_ret
  exact ⟨rfl, hb.trans hb3, hD⟩
end Go.Proofs.Ytplkdjbcdeakaaa

