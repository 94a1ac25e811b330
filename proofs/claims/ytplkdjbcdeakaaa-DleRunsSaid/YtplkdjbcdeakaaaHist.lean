/- hist.Out, walked: New, Lit, Copy, Bytes. -/
import Derived.Test.YtplkdjbcdeakaaaAppend
import Derived.Test.YtplkdjbcdeakaaaR01
import Derived.Deep.DeepCutAuto
import Derived.Deep.DrawnRows
import Derived.Deep.RegionHeld3
import Derived.Deep.RegionWith
namespace Go.Proofs.Ytplkdjbcdeakaaa
open Go.RowKit
attribute [local go_sem ↓] Go.wp_at_zero Go.wp_at_succ

/-- What an output holds: its block, and its bytes in a row of its own. -/
structure HO (w : World) (base g : Nat) (win most : Int) (nz : Bool) (v : Value) (bs : List Int) : Prop where
  blk : Blk w g 72 #[.int .i64 win, .int .i64 most, .bool nz, v]
  own : w.ownsRow base 5 1 v bs.length (nums .u8 bs)
  bas : base ≤ g
  bnd : bs.length ≤ 1099511627776
  win0 : 1 ≤ win
  win1 : win ≤ 65536
theorem own_below {w w' : World} {base n : Nat} {e : TypeId} {size : Nat} {v : Value} {xs : List Value} (h : w.ownsRow base e size v n xs) (hb : Below w.heap.size w w') : w'.ownsRow base e size v n xs :=
  (Chg.of_below hb []).own h (fun _ _ h => by cases h)
theorem hbase {w : World} {base n : Nat} {e : TypeId} {size : Nat} {v : Value} {xs : List Value} (h : w.ownsRow base e size v n xs) (k : Nat) (hk : v.ownBlock = some k) : base ≤ k := by
  rcases h.2 with ⟨rfl, rfl⟩ | ⟨g, cap, cur, rfl, hb, _⟩
  · cases hk
  · have e : g = k := by simpa [Value.ownBlock] using hk
    omega
theorem HO.keep {w w' : World} {base g : Nat} {win most : Int} {nz : Bool} {v : Value} {bs : List Int} (h : HO w base g win most nz v bs) (hb : Below w.heap.size w w') : HO w' base g win most nz v bs :=
  ⟨h.blk.below hb h.blk.lt, own_below h.own hb, h.bas, h.bnd, h.win0, h.win1⟩
theorem HO.ne {w : World} {base g : Nat} {win most : Int} {nz : Bool} {v : Value} {bs : List Int} (h : HO w base g win most nz v bs) : v.ownBlock ≠ some g :=
  own_blk_ne h.own h.blk (by decide)
theorem hist_ok (w : World) (g : Nat) (win : Int) (h : w.cell? ⟨g, 0, none⟩ = some (.int .i64 win)) (hw : 1 ≤ win) :
    Calls Try.prog 38 #[.pointer (some ⟨g, 0, none⟩)] w fun e w' => e = .returned (.bool true) ∧ w = w' := by
  have q0 : decide (0 < win) = true := by simp; omega
  go_enter Try.func38, Try.ntmps38
  go_wp2_with fail
  go_ret
  exact ⟨rfl, rfl⟩

theorem own_set {w : World} {base n : Nat} {e : TypeId} {size : Nat} {v : Value} {xs : List Value} (h : w.ownsRow base e size v n xs) {p : Addr} (hp : v.ownBlock ≠ some p.block) (u : Value) : (w.setCell p u).ownsRow base e size v n xs :=
  Chg.own (S := [p.block]) ((Chg.refl _ _).setCell (.inl (by simp)) u) h (fun k hk hm => hp (by rw [hk, List.mem_singleton.1 hm]))
/-- The bytes that a copy adds. -/
def tells : Nat → Nat → List Int → List Int
  | 0, _, bs => bs
  | n + 1, d, bs => tells n d (bs ++ [if bs.length < d then 0 else bs.getD (bs.length - d) 0])
theorem tells_len (n d : Nat) : ∀ bs, (tells n d bs).length = bs.length + n := by
  induction n with
  | zero => intro bs; rfl
  | succ n ih => intro bs; rw [tells, ih]; simp; omega
theorem tells_add (a b d : Nat) : ∀ bs, tells (a + b) d bs = tells b d (tells a d bs) := by
  induction a with
  | zero => intro bs; simp [tells]
  | succ a ih => intro bs; rw [Nat.add_right_comm, tells, tells, ih]
theorem tells_nought (n d : Nat) (bs : List Int) (h : bs.length < d) : tells (n + 1) d bs = tells n d (bs ++ [0]) := by rw [tells, if_pos h]
theorem tells_piece (k d : Nat) : ∀ bs : List Int, d ≤ bs.length → 1 ≤ d → k ≤ d → tells k d bs = bs ++ (bs.drop (bs.length - d)).take k := by
  induction k with
  | zero => intro bs _ _ _; simp [tells]
  | succ k ih =>
    intro bs h1 h2 h3
    rw [tells_add k 1, ih bs h1 h2 (by omega), tells, tells, List.append_assoc]
    congr 1
    have e : (bs ++ List.take k (List.drop (bs.length - d) bs)).length = bs.length + k := by simp; omega
    rw [e, if_neg (by omega), List.take_add_one]
    congr 1
    have hlt : bs.length - d + k < bs.length := by omega
    rw [List.getElem?_drop, List.getElem?_eq_getElem hlt, List.getD_eq_getElem?_getD, List.getElem?_append_left (by omega), show bs.length + k - d = bs.length - d + k by omega, List.getElem?_eq_getElem hlt]
    rfl

set_option maxHeartbeats 1000000 in
theorem hist_litC (w : World) (base g : Nat) (win most : Int) (nz : Bool) (v : Value) (bs : List Int) (c : Int) (h : HO w base g win most nz v bs) (hr : (bs.length : Int) ≠ most) (hn : bs.length < 1099511627776) :
    Calls Try.prog 26 #[.pointer (some ⟨g, 0, none⟩), .int .u8 c] w fun e w' => e = .returned (.int .i64 0) ∧ Below base w w' ∧ Chg (g :: v.ownBlock.toList) w w' ∧ ∃ v', HO w' base g win most nz v' (bs ++ [c]) := by
  obtain ⟨i0, hi0, hz0, hz1, hz2⟩ := info_parts byteInfo
  have c0 : w.cell? ⟨g, 0, none⟩ = some (.int .i64 win) := h.blk.cell 0
  have c1 : w.cell? ⟨g, 1, none⟩ = some (.int .i64 most) := h.blk.cell 1
  have c3 : w.cell? ⟨g, 3, none⟩ = some v := h.blk.cell 3
  have z3 : w.frozen? ⟨g, 3, none⟩ = false := h.blk.frozen 3
  obtain ⟨A, cc, rfl, hc⟩ := own_form h.own
  have q0 : decide (0 < win) = true := by simp; have := h.win0; omega
  have q1 : ((bs.length : Int) == most) = false := by simpa using hr
  go_enter Try.func26, Try.ntmps26
  go_wp2_with fail
  refine (hist_ok w g win c0 h.win0).mono ?_
  rintro e w' ⟨rfl, rfl⟩
  go_upto_region 3 with fail
  go_quiet (fail)
  have hB := h.blk.drewN nq
  have hO : (w.drewN nq).ownsRow base 5 1 (.slice A bs.length cc) bs.length (nums .u8 bs) := h.own
  have hw0 : Below base w (w.drewN nq) := below_drewN (Below.refl _ _) nq
  have hC0 : Chg (g :: (Value.slice A bs.length cc).ownBlock.toList) w (w.drewN nq) := (Chg.refl _ _).drewN nq
  have hbas := h.bas
  have hgs : g < (w.drewN nq).heap.size := h.blk.lt
  have hne := h.ne
  generalize w.drewN nq = W at hB hO hw0 hC0 hgs ⊢
  clear c0 c1 c3 z3
  have c3 : W.cell? ⟨g, 3, none⟩ = some (.slice A bs.length cc) := hB.cell 3
  have z3 : W.frozen? ⟨g, 3, none⟩ = false := hB.frozen 3
  have hO4 := hO.alloc (Obj.cells #[Value.int .u8 c] 5)
  have hB4 := hB.alloc (Obj.cells #[Value.int .u8 c] 5)
  have hw4 := hw0.alloc (by omega : base ≤ W.heap.size) (Obj.cells #[Value.int .u8 c] 5)
  go_wp2_with (at_builtin; refine wpList_append_any _ rfl (.tmp 24) (.tmp 26) _ rfl base 5 i0 _ 1 1 Try.underlying22 hi0 hz0 hz1 hz2 rfl (by omega) _ bs.length (nums .u8 bs) rfl hO4 (W.heap.size + 1) (some ⟨W.heap.size, 0, none⟩) 1 1 _ rfl (reads_new W _ _ 1 1 rfl) (by simp [Value.oneCell']) (by simp only [maxLen]; omega) (by omega) (by simp; omega) ?_; intro v5 w5 hown5 hg5 hat5; obtain ⟨A5, cc5, rfl, hc5⟩ := own_form hown5; have hB5 := hB4.grown hg5 (fun e => hne e.symm); have c35 : w5.cell? ⟨g, 3, none⟩ = some (.slice A bs.length cc) := hB5.cell 3; have z35 : w5.frozen? ⟨g, 3, none⟩ = false := hB5.frozen 3; clear c3 z3)
  go_ret
  refine ⟨rfl, (hw4.grown hg5 (by simp; omega) (fun k hk => hbase hO4 k hk)).setCell (show base ≤ g from hbas) _, ((hC0.alloc _).grown hg5 (fun k hk => .inl (by have hk : (Value.slice A bs.length cc).ownBlock = some k := hk; rw [hk]; simp))).setCell (.inl (by simp)) _, _, hB5.set_ 3 _, ?_, hbas, by simp; omega, h.win0, h.win1⟩
  have hn5 : (Value.slice A5 (bs.length + 1) cc5).ownBlock ≠ some g := by
    rcases hat5 with e | e <;> rw [e]
    · exact hne
    · simp; omega
  have hown6 := own_set (p := ⟨g, 3, none⟩) hown5 hn5 (.slice A5 (bs.length + 1) cc5)
  rw [List.length_append, nums_append]
  exact hown6
theorem hist_lit (w : World) (base g : Nat) (win most : Int) (nz : Bool) (v : Value) (bs : List Int) (c : Int) (h : HO w base g win most nz v bs) (hr : (bs.length : Int) ≠ most) (hn : bs.length < 1099511627776) :
    Calls Try.prog 26 #[.pointer (some ⟨g, 0, none⟩), .int .u8 c] w fun e w' => e = .returned (.int .i64 0) ∧ Below base w w' ∧ ∃ v', HO w' base g win most nz v' (bs ++ [c]) :=
  (hist_litC w base g win most nz v bs c h hr hn).mono fun _ _ ⟨h1, h2, _, h3⟩ => ⟨h1, h2, h3⟩
set_option maxHeartbeats 1000000 in
theorem hist_lit_full (w : World) (base g : Nat) (win most : Int) (nz : Bool) (v : Value) (bs : List Int) (c : Int) (h : HO w base g win most nz v bs) (hr : (bs.length : Int) = most) :
    Calls Try.prog 26 #[.pointer (some ⟨g, 0, none⟩), .int .u8 c] w fun e w' => e = .returned (.int .i64 9) ∧ Drawn w w' := by
  have c0 : w.cell? ⟨g, 0, none⟩ = some (.int .i64 win) := h.blk.cell 0
  have c1 : w.cell? ⟨g, 1, none⟩ = some (.int .i64 most) := h.blk.cell 1
  have c3 : w.cell? ⟨g, 3, none⟩ = some v := h.blk.cell 3
  obtain ⟨A, cc, rfl, hc⟩ := own_form h.own
  have q1 : ((bs.length : Int) == most) = true := by simpa using hr
  go_enter Try.func26, Try.ntmps26
  go_wp2_with fail
  refine (hist_ok w g win c0 h.win0).mono ?_
  rintro e w' ⟨rfl, rfl⟩
  go_upto_region 3 with fail
  go_quiet (fail)
  go_wp2_with fail
  go_ret
  exact ⟨rfl, ⟨_, rfl⟩⟩
end Go.Proofs.Ytplkdjbcdeakaaa

