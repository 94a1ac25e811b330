/- A shape that is right, made of any. -/
import Derived.Test.YtamhlammhhlibaaLives9
import Derived.Deep.RegionHeld3
import Derived.Deep.RegionWith
import Derived.Deep.DeepCutAuto
import Derived.Deep.DrawnRows
namespace Go.Proofs.Ytamhlammhhlibaa
open Go.RowKit
attribute [local go_sem ↓] Go.wp_at_zero Go.wp_at_succ

theorem shapeSize : (Try.prog.info? 24).map (·.size) = some 5 := by kernel_rfl

theorem blk_set23 {w : World} {g : Nat} {t : TypeId} {a b c d e : Value} (h : Blk w g t #[a, b, c, d, e]) (x y : Value) : Blk ((w.setCell ⟨g, 2, none⟩ x).setCell ⟨g, 3, none⟩ y).drew g t #[a, b, x, y, e] := (h.set_ 2 x).set_ 3 y
theorem blk_far23 {w : World} {g g' : Nat} {t : TypeId} {cs : Array Value} (h : Blk w g' t cs) (hne : g' ≠ g) (x y : Value) : Blk ((w.setCell ⟨g, 2, none⟩ x).setCell ⟨g, 3, none⟩ y).drew g' t cs := (h.far hne x).far hne y
theorem below_set23 {w w' : World} {g : Nat} (h : Below g w w') (x y : Value) : Below g w ((w'.setCell ⟨g, 2, none⟩ x).setCell ⟨g, 3, none⟩ y).drew := ((h.setCell (Nat.le_refl _) _).setCell (Nat.le_refl _) _).drew
theorem below_set5 {w w' : World} {B g : Nat} (h : Below B w w') (hg : B ≤ g) (x0 x1 x2 x3 x4 : Value) :
    Below B w (((((w'.setCell ⟨g, 0, none⟩ x0).setCell ⟨g, 1, none⟩ x1).setCell ⟨g, 2, none⟩ x2).setCell ⟨g, 3, none⟩ x3).setCell ⟨g, 4, none⟩ x4) := ((((h.setCell hg _).setCell hg _).setCell hg _).setCell hg _).setCell hg _
theorem blk_set5 {w : World} {g : Nat} {t : TypeId} {a b c d e : Value} (h : Blk w g t #[a, b, c, d, e]) (x0 x1 x2 x3 x4 : Value) :
    Blk (((((w.setCell ⟨g, 0, none⟩ x0).setCell ⟨g, 1, none⟩ x1).setCell ⟨g, 2, none⟩ x2).setCell ⟨g, 3, none⟩ x3).setCell ⟨g, 4, none⟩ x4) g t #[x0, x1, x2, x3, x4] := ((((h.set_ 0 x0).set_ 1 x1).set_ 2 x2).set_ 3 x3).set_ 4 x4

def sWin (x : Int) : Int := clampI x 1 65536
def sMin (x : Int) : Int := clampI x 2 3
def sMax (x lo : Int) : Int := clampI x lo 65538
def sCh (x : Int) : Int := clampI x 0 4096
theorem wWin (w : World) (x : Int) : Calls Try.prog 17 #[.int .i64 x, .int .i64 1, .int .i64 65536] w fun e w' => e = .returned (.int .i64 (sWin x)) ∧ w = w' := within_any w x 1 65536
theorem wMin (w : World) (x : Int) : Calls Try.prog 17 #[.int .i64 x, .int .i64 2, .int .i64 3] w fun e w' => e = .returned (.int .i64 (sMin x)) ∧ w = w' := within_any w x 2 3
theorem wMax (w : World) (x lo : Int) : Calls Try.prog 17 #[.int .i64 x, .int .i64 lo, .int .i64 65538] w fun e w' => e = .returned (.int .i64 (sMax x lo)) ∧ w = w' := within_any w x lo 65538
theorem wCh (w : World) (x : Int) : Calls Try.prog 17 #[.int .i64 x, .int .i64 0, .int .i64 4096] w fun e w' => e = .returned (.int .i64 (sCh x)) ∧ w = w' := within_any w x 0 4096
theorem within_ok (win mn mx ch : Int) : shapeOk (sWin win) (sMin mn) (sMax mx (sMin mn)) (sCh ch) = true := by
  have h1 := clampI_bd (x := win) (lo := 1) (hi := 65536) (by omega)
  have h2 := clampI_bd (x := mn) (lo := 2) (hi := 3) (by omega)
  have h3 := clampI_bd (x := mx) (lo := sMin mn) (hi := 65538) (by unfold sMin; omega)
  have h4 := clampI_bd (x := ch) (lo := 0) (hi := 4096) (by omega)
  simp only [shapeOk, decide_eq_true_eq]
  exact ⟨h1.1, h1.2, h2.1, h2.2, h3.1, h3.2, h4.1, h4.2⟩

set_option maxHeartbeats 4000000 in
theorem withinS_any (w : World) (win mn mx ch : Int) (lz : Bool) :
    Calls Try.prog 16 #[.agg #[.int .i64 win, .int .i64 mn, .int .i64 mx, .int .i64 ch, .bool lz]] w fun e w' =>
      e = .returned (.agg #[.int .i64 (sWin win), .int .i64 (sMin mn), .int .i64 (sMax mx (sMin mn)), .int .i64 (sCh ch), .bool lz]) ∧ Below w.heap.size w w' := by
  go_enter Try.func16, Try.ntmps16
  go_upto_region 1 with fail
  go_cut [3] (fun _ wx => wx = ((w.alloc (Obj.cells #[.int .i64 (sWin win), .int .i64 (sMin mn), .int .i64 mx, .int .i64 ch, .bool lz] 24)).alloc (Obj.cells #[.int .i64 0, .int .i64 0, .int .i64 0, .int .i64 0, .bool false] 24)).drew)
  case first =>
    go_region_with ((go_at_call 17; (first | (with_reducible refine (wWin _ _).mono ?_) | (with_reducible refine (wMin _ _).mono ?_) | (with_reducible refine (wMax _ _ _).mono ?_) | (with_reducible refine (wCh _ _).mono ?_)); rintro e w' ⟨rfl, rfl⟩))
    all_goals (go_wp2_with fail; go_meet; exact rfl)
  case rest =>
    have HW := hide hcut
    have hb0 : Below w.heap.size w wc := by rw [HW.out]; exact (((Below.refl _ _).alloc (Nat.le_refl _) _).alloc (by simp) _).drew
    have hV : Blk wc w.heap.size 24 #[.int .i64 (sWin win), .int .i64 (sMin mn), .int .i64 mx, .int .i64 ch, .bool lz] := by rw [HW.out]; exact (Blk.new w _ _).alloc _
    have hR : Blk wc (w.heap.size + 1) 24 #[.int .i64 0, .int .i64 0, .int .i64 0, .int .i64 0, .bool false] := by
      rw [HW.out]
      have := Blk.new (w.alloc (Obj.cells #[.int .i64 (sWin win), .int .i64 (sMin mn), .int .i64 mx, .int .i64 ch, .bool lz] 24)) 24 #[.int .i64 0, .int .i64 0, .int .i64 0, .int .i64 0, .bool false]
      rw [show (w.alloc (Obj.cells #[.int .i64 (sWin win), .int .i64 (sMin mn), .int .i64 mx, .int .i64 ch, .bool lz] 24)).heap.size = w.heap.size + 1 by simp] at this
      exact this
    clear hcut HW
    have c1 : wc.cell? ⟨w.heap.size, 1, none⟩ = some (.int .i64 (sMin mn)) := hV.cell 1
    have c2 : wc.cell? ⟨w.heap.size, 2, none⟩ = some (.int .i64 mx) := hV.cell 2
    have c3 : wc.cell? ⟨w.heap.size, 3, none⟩ = some (.int .i64 ch) := hV.cell 3
    have z2 : wc.frozen? ⟨w.heap.size, 2, none⟩ = false := hV.frozen 2
    have z3 : wc.frozen? ⟨w.heap.size, 3, none⟩ = false := hV.frozen 3
    go_upto_region 2 with fail
    go_cut [11] (fun _ wx => wx = ((wc.setCell ⟨w.heap.size, 2, none⟩ (.int .i64 (sMax mx (sMin mn)))).setCell ⟨w.heap.size, 3, none⟩ (.int .i64 (sCh ch))).drew)
    case first =>
      go_region_with ((go_at_call 17; (first | (with_reducible refine (wWin _ _).mono ?_) | (with_reducible refine (wMin _ _).mono ?_) | (with_reducible refine (wMax _ _ _).mono ?_) | (with_reducible refine (wCh _ _).mono ?_)); rintro e w' ⟨rfl, rfl⟩))
      all_goals (go_wp2_with fail; go_meet; exact rfl)
    case rest =>
      have HW := hide hcut
      have hV2 : Blk wc w.heap.size 24 #[.int .i64 (sWin win), .int .i64 (sMin mn), .int .i64 (sMax mx (sMin mn)), .int .i64 (sCh ch), .bool lz] := by rw [HW.out]; exact blk_set23 hV _ _
      have hR2 : Blk wc (w.heap.size + 1) 24 #[.int .i64 0, .int .i64 0, .int .i64 0, .int .i64 0, .bool false] := by rw [HW.out]; exact blk_far23 hR (by simp) _ _
      have hb2 : Below w.heap.size w wc := by rw [HW.out]; exact below_set23 hb0 _ _
      clear hcut HW hV hR hb0 c1 c2 c3 z2 z3
      have c0 : wc.cell? ⟨w.heap.size, 0, none⟩ = some (.int .i64 (sWin win)) := hV2.cell 0
      have c1 : wc.cell? ⟨w.heap.size, 1, none⟩ = some (.int .i64 (sMin mn)) := hV2.cell 1
      have c2 : wc.cell? ⟨w.heap.size, 2, none⟩ = some (.int .i64 (sMax mx (sMin mn))) := hV2.cell 2
      have c3 : wc.cell? ⟨w.heap.size, 3, none⟩ = some (.int .i64 (sCh ch)) := hV2.cell 3
      have c4 : wc.cell? ⟨w.heap.size, 4, none⟩ = some (.bool lz) := hV2.cell 4
      have r0 : wc.cell? ⟨w.heap.size + 1, 0, none⟩ = some (.int .i64 0) := hR2.cell 0
      have r1 : wc.cell? ⟨w.heap.size + 1, 1, none⟩ = some (.int .i64 0) := hR2.cell 1
      have r2 : wc.cell? ⟨w.heap.size + 1, 2, none⟩ = some (.int .i64 0) := hR2.cell 2
      have r3 : wc.cell? ⟨w.heap.size + 1, 3, none⟩ = some (.int .i64 0) := hR2.cell 3
      have r4 : wc.cell? ⟨w.heap.size + 1, 4, none⟩ = some (.bool false) := hR2.cell 4
      have z0 : wc.frozen? ⟨w.heap.size + 1, 0, none⟩ = false := hR2.frozen 0
      have z1 : wc.frozen? ⟨w.heap.size + 1, 1, none⟩ = false := hR2.frozen 1
      have z2 : wc.frozen? ⟨w.heap.size + 1, 2, none⟩ = false := hR2.frozen 2
      have z3 : wc.frozen? ⟨w.heap.size + 1, 3, none⟩ = false := hR2.frozen 3
      have z4 : wc.frozen? ⟨w.heap.size + 1, 4, none⟩ = false := hR2.frozen 4
      go_wp2_with fail
      have hB := blk_set5 hR2 (.int .i64 (sWin win)) (.int .i64 (sMin mn)) (.int .i64 (sMax mx (sMin mn))) (.int .i64 (sCh ch)) (.bool lz)
      refine bodyPost_ret (results_cell_row Try.results16 _ _ (w.heap.size + 1) 24 _ (0, 0) _ rfl hB Try.underlying24 rfl shapeSize) rfl ⟨rfl, ?_⟩
      exact below_set5 hb2 (by simp) _ _ _ _ _
end Go.Proofs.Ytamhlammhhlibaa
