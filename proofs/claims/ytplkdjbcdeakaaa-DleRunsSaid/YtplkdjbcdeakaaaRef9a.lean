/- The document's own finder: same, At. -/
import Derived.Test.YtplkdjbcdeakaaaFind5
namespace Go.Proofs.Ytplkdjbcdeakaaa
open Go.RowKit

set_option maxHeartbeats 1000000 in
theorem rsame_any (w : World) (A : Option Addr) (n c : Nat) (bs : List Int) (B : Nat) (f i : Nat) (mx : Int)
    (hb : RN .u8 w B A n bs) (hn : n ≤ 140737488351232) (hfi : f < i) (hi : i ≤ n) :
    Calls Try.prog 47 #[.slice A n c, .int .i64 f, .int .i64 i, .int .i64 mx] w fun e w' => e = .returned (.int .i64 (same bs f i mx)) ∧ Drawn w w' := by
  have hl := hb.len
  go_enter Try.func47, Try.ntmps47
  go_wp2
  go_loopw [9] (fun x wr => ∃ k : Nat, k ≤ n ∧ x = .int .i64 k ∧ Drawn w wr ∧ Hid (lenFrom bs f i mx (n - k) k = same bs f i mx)) (fun x _ => n - (intOf x).toNat)
  case atStart => exact ⟨0, by omega, rfl, Drawn.refl _, hide (by rw [Nat.sub_zero, ← hl]; rfl)⟩
  case round =>
    obtain ⟨k, hk, rfl, hd, HS⟩ := hrel
    by_cases h1 : (k : Int) < mx
    · by_cases h2 : (i : Int) + k < n
      · obtain ⟨ad, rfl, _, hc⟩ := hb.ad (by omega)
        have e1 : wr.cell? (ad.add (f + k)) = some (.int .u8 (bs.getD (f + k) 0)) := (hd.cell _).trans (hc _ (by omega))
        have e2 : wr.cell? (ad.add (i + k)) = some (.int .u8 (bs.getD (i + k) 0)) := (hd.cell _).trans (hc _ (by omega))
        clear hc
        go_wp2_with fail
        go_quiet (fail)
        go_wp2
        · have hq : (bs[f + k]?.getD 0 == bs[i + k]?.getD 0) = true := by assumption
          refine ⟨⟨k + 1, by omega, by go_num, hd.step _, hide ?_⟩, by simp [intOf]; omega⟩
          rw [← HS.out]; exact (lenFrom_go bs f i mx n k hl (by omega) h1 hq).symm
        · have hq : (bs[f + k]?.getD 0 == bs[i + k]?.getD 0) = false := by assumption
          have hst := lenFrom_stop bs f i mx (n - k) k (by intro h; simp at hq h; exact hq h.2.2)
          go_ret
          exact ⟨by rw [← HS.out, hst]; rfl, hd.step _⟩
      · have hx : decide ((i : Int) + k < n) = false := by simp; omega
        have hst := hide (lenFrom_stop bs f i mx (n - k) k (by intro h; omega))
        go_wp2_with fail
        go_quiet (fail)
        go_wp2
        go_ret
        exact ⟨by rw [← HS.out, hst.out]; rfl, hd.step _⟩
    · have hx : decide ((k : Int) < mx) = false := by simp; omega
      have hst := hide (lenFrom_stop bs f i mx (n - k) k (by intro h; omega))
      go_wp2_with fail
      go_quiet (fail)
      go_wp2
      go_ret
      exact ⟨by rw [← HS.out, hst.out]; rfl, hd.step _⟩

/-- The document's search, place by place downward from below k. -/
def refLoop (bs : List Int) (mn mx win ch : Int) (i : Nat) : Nat → Nat → Nat × Nat → Nat × Nat
  | 0, _, best => best
  | k + 1, looked, best =>
    if (i : Int) - k ≤ win ∧ (looked : Int) < ch then
      if (same bs k i mn : Int) < mn then refLoop bs mn mx win ch i k looked best
      else refLoop bs mn mx win ch i k (looked + 1) (if best.2 < same bs k i mx then (i - k, same bs k i mx) else best)
    else best
def refAt (bs : List Int) (mn mx win ch : Int) (i : Nat) : Nat × Nat := refLoop bs mn mx win ch i i 0 (0, 0)

set_option maxHeartbeats 2000000 in
theorem rat_any (w : World) (A : Option Addr) (n c : Nat) (win mn mx ch : Int) (lz : Bool) (bs : List Int) (i : Nat) (hb : RN .u8 w w.heap.size A n bs) (hn : n ≤ 140737488351232) (hi : i ≤ n) (hch : ch ≤ 4096) :
    Calls Try.prog 43 #[.slice A n c, .agg #[.int .i64 win, .int .i64 mn, .int .i64 mx, .int .i64 ch, .bool lz], .int .i64 i] w fun e w' =>
      e = .returned (.agg #[.int .u8 0, .int .i64 (refAt bs mn mx win ch i).1, .int .i64 (refAt bs mn mx win ch i).2]) ∧ Below w.heap.size w w' := by
  go_enter Try.func43, Try.ntmps43
  go_wp2_with fail
  go_loopw [8, 9] (fun v8 v9 wr => ∃ (x : Int) (lk bd bl : Nat), v9 = .int .i64 x ∧ v8 = .int .i64 lk ∧ -1 ≤ x ∧ x < i ∧ (lk : Int) ≤ 4096 ∧ Blk wr w.heap.size 65 #[.int .i64 win, .int .i64 mn, .int .i64 mx, .int .i64 ch, .bool lz] ∧
      Blk wr (w.heap.size + 1) 67 #[.int .u8 0, .int .i64 0, .int .i64 0] ∧ Blk wr (w.heap.size + 1 + 1) 67 #[.int .u8 0, .int .i64 bd, .int .i64 bl] ∧ Below w.heap.size w wr ∧ Hid (refLoop bs mn mx win ch i (x + 1).toNat lk (bd, bl) = refAt bs mn mx win ch i)) (fun _ v9 _ => (intOf v9 + 1).toNat)
  case atStart =>
    refine ⟨(i : Int) - 1, 0, 0, 0, rfl, rfl, by omega, by omega, by omega, ((Blk.new w _ _).alloc _).alloc _, ?_, ?_, ((Below.refl _ _).alloc (Nat.le_refl _) _).alloc (by simp) _ |>.alloc (by simp; omega) _, hide ?_⟩
    · have := (Blk.new (w.alloc (Obj.cells #[.int .i64 win, .int .i64 mn, .int .i64 mx, .int .i64 ch, .bool lz] 65)) 67 #[.int .u8 0, .int .i64 0, .int .i64 0]).alloc (Obj.cells #[.int .u8 0, .int .i64 0, .int .i64 0] 67)
      simpa using this
    · have := Blk.new ((w.alloc (Obj.cells #[.int .i64 win, .int .i64 mn, .int .i64 mx, .int .i64 ch, .bool lz] 65)).alloc (Obj.cells #[.int .u8 0, .int .i64 0, .int .i64 0] 67)) 67 #[.int .u8 0, .int .i64 0, .int .i64 0]
      simpa using this
    · rw [show ((i : Int) - 1 + 1).toNat = i by omega]; rfl
  case round =>
    obtain ⟨x, lk, bd, bl, rfl, rfl, hx1, hxi, hlk, hV, hR, hT, hbw, HA⟩ := hrel
    have c0 : wr.cell? ⟨w.heap.size, 0, none⟩ = some (.int .i64 win) := hV.cell 0
    have c1 : wr.cell? ⟨w.heap.size, 1, none⟩ = some (.int .i64 mn) := hV.cell 1
    have c2 : wr.cell? ⟨w.heap.size, 2, none⟩ = some (.int .i64 mx) := hV.cell 2
    have c3 : wr.cell? ⟨w.heap.size, 3, none⟩ = some (.int .i64 ch) := hV.cell 3
    have t0 : wr.cell? ⟨w.heap.size + 1 + 1, 0, none⟩ = some (.int .u8 0) := hT.cell 0
    have t1 : wr.cell? ⟨w.heap.size + 1 + 1, 1, none⟩ = some (.int .i64 bd) := hT.cell 1
    have t2 : wr.cell? ⟨w.heap.size + 1 + 1, 2, none⟩ = some (.int .i64 bl) := hT.cell 2
    have y0 : wr.frozen? ⟨w.heap.size + 1 + 1, 0, none⟩ = false := hT.frozen 0
    have y1 : wr.frozen? ⟨w.heap.size + 1 + 1, 1, none⟩ = false := hT.frozen 1
    have y2 : wr.frozen? ⟨w.heap.size + 1 + 1, 2, none⟩ = false := hT.frozen 2
    have r0 : wr.cell? ⟨w.heap.size + 1, 0, none⟩ = some (.int .u8 0) := hR.cell 0
    have r1 : wr.cell? ⟨w.heap.size + 1, 1, none⟩ = some (.int .i64 0) := hR.cell 1
    have r2 : wr.cell? ⟨w.heap.size + 1, 2, none⟩ = some (.int .i64 0) := hR.cell 2
    have z0 : wr.frozen? ⟨w.heap.size + 1, 0, none⟩ = false := hR.frozen 0
    have z1 : wr.frozen? ⟨w.heap.size + 1, 1, none⟩ = false := hR.frozen 1
    have z2 : wr.frozen? ⟨w.heap.size + 1, 2, none⟩ = false := hR.frozen 2
    by_cases hgo : 0 ≤ x ∧ (i : Int) - x ≤ win ∧ (lk : Int) < ch
    · obtain ⟨hx0, hg1, hg2⟩ := hgo
      obtain ⟨k, rfl⟩ : ∃ k : Nat, x = k := ⟨x.toNat, by omega⟩
      have hA := HA.out
      rw [show ((k : Int) + 1).toNat = k + 1 by omega, refLoop, if_pos ⟨hg1, hg2⟩] at hA
      clear HA
      by_cases h1 : (same bs k i mn : Int) < mn
      · rw [if_pos h1] at hA
        replace hA := hide hA
        have hbr := hb.below hbw
        go_wp2_with fail
        go_quiet ((go_at_call 47; first | exact quiet_drawn (rsame_any _ A n c bs w.heap.size k i _ hbr hn (by omega) hi) | exact quiet_drawn0 (rsame_any _ A n c bs w.heap.size k i _ hbr hn (by omega) hi)))
        go_wp2_with fail
        refine ⟨⟨(k : Int) - 1, lk, bd, bl, rfl, rfl, by omega, by omega, by omega, hV.drewN _, hR.drewN _, hT.drewN _, below_drewN hbw _, hide ?_⟩, by simp [intOf] <;> omega⟩
        rw [show ((k : Int) - 1 + 1).toNat = k by omega]
        exact hA.out
      · rw [if_neg h1] at hA
        have hbr := hb.below hbw
        by_cases h2 : bl < same bs k i mx
        · rw [if_pos h2] at hA
          replace hA := hide hA
          go_wp2_with fail
          go_quiet ((go_at_call 47; first | exact quiet_drawn (rsame_any _ A n c bs w.heap.size k i _ hbr hn (by omega) hi) | exact quiet_drawn0 (rsame_any _ A n c bs w.heap.size k i _ hbr hn (by omega) hi)))
          go_wp2_with fail
          refine (rsame_any (wr.drewN nq) A n c bs w.heap.size k i mx (show RN .u8 (wr.drewN nq) w.heap.size A n bs from hbr) hn (by omega) hi).mono ?_
          rintro e w3 ⟨rfl, ⟨q3, rfl⟩⟩
          generalize same bs k i mx = l at hA h2 ⊢
          go_wp2_with fail
          rw [show ((i : Int) - (k : Int)) = ((i - k : Nat) : Int) by omega]
          refine ⟨⟨(k : Int) - 1, lk + 1, i - k, l, rfl, by go_num, by omega, by omega, by omega, (((hV.drewN _).far (by simp; omega) _).far (by simp; omega) _).far (by simp; omega) _, (((hR.drewN _).far (by simp) _).far (by simp) _).far (by simp) _,
            (((hT.drewN _).set_ 0 _).set_ 1 _).set_ 2 _, (((below_drewN hbw _).setCell (by simp; omega) _).setCell (by simp; omega) _).setCell (by simp; omega) _, hide ?_⟩, by simp [intOf] <;> omega⟩
          rw [show ((k : Int) - 1 + 1).toNat = k by omega]
          exact hA.out
        · rw [if_neg h2] at hA
          replace hA := hide hA
          go_wp2_with fail
          go_quiet ((go_at_call 47; first | exact quiet_drawn (rsame_any _ A n c bs w.heap.size k i _ hbr hn (by omega) hi) | exact quiet_drawn0 (rsame_any _ A n c bs w.heap.size k i _ hbr hn (by omega) hi)))
          go_wp2_with fail
          refine (rsame_any (wr.drewN nq) A n c bs w.heap.size k i mx (show RN .u8 (wr.drewN nq) w.heap.size A n bs from hbr) hn (by omega) hi).mono ?_
          rintro e w3 ⟨rfl, ⟨q3, rfl⟩⟩
          generalize same bs k i mx = l at hA h2 ⊢
          go_wp2_with fail
          refine ⟨⟨(k : Int) - 1, lk + 1, bd, bl, rfl, by go_num, by omega, by omega, by omega, hV.drewN _, hR.drewN _, hT.drewN _, below_drewN hbw _, hide ?_⟩, by simp [intOf] <;> omega⟩
          rw [show ((k : Int) - 1 + 1).toNat = k by omega]
          exact hA.out
    · have hst : Hid (refLoop bs mn mx win ch i (x + 1).toNat lk (bd, bl) = (bd, bl)) := by
        show _ = _
        rcases hk : (x + 1).toNat with _ | k
        · rfl
        · rw [refLoop, if_neg (by omega)]
      have hB := (((hR.set_ 0 (.int .u8 0)).set_ 1 (.int .i64 bd)).set_ 2 (.int .i64 bl))
      go_wp2_with fail
      all_goals
        refine bodyPost_ret (results_cell_row Try.results43 _ _ (w.heap.size + 1) 67 _ (0, 0) _ rfl hB Try.underlying67 rfl tokSize) rfl ⟨?_, ?_⟩
        · rw [← HA.out, hst.out]; rfl
        · exact ((hbw.setCell (by simp) _).setCell (by simp) _).setCell (by simp) _
end Go.Proofs.Ytplkdjbcdeakaaa

