/- What the finder finds at a place. -/
import Derived.Test.YtplkdjbcdeakaaaFind3
namespace Go.Proofs.Ytplkdjbcdeakaaa
open Go.RowKit

/-- The search through a chain. -/
def atLoop (bs : List Int) (mn mx win ch : Int) (i : Nat) : Nat → Nat → Nat → Nat × Nat → Nat × Nat
  | 0, _, _, best => best
  | f + 1, frm, cnt, best =>
    if (cnt : Int) < ch ∧ 0 < frm ∧ (i : Int) - ((frm : Int) - 1) ≤ win then
      if (if best.2 < same bs (frm - 1) i mx then (i - (frm - 1), same bs (frm - 1) i mx) else best).2 = mx
      then (if best.2 < same bs (frm - 1) i mx then (i - (frm - 1), same bs (frm - 1) i mx) else best)
      else atLoop bs mn mx win ch i f (prevF bs mn i (frm - 1)) (cnt + 1) (if best.2 < same bs (frm - 1) i mx then (i - (frm - 1), same bs (frm - 1) i mx) else best)
    else best
def atSpec (bs : List Int) (mn mx win ch : Int) (i : Nat) : Nat × Nat :=
  if (i : Int) + mn ≤ bs.length then atLoop bs mn mx win ch i (i + 1) (lastK bs mn (keyAt bs mn i) i) 0 (0, 0) else (0, 0)

theorem prevF_le (bs : List Int) (mn : Int) (p k : Nat) : prevF bs mn p k ≤ k := by
  unfold prevF
  split
  · exact lastK_le _ _ _ _
  · omega
theorem lenFrom_le (bs : List Int) (f i : Nat) (mx : Int) (m k : Nat) (hk : k ≤ bs.length) : lenFrom bs f i mx m k ≤ bs.length := by
  induction m generalizing k with
  | zero => exact hk
  | succ m ih =>
    rw [lenFrom]
    split
    · rename_i h
      exact ih (k + 1) (by omega)
    · exact hk
theorem same_le (bs : List Int) (f i : Nat) (mx : Int) : same bs f i mx ≤ bs.length := lenFrom_le _ _ _ _ _ _ (Nat.zero_le _)

theorem atLoop_stop (bs : List Int) (mn mx win ch : Int) (i f frm cnt : Nat) (best : Nat × Nat) (h : ¬ ((cnt : Int) < ch ∧ 0 < frm ∧ (i : Int) - ((frm : Int) - 1) ≤ win)) : atLoop bs mn mx win ch i f frm cnt best = best := by
  cases f with
  | zero => rfl
  | succ f => rw [atLoop, if_neg h]

theorem FSt.below {d : Fd} {w w' : World} {k : Nat} (h : FSt d w k) (hb : Below w.heap.size w w') (hml : d.mb < w.heap.size) : FSt d w' k := by
  obtain ⟨hblk, ⟨m, hm, hmap⟩, hprev⟩ := h
  exact ⟨hblk.below hb hblk.lt, ⟨m, hm, hmap.below hb hml⟩, hprev.below hb hprev.lt⟩
theorem FSt.far {d : Fd} {w : World} {k : Nat} (h : FSt d w k) {a : Addr} (hf : d.fb ≠ a.block) (hm : d.mb ≠ a.block) (hp : d.pb ≠ a.block) (u : Value) : FSt d (w.setCell a u) k := by
  obtain ⟨hblk, ⟨m, hm', hmap⟩, hprev⟩ := h
  exact ⟨hblk.far hf u, ⟨m, hm', hmap.set_ hm u⟩, hprev.far hp u⟩
theorem FSt.drawn {d : Fd} {w w' : World} {k : Nat} (h : FSt d w k) (hd : Drawn w w') : FSt d w' k := by
  obtain ⟨q, rfl⟩ := hd
  exact ⟨h.blk, h.map, h.prev⟩

theorem tokSize : (Try.prog.info? 67).map (·.size) = some 3 := by kernel_rfl

theorem nums_cell (k : IntKind) (xs : List Int) {j : Nat} (h : j < xs.length) : (nums k xs).toArray[j]? = some (.int k (xs.getD j 0)) := by
  simp [nums, List.getElem?_eq_getElem h, List.getD_eq_getElem?_getD]

theorem at_close {d : Fd} {w wr : World} {i : Nat} (hS : FSt d wr i) (hC : Chg [d.fb, d.mb, d.pb] w wr) (hf : d.fb < w.heap.size) (hm : d.mb < w.heap.size) (hp : d.pb < w.heap.size) (x y z : Value) :
    FSt d (((wr.setCell ⟨w.heap.size, 0, none⟩ x).setCell ⟨w.heap.size, 1, none⟩ y).setCell ⟨w.heap.size, 2, none⟩ z) i ∧ Chg [d.fb, d.mb, d.pb] w (((wr.setCell ⟨w.heap.size, 0, none⟩ x).setCell ⟨w.heap.size, 1, none⟩ y).setCell ⟨w.heap.size, 2, none⟩ z) :=
  ⟨((hS.far (by simp; omega) (by simp; omega) (by simp; omega) _).far (by simp; omega) (by simp; omega) (by simp; omega) _).far (by simp; omega) (by simp; omega) (by simp; omega) _,
   ((hC.setCell (.inr (Nat.le_refl _)) _).setCell (.inr (Nat.le_refl _)) _).setCell (.inr (Nat.le_refl _)) _⟩

set_option maxHeartbeats 2000000 in
theorem at_any (d : Fd) (w : World) (B p i : Nat) (hS : FSt d w p) (hO : FOk d w B) (hpi : p ≤ i) (hi : i ≤ d.n) (hch : d.ch ≤ 4096) :
    Calls Try.prog 41 #[.pointer (some ⟨d.fb, 0, none⟩), .int .i64 i] w fun e w' => e = .returned (.agg #[.int .u8 0, .int .i64 (atSpec d.bs d.mn d.mx d.win d.ch i).1, .int .i64 (atSpec d.bs d.mn d.mx d.win d.ch i).2]) ∧ FSt d w' i ∧ Chg [d.fb, d.mb, d.pb] w w' := by
  obtain ⟨fb, mb, pb, win, mn, mx, ch, lz, A, n, c, bs⟩ := d
  have hlen := hO.len
  have hbl := hO.text.len
  simp only at hlen hi hch hbl ⊢
  have hS0 := (hS.alloc (Obj.cells #[Value.int IntKind.u8 0, Value.int IntKind.i64 0, Value.int IntKind.i64 0] 67)).alloc (Obj.cells #[Value.int IntKind.u8 0, Value.int IntKind.i64 0, Value.int IntKind.i64 0] 67)
  have hC0 := ((Chg.refl [fb, mb, pb] w).alloc (Obj.cells #[Value.int IntKind.u8 0, Value.int IntKind.i64 0, Value.int IntKind.i64 0] 67)).alloc (Obj.cells #[Value.int IntKind.u8 0, Value.int IntKind.i64 0, Value.int IntKind.i64 0] 67)
  have hR0 := (Blk.new w 67 #[Value.int IntKind.u8 0, Value.int IntKind.i64 0, Value.int IntKind.i64 0]).alloc (Obj.cells #[Value.int IntKind.u8 0, Value.int IntKind.i64 0, Value.int IntKind.i64 0] 67)
  have hT0 := Blk.new (w.alloc (Obj.cells #[Value.int IntKind.u8 0, Value.int IntKind.i64 0, Value.int IntKind.i64 0] 67)) 67 #[Value.int IntKind.u8 0, Value.int IntKind.i64 0, Value.int IntKind.i64 0]
  rw [show (w.alloc (Obj.cells #[Value.int IntKind.u8 0, Value.int IntKind.i64 0, Value.int IntKind.i64 0] 67)).heap.size = w.heap.size + 1 by simp] at hT0
  go_enter Try.func41, Try.ntmps41
  go_wp2_with fail
  refine (enter_any ⟨fb, mb, pb, win, mn, mx, ch, lz, A, n, c, bs⟩ _ B p i hS0 (hO.keep hC0) hpi hi).mono ?_
  rintro e w1 ⟨rfl, hS1, hC1⟩
  have hf := hO.fl; have hm := hO.ml; have hp := hO.pl
  simp only at hf hm hp hC1
  have hR1 := hC1.blk hR0 (by simp; omega)
  have hT1 := hC1.blk hT0 (by simp; omega)
  replace hC1 := hC0.trans hC1
  have hO1 := hO.keep hC1
  clear hS hS0 hC0 hR0 hT0
  go_wp2_with fail
  by_cases hv : (i : Int) + mn ≤ n
  · refine (key_yes' w1 fb win mn mx ch lz A n c mb _ n n i bs B i hS1.blk hO1.text hO1.cap hlen hO1.min hv).mono ?_
    rintro e w2 ⟨x0, x1, x2, hx, rfl, hb2⟩
    go_wp2_with fail
    have hkb : Bt3 [x0, x1, x2] := hx ▸ keyAt_bt hO.bytes mn i
    generalize hW : w2.alloc (Obj.cells #[Value.int IntKind.u8 x0, Value.int IntKind.u8 x1, Value.int IntKind.u8 x2] 84) = W
    have hbW : Below w1.heap.size w1 W := by rw [← hW]; exact hb2.alloc hb2.size _
    have hK : Blk W w2.heap.size 84 #[.int .u8 x0, .int .u8 x1, .int .u8 x2] := by rw [← hW]; exact Blk.new _ _ _
    have hSW : FSt ⟨fb, mb, pb, win, mn, mx, ch, lz, A, n, c, bs⟩ W i := hS1.below hbW hO1.ml
    have hR2 := hR1.below hbW hR1.lt
    have hT2 := hT1.below hbW hT1.lt
    have hC2 := hC1.then_below hbW
    have hO2 := hO.keep hC2
    clear hW hb2 hbW hR1 hT1 hC1 hO1 hS1
    have c6 : W.cell? ⟨fb, 6, none⟩ = some (.map (some mb)) := hSW.blk.cell 6
    have k0 : W.cell? ⟨w2.heap.size, 0, none⟩ = some (.int .u8 x0) := hK.cell 0
    have k1 : W.cell? ⟨w2.heap.size, 1, none⟩ = some (.int .u8 x1) := hK.cell 1
    have k2 : W.cell? ⟨w2.heap.size, 2, none⟩ = some (.int .u8 x2) := hK.cell 2
    have hrun : ∀ q, (Instr.lookup 75 (.map (some mb)) (.agg #[.int .u8 x0, .int .u8 x1, .int .u8 x2]) false).run Try.prog (W.drewN q) = .ok (.int .i64 (lastK bs mn [x0, x1, x2] i : Nat)) (W.drewN q) := by
      intro q
      obtain ⟨m, _, hmap⟩ := hSW.map
      exact (show MapFn (W.drewN q) mb m _ from hmap).look hkb
    go_quiet (fail)
    clear hrun k0 k1 k2 c6
    go_wp2_with fail
    have hans : Hid (atLoop bs mn mx win ch i (i + 1) (lastK bs mn [x0, x1, x2] i) 0 (0, 0) = atSpec bs mn mx win ch i) := by
      have hx := hx.out
      show _ = _
      rw [atSpec, if_pos (by omega), hx]
    have hf0 := lastK_le bs mn [x0, x1, x2] i
    replace hSW := hSW.drawn ⟨⟨nq, rfl⟩⟩
    replace hR2 := hR2.drewN nq
    replace hT2 := hT2.drewN nq
    replace hC2 := hC2.drewN nq
    generalize W.drewN nq = Wq at hSW hR2 hT2 hC2 ⊢
    generalize lastK bs mn [x0, x1, x2] i = f0 at hans hf0 ⊢
    clear hK hO2 W hx hkb
    go_loopw [8, 9] (fun frm cnt wr => ∃ f k g bd bl : Nat, frm = .int .i64 f ∧ cnt = .int .i64 k ∧ f ≤ i ∧ f < g ∧ (k : Int) ≤ 4096 ∧ FSt ⟨fb, mb, pb, win, mn, mx, ch, lz, A, n, c, bs⟩ wr i ∧ Blk wr w.heap.size 67 #[.int .u8 0, .int .i64 0, .int .i64 0] ∧
        Blk wr (w.heap.size + 1) 67 #[.int .u8 0, .int .i64 bd, .int .i64 bl] ∧ Chg [fb, mb, pb] w wr ∧ Hid (atLoop bs mn mx win ch i g f k (bd, bl) = atSpec bs mn mx win ch i)) (fun frm _ _ => (intOf frm).toNat)
    case atStart => exact ⟨f0, 0, i + 1, 0, 0, rfl, rfl, hf0, by omega, by omega, hSW, hR2, hT2, hC2, hans⟩
    case round =>
      obtain ⟨f, k, g, bd, bl, rfl, rfl, hfi, hfg, hk4, hSr, hRr, hTr, hCr, HA⟩ := hrel
      clear hSW hR2 hT2 hC2 hans hf0
      have hOr := hO.keep hCr
      have c0 : wr.cell? ⟨fb, 0, none⟩ = some (.int .i64 win) := hSr.blk.cell 0
      have c2 : wr.cell? ⟨fb, 2, none⟩ = some (.int .i64 mx) := hSr.blk.cell 2
      have c3 : wr.cell? ⟨fb, 3, none⟩ = some (.int .i64 ch) := hSr.blk.cell 3
      have t0 : wr.cell? ⟨w.heap.size + 1, 0, none⟩ = some (.int .u8 0) := hTr.cell 0
      have t1 : wr.cell? ⟨w.heap.size + 1, 1, none⟩ = some (.int .i64 bd) := hTr.cell 1
      have t2 : wr.cell? ⟨w.heap.size + 1, 2, none⟩ = some (.int .i64 bl) := hTr.cell 2
      have y0 : wr.frozen? ⟨w.heap.size + 1, 0, none⟩ = false := hTr.frozen 0
      have y1 : wr.frozen? ⟨w.heap.size + 1, 1, none⟩ = false := hTr.frozen 1
      have y2 : wr.frozen? ⟨w.heap.size + 1, 2, none⟩ = false := hTr.frozen 2
      have r0 : wr.cell? ⟨w.heap.size, 0, none⟩ = some (.int .u8 0) := hRr.cell 0
      have r1 : wr.cell? ⟨w.heap.size, 1, none⟩ = some (.int .i64 0) := hRr.cell 1
      have r2 : wr.cell? ⟨w.heap.size, 2, none⟩ = some (.int .i64 0) := hRr.cell 2
      have z0 : wr.frozen? ⟨w.heap.size, 0, none⟩ = false := hRr.frozen 0
      have z1 : wr.frozen? ⟨w.heap.size, 1, none⟩ = false := hRr.frozen 1
      have z2 : wr.frozen? ⟨w.heap.size, 2, none⟩ = false := hRr.frozen 2
      by_cases hgo : (k : Int) < ch ∧ 0 < f ∧ (i : Int) - ((f : Int) - 1) ≤ win
      · obtain ⟨g', rfl⟩ : ∃ g', g = g' + 1 := ⟨g - 1, by omega⟩
        obtain ⟨hg1, hg2, hg3⟩ := hgo
        have p7 : wr.cell? ⟨fb, 7, none⟩ = some (.slice (some ⟨pb, 0, none⟩) n n) := hSr.blk.cell 7
        have pc : wr.cell? ⟨pb, f - 1, none⟩ = some (.int .i64 (prevF bs mn i (f - 1) : Nat)) := by
          rw [hSr.prev.cell, nums_cell _ _ (by rw [prevL_len]; simp only; omega), prevL_at _ _ _ _ (by simp only; omega)]
        go_wp2_with fail
        rw [show ((f : Int) - 1) = ((f - 1 : Nat) : Int) by omega]
        refine (length_any wr fb win mn mx ch lz A n c mb _ n n i bs B (f - 1) i hSr.blk hOr.text hlen (by omega) hi).mono ?_
        rintro e w3 ⟨rfl, ⟨q3, rfl⟩⟩
        have hls := same_le bs (f - 1) i mx
        have hA := HA.out
        rw [atLoop, if_pos ⟨hg1, hg2, hg3⟩] at hA
        clear HA
        generalize same bs (f - 1) i mx = l at hA hls ⊢
        by_cases h1 : bl < l
        · rw [if_pos h1] at hA
          by_cases h2 : (l : Int) = mx
          · rw [if_pos h2] at hA
            have e2 : ((l : Int) == mx) = true := by simp [h2]
            clear h2
            replace hA := hide hA
            go_wp2_with fail
            rw [show ((f : Int) - 1) = ((f - 1 : Nat) : Int) by omega, show (i : Int) - ((f - 1 : Nat) : Int) = ((i - (f - 1) : Nat) : Int) by omega]
            have hS3 := (((hSr.drawn ⟨⟨q3, rfl⟩⟩).far (a := ⟨w.heap.size + 1, 0, none⟩) (by simp only; omega) (by simp only; omega) (by simp only; omega) (.int .u8 0)).far (a := ⟨w.heap.size + 1, 1, none⟩) (by simp only; omega) (by simp only; omega) (by simp only; omega) (.int .i64 ((i - (f - 1) : Nat) : Int))).far (a := ⟨w.heap.size + 1, 2, none⟩) (by simp only; omega) (by simp only; omega) (by simp only; omega) (.int .i64 (l : Int))
            have hT3 := (((hTr.drewN q3).set_ 0 (.int .u8 0)).set_ 1 (.int .i64 ((i - (f - 1) : Nat) : Int))).set_ 2 (.int .i64 (l : Int))
            have hR3 := (((hRr.drewN q3).far (p := ⟨w.heap.size + 1, 0, none⟩) (by simp) (.int .u8 0)).far (p := ⟨w.heap.size + 1, 1, none⟩) (by simp) (.int .i64 ((i - (f - 1) : Nat) : Int))).far (p := ⟨w.heap.size + 1, 2, none⟩) (by simp) (.int .i64 (l : Int))
            have hC3 := (((hCr.drewN q3).setCell (p := ⟨w.heap.size + 1, 0, none⟩) (.inr (by simp)) (.int .u8 0)).setCell (p := ⟨w.heap.size + 1, 1, none⟩) (.inr (by simp)) (.int .i64 ((i - (f - 1) : Nat) : Int))).setCell (p := ⟨w.heap.size + 1, 2, none⟩) (.inr (by simp)) (.int .i64 (l : Int))
            generalize ((((wr.drewN q3).setCell ⟨w.heap.size + 1, 0, none⟩ (.int .u8 0)).setCell ⟨w.heap.size + 1, 1, none⟩ (.int .i64 ((i - (f - 1) : Nat) : Int))).setCell ⟨w.heap.size + 1, 2, none⟩ (.int .i64 (l : Int))) = W3 at hS3 hT3 hR3 hC3 ⊢
            clear c0 c2 c3 t0 t1 t2 y0 y1 y2 r0 r1 r2 z0 z1 z2 p7 pc hSr hRr hTr hCr hOr
            have hO3 := hO.keep hC3
            have c2 : W3.cell? ⟨fb, 2, none⟩ = some (.int .i64 mx) := hS3.blk.cell 2
            have t0 : W3.cell? ⟨w.heap.size + 1, 0, none⟩ = some (.int .u8 0) := hT3.cell 0
            have t1 : W3.cell? ⟨w.heap.size + 1, 1, none⟩ = some (.int .i64 (i - (f - 1) : Nat)) := hT3.cell 1
            have t2 : W3.cell? ⟨w.heap.size + 1, 2, none⟩ = some (.int .i64 (l : Nat)) := hT3.cell 2
            have r0 : W3.cell? ⟨w.heap.size, 0, none⟩ = some (.int .u8 0) := hR3.cell 0
            have r1 : W3.cell? ⟨w.heap.size, 1, none⟩ = some (.int .i64 0) := hR3.cell 1
            have r2 : W3.cell? ⟨w.heap.size, 2, none⟩ = some (.int .i64 0) := hR3.cell 2
            have z0 : W3.frozen? ⟨w.heap.size, 0, none⟩ = false := hR3.frozen 0
            have z1 : W3.frozen? ⟨w.heap.size, 1, none⟩ = false := hR3.frozen 1
            have z2 : W3.frozen? ⟨w.heap.size, 2, none⟩ = false := hR3.frozen 2
            have p7 : W3.cell? ⟨fb, 7, none⟩ = some (.slice (some ⟨pb, 0, none⟩) n n) := hS3.blk.cell 7
            have pc : W3.cell? ⟨pb, f - 1, none⟩ = some (.int .i64 (prevF bs mn i (f - 1) : Nat)) := by
              rw [hS3.prev.cell, nums_cell _ _ (by rw [prevL_len]; simp only; omega), prevL_at _ _ _ _ (by simp only; omega)]
            go_quiet (fail)
            go_wp2_with fail
            refine bodyPost_ret (v := .agg #[.int .u8 0, .int .i64 (i - (f - 1) : Nat), .int .i64 (l : Nat)]) (by simp [results, Try.results41, go_sem, r0, r1, r2]) rfl ⟨by rw [← hA.out], ?_⟩
            exact at_close (hS3.drawn ⟨⟨_, rfl⟩⟩) (hC3.drewN _) hf hm hp _ _ _
          · rw [if_neg h2] at hA
            have e2 : ((l : Int) == mx) = false := by simp [h2]
            clear h2
            replace hA := hide hA
            go_wp2_with fail
            rw [show ((f : Int) - 1) = ((f - 1 : Nat) : Int) by omega, show (i : Int) - ((f - 1 : Nat) : Int) = ((i - (f - 1) : Nat) : Int) by omega]
            have hS3 := (((hSr.drawn ⟨⟨q3, rfl⟩⟩).far (a := ⟨w.heap.size + 1, 0, none⟩) (by simp only; omega) (by simp only; omega) (by simp only; omega) (.int .u8 0)).far (a := ⟨w.heap.size + 1, 1, none⟩) (by simp only; omega) (by simp only; omega) (by simp only; omega) (.int .i64 ((i - (f - 1) : Nat) : Int))).far (a := ⟨w.heap.size + 1, 2, none⟩) (by simp only; omega) (by simp only; omega) (by simp only; omega) (.int .i64 (l : Int))
            have hT3 := (((hTr.drewN q3).set_ 0 (.int .u8 0)).set_ 1 (.int .i64 ((i - (f - 1) : Nat) : Int))).set_ 2 (.int .i64 (l : Int))
            have hR3 := (((hRr.drewN q3).far (p := ⟨w.heap.size + 1, 0, none⟩) (by simp) (.int .u8 0)).far (p := ⟨w.heap.size + 1, 1, none⟩) (by simp) (.int .i64 ((i - (f - 1) : Nat) : Int))).far (p := ⟨w.heap.size + 1, 2, none⟩) (by simp) (.int .i64 (l : Int))
            have hC3 := (((hCr.drewN q3).setCell (p := ⟨w.heap.size + 1, 0, none⟩) (.inr (by simp)) (.int .u8 0)).setCell (p := ⟨w.heap.size + 1, 1, none⟩) (.inr (by simp)) (.int .i64 ((i - (f - 1) : Nat) : Int))).setCell (p := ⟨w.heap.size + 1, 2, none⟩) (.inr (by simp)) (.int .i64 (l : Int))
            generalize ((((wr.drewN q3).setCell ⟨w.heap.size + 1, 0, none⟩ (.int .u8 0)).setCell ⟨w.heap.size + 1, 1, none⟩ (.int .i64 ((i - (f - 1) : Nat) : Int))).setCell ⟨w.heap.size + 1, 2, none⟩ (.int .i64 (l : Int))) = W3 at hS3 hT3 hR3 hC3 ⊢
            clear c0 c2 c3 t0 t1 t2 y0 y1 y2 r0 r1 r2 z0 z1 z2 p7 pc hSr hRr hTr hCr hOr
            have hO3 := hO.keep hC3
            have c2 : W3.cell? ⟨fb, 2, none⟩ = some (.int .i64 mx) := hS3.blk.cell 2
            have t0 : W3.cell? ⟨w.heap.size + 1, 0, none⟩ = some (.int .u8 0) := hT3.cell 0
            have t1 : W3.cell? ⟨w.heap.size + 1, 1, none⟩ = some (.int .i64 (i - (f - 1) : Nat)) := hT3.cell 1
            have t2 : W3.cell? ⟨w.heap.size + 1, 2, none⟩ = some (.int .i64 (l : Nat)) := hT3.cell 2
            have r0 : W3.cell? ⟨w.heap.size, 0, none⟩ = some (.int .u8 0) := hR3.cell 0
            have r1 : W3.cell? ⟨w.heap.size, 1, none⟩ = some (.int .i64 0) := hR3.cell 1
            have r2 : W3.cell? ⟨w.heap.size, 2, none⟩ = some (.int .i64 0) := hR3.cell 2
            have z0 : W3.frozen? ⟨w.heap.size, 0, none⟩ = false := hR3.frozen 0
            have z1 : W3.frozen? ⟨w.heap.size, 1, none⟩ = false := hR3.frozen 1
            have z2 : W3.frozen? ⟨w.heap.size, 2, none⟩ = false := hR3.frozen 2
            have p7 : W3.cell? ⟨fb, 7, none⟩ = some (.slice (some ⟨pb, 0, none⟩) n n) := hS3.blk.cell 7
            have pc : W3.cell? ⟨pb, f - 1, none⟩ = some (.int .i64 (prevF bs mn i (f - 1) : Nat)) := by
              rw [hS3.prev.cell, nums_cell _ _ (by rw [prevL_len]; simp only; omega), prevL_at _ _ _ _ (by simp only; omega)]
            go_quiet (fail)
            go_wp2_with fail
            have hpl := prevF_le bs mn i (f - 1)
            refine ⟨⟨prevF bs mn i (f - 1), k + 1, g', i - (f - 1), l, rfl, by go_num, by omega, by omega, by omega, hS3.drawn ⟨⟨_, rfl⟩⟩, hR3.drewN _, hT3.drewN _, hC3.drewN _, ?_⟩, ?_⟩
            · exact hA
            · simp [intOf]; omega
        · rw [if_neg h1] at hA
          by_cases h2 : (bl : Int) = mx
          · rw [if_pos h2] at hA
            have e2 : ((bl : Int) == mx) = true := by simp [h2]
            clear h2
            replace hA := hide hA
            go_wp2_with fail
            have hS3 := hSr.drawn ⟨⟨q3, rfl⟩⟩
            have hT3 := hTr.drewN q3
            have hR3 := hRr.drewN q3
            have hC3 := hCr.drewN q3
            generalize wr.drewN q3 = W3 at hS3 hT3 hR3 hC3 ⊢
            clear c0 c2 c3 t0 t1 t2 y0 y1 y2 r0 r1 r2 z0 z1 z2 p7 pc hSr hRr hTr hCr hOr
            have hO3 := hO.keep hC3
            have c2 : W3.cell? ⟨fb, 2, none⟩ = some (.int .i64 mx) := hS3.blk.cell 2
            have t0 : W3.cell? ⟨w.heap.size + 1, 0, none⟩ = some (.int .u8 0) := hT3.cell 0
            have t1 : W3.cell? ⟨w.heap.size + 1, 1, none⟩ = some (.int .i64 (bd : Nat)) := hT3.cell 1
            have t2 : W3.cell? ⟨w.heap.size + 1, 2, none⟩ = some (.int .i64 (bl : Nat)) := hT3.cell 2
            have r0 : W3.cell? ⟨w.heap.size, 0, none⟩ = some (.int .u8 0) := hR3.cell 0
            have r1 : W3.cell? ⟨w.heap.size, 1, none⟩ = some (.int .i64 0) := hR3.cell 1
            have r2 : W3.cell? ⟨w.heap.size, 2, none⟩ = some (.int .i64 0) := hR3.cell 2
            have z0 : W3.frozen? ⟨w.heap.size, 0, none⟩ = false := hR3.frozen 0
            have z1 : W3.frozen? ⟨w.heap.size, 1, none⟩ = false := hR3.frozen 1
            have z2 : W3.frozen? ⟨w.heap.size, 2, none⟩ = false := hR3.frozen 2
            have p7 : W3.cell? ⟨fb, 7, none⟩ = some (.slice (some ⟨pb, 0, none⟩) n n) := hS3.blk.cell 7
            have pc : W3.cell? ⟨pb, f - 1, none⟩ = some (.int .i64 (prevF bs mn i (f - 1) : Nat)) := by
              rw [hS3.prev.cell, nums_cell _ _ (by rw [prevL_len]; simp only; omega), prevL_at _ _ _ _ (by simp only; omega)]
            go_quiet (fail)
            go_wp2_with fail
            refine bodyPost_ret (v := .agg #[.int .u8 0, .int .i64 (bd : Nat), .int .i64 (bl : Nat)]) (by simp [results, Try.results41, go_sem, r0, r1, r2]) rfl ⟨by rw [← hA.out], ?_⟩
            exact at_close (hS3.drawn ⟨⟨_, rfl⟩⟩) (hC3.drewN _) hf hm hp _ _ _
          · rw [if_neg h2] at hA
            have e2 : ((bl : Int) == mx) = false := by simp [h2]
            clear h2
            replace hA := hide hA
            go_wp2_with fail
            have hS3 := hSr.drawn ⟨⟨q3, rfl⟩⟩
            have hT3 := hTr.drewN q3
            have hR3 := hRr.drewN q3
            have hC3 := hCr.drewN q3
            generalize wr.drewN q3 = W3 at hS3 hT3 hR3 hC3 ⊢
            clear c0 c2 c3 t0 t1 t2 y0 y1 y2 r0 r1 r2 z0 z1 z2 p7 pc hSr hRr hTr hCr hOr
            have hO3 := hO.keep hC3
            have c2 : W3.cell? ⟨fb, 2, none⟩ = some (.int .i64 mx) := hS3.blk.cell 2
            have t0 : W3.cell? ⟨w.heap.size + 1, 0, none⟩ = some (.int .u8 0) := hT3.cell 0
            have t1 : W3.cell? ⟨w.heap.size + 1, 1, none⟩ = some (.int .i64 (bd : Nat)) := hT3.cell 1
            have t2 : W3.cell? ⟨w.heap.size + 1, 2, none⟩ = some (.int .i64 (bl : Nat)) := hT3.cell 2
            have r0 : W3.cell? ⟨w.heap.size, 0, none⟩ = some (.int .u8 0) := hR3.cell 0
            have r1 : W3.cell? ⟨w.heap.size, 1, none⟩ = some (.int .i64 0) := hR3.cell 1
            have r2 : W3.cell? ⟨w.heap.size, 2, none⟩ = some (.int .i64 0) := hR3.cell 2
            have z0 : W3.frozen? ⟨w.heap.size, 0, none⟩ = false := hR3.frozen 0
            have z1 : W3.frozen? ⟨w.heap.size, 1, none⟩ = false := hR3.frozen 1
            have z2 : W3.frozen? ⟨w.heap.size, 2, none⟩ = false := hR3.frozen 2
            have p7 : W3.cell? ⟨fb, 7, none⟩ = some (.slice (some ⟨pb, 0, none⟩) n n) := hS3.blk.cell 7
            have pc : W3.cell? ⟨pb, f - 1, none⟩ = some (.int .i64 (prevF bs mn i (f - 1) : Nat)) := by
              rw [hS3.prev.cell, nums_cell _ _ (by rw [prevL_len]; simp only; omega), prevL_at _ _ _ _ (by simp only; omega)]
            go_quiet (fail)
            go_wp2_with fail
            have hpl := prevF_le bs mn i (f - 1)
            refine ⟨⟨prevF bs mn i (f - 1), k + 1, g', bd, bl, rfl, by go_num, by omega, by omega, by omega, hS3.drawn ⟨⟨_, rfl⟩⟩, hR3.drewN _, hT3.drewN _, hC3.drewN _, ?_⟩, ?_⟩
            · exact hA
            · simp [intOf]; omega
      · have hst := hide (atLoop_stop bs mn mx win ch i g f k (bd, bl) hgo)
        go_wp2_with fail
        all_goals
          refine bodyPost_ret (v := .agg #[.int .u8 0, .int .i64 bd, .int .i64 bl]) (by simp [results, Try.results41, go_sem, r0, r1, r2]) rfl ⟨by rw [← HA.out, hst.out], ?_⟩
          exact at_close hSr hCr hf hm hp _ _ _
  · have hmn := hO1.min
    simp only at hmn
    refine (key_no w1 fb win mn mx ch lz A n c mb _ n n i i hS1.blk hlen (by omega) (by omega) (by omega) (by omega)).mono ?_
    rintro e w2 ⟨rfl, hb2⟩
    have hS2 := hS1.below hb2 hO1.ml
    have hR2 := hR1.below hb2 hR1.lt
    have hT2 := hT1.below hb2 hT1.lt
    have hC2 := hC1.then_below hb2
    have hlt2 := hR2.lt
    have t0 : w2.cell? ⟨w.heap.size + 1, 0, none⟩ = some (.int .u8 0) := hT2.cell 0
    have t1 : w2.cell? ⟨w.heap.size + 1, 1, none⟩ = some (.int .i64 0) := hT2.cell 1
    have t2 : w2.cell? ⟨w.heap.size + 1, 2, none⟩ = some (.int .i64 0) := hT2.cell 2
    have r0 : w2.cell? ⟨w.heap.size, 0, none⟩ = some (.int .u8 0) := hR2.cell 0
    have r1 : w2.cell? ⟨w.heap.size, 1, none⟩ = some (.int .i64 0) := hR2.cell 1
    have r2 : w2.cell? ⟨w.heap.size, 2, none⟩ = some (.int .i64 0) := hR2.cell 2
    have z0 : w2.frozen? ⟨w.heap.size, 0, none⟩ = false := hR2.frozen 0
    have z1 : w2.frozen? ⟨w.heap.size, 1, none⟩ = false := hR2.frozen 1
    have z2 : w2.frozen? ⟨w.heap.size, 2, none⟩ = false := hR2.frozen 2
    have hlt3 := hT2.lt
    go_wp2_with fail
    have hB := (((hR2.set_ 0 (.int .u8 0)).set_ 1 (.int .i64 0)).set_ 2 (.int .i64 0)).alloc (Obj.cells #[Value.int IntKind.u8 0, Value.int IntKind.u8 0, Value.int IntKind.u8 0] 84)
    refine bodyPost_ret (results_cell_row Try.results41 _ _ w.heap.size 67 _ (0, 0) _ rfl hB Try.underlying67 rfl tokSize) rfl ⟨?_, ?_⟩
    · rw [atSpec, if_neg (by omega)]; rfl
    · have h3 := at_close hS2 hC2 hf hm hp (.int .u8 0) (.int .i64 0) (.int .i64 0)
      exact ⟨h3.1.alloc _, h3.2.alloc _⟩
end Go.Proofs.Ytplkdjbcdeakaaa

