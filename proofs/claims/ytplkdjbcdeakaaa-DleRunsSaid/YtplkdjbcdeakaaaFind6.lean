/- The program's Find answers the tokens of a text. -/
import Derived.Test.YtplkdjbcdeakaaaFind5
import Derived.Laws.MakeOwn
import Derived.Deep.OwnRows
import Derived.BigRegion
import Derived.Deep.RegionHeld3
namespace Go.Proofs.Ytplkdjbcdeakaaa
open Go.RowKit

theorem intInfo : (Try.prog.info? 3).map (fun i => (i.zero, i.size, i.bytes)) = some (some (.int .i64 0), 1, 8) := by kernel_rfl

def Made (B n : Nat) (w : World) (win mn mx ch : Int) (lz : Bool) (A : Option Addr) (c : Nat) (bs : List Int) (s7 : Value) (wx : World) : Prop :=
  ∃ fb mb pb : Nat, s7 = .pointer (some ⟨fb, 0, none⟩) ∧ Blk wx B 65 #[.int .i64 win, .int .i64 mn, .int .i64 mx, .int .i64 ch, .bool lz] ∧ FSt ⟨fb, mb, pb, win, mn, mx, ch, lz, A, n, c, bs⟩ wx 0 ∧ FOk ⟨fb, mb, pb, win, mn, mx, ch, lz, A, n, c, bs⟩ wx B ∧ Below B w wx

theorem nums_rep (n : Nat) : (madeCells #[Value.int .i64 0] n) = (nums .i64 (List.replicate n 0)).toArray := by
  apply Array.toList_inj.1
  rw [toList_madeCells_one]
  simp [nums]

theorem Made.drew {B n : Nat} {w : World} {win mn mx ch : Int} {lz : Bool} {A : Option Addr} {c : Nat} {bs : List Int} {s7 : Value} {wx : World} (h : Made B n w win mn mx ch lz A c bs s7 wx) : Made B n w win mn mx ch lz A c bs s7 wx.drew := by
  obtain ⟨fb, mb, pb, e, hV, hS, hO, hb⟩ := h
  exact ⟨fb, mb, pb, e, hV, hS.drawn ⟨⟨1, rfl⟩⟩, hO.keep ((Chg.refl _ _).drew), hb.drew⟩

theorem made_1 {w w1 : World} {A : Option Addr} {n c : Nat} {win mn mx ch : Int} {lz : Bool} {bs : List Int}
    (hV : Blk w1 w.heap.size 65 #[.int .i64 win, .int .i64 mn, .int .i64 mx, .int .i64 ch, .bool lz]) (hbw : Below w.heap.size w w1)
    (ht : RN .u8 w w.heap.size A n bs) (hb : ∀ x ∈ bs, 0 ≤ x ∧ x ≤ 255) (hnc : n ≤ c) (hn : n ≤ 140737488351232) (hok : 1 ≤ win ∧ win ≤ 65536 ∧ 2 ≤ mn ∧ mn ≤ 3 ∧ mn ≤ mx ∧ mx ≤ 65538 ∧ 0 ≤ ch ∧ ch ≤ 4096) :
    Made w.heap.size n w win mn mx ch lz A c bs (.pointer (some ⟨w1.heap.size + 1 + 1, 0, none⟩))
      (((w1.alloc (Obj.map #[] 0)).alloc (Obj.cells (madeCells #[Value.int .i64 0] n) 3)).alloc (Obj.cells #[.int .i64 win, .int .i64 mn, .int .i64 mx, .int .i64 ch, .bool lz, .slice A n c, .map (some w1.heap.size), .slice (some ⟨(w1.heap.size + 1), 0, none⟩) n n, .int .i64 0] 78)).drew := by
  refine Made.drew ?_
  have hl := ht.len
  have hz := hV.lt
  have hbW : Below w.heap.size w (((w1.alloc (Obj.map #[] 0)).alloc (Obj.cells (madeCells #[Value.int .i64 0] n) 3)).alloc (Obj.cells #[.int .i64 win, .int .i64 mn, .int .i64 mx, .int .i64 ch, .bool lz, .slice A n c, .map (some w1.heap.size), .slice (some ⟨(w1.heap.size + 1), 0, none⟩) n n, .int .i64 0] 78)) :=
    ((hbw.alloc hbw.size _).alloc (by simp; omega) _).alloc (by simp; omega) _
  refine ⟨w1.heap.size + 1 + 1, w1.heap.size, (w1.heap.size + 1), rfl, ((hV.alloc _).alloc _).alloc _, ⟨?_, ⟨0, Nat.le_refl _, ?_⟩, ?_⟩, ⟨ht.below hbW, hb, hnc, hn, by simp only; omega, by simp only; omega, by simp only; omega, by simp only; omega, by simp <;> omega, by simp <;> omega, by simp <;> omega⟩, hbW⟩
  · have := Blk.new ((w1.alloc (Obj.map #[] 0)).alloc (Obj.cells (madeCells #[Value.int .i64 0] n) 3)) 78 #[.int .i64 win, .int .i64 mn, .int .i64 mx, .int .i64 ch, .bool lz, .slice A n c, .map (some w1.heap.size), .slice (some ⟨(w1.heap.size + 1), 0, none⟩) n n, .int .i64 0]
    rw [show ((w1.alloc (Obj.map #[] 0)).alloc (Obj.cells (madeCells #[Value.int .i64 0] n) 3)).heap.size = w1.heap.size + 1 + 1 by simp] at this
    exact this
  · exact ((MapFn.new w1).kept (World.grownBy_alloc _ _ none) (by simp)).kept (World.grownBy_alloc _ _ none) (by simp)
  · have := (Blk.new (w1.alloc (Obj.map #[] 0)) 3 (madeCells #[Value.int .i64 0] n)).alloc (Obj.cells #[.int .i64 win, .int .i64 mn, .int .i64 mx, .int .i64 ch, .bool lz, .slice A n c, .map (some w1.heap.size), .slice (some ⟨(w1.heap.size + 1), 0, none⟩) n n, .int .i64 0] 78)
    rw [show (w1.alloc (Obj.map #[] 0)).heap.size = w1.heap.size + 1 by simp] at this
    rw [nums_rep, ← hl, ← prevL_zero bs mn] at this ⊢
    exact this

theorem made_2 {w w1 : World} {A : Option Addr} {n c : Nat} {win mn mx ch : Int} {lz : Bool} {bs : List Int}
    (hV : Blk w1 w.heap.size 65 #[.int .i64 win, .int .i64 mn, .int .i64 mx, .int .i64 ch, .bool lz]) (hbw : Below w.heap.size w w1)
    (ht : RN .u8 w w.heap.size A n bs) (hb : ∀ x ∈ bs, 0 ≤ x ∧ x ≤ 255) (hnc : n ≤ c) (hn : n ≤ 140737488351232) (hok : 1 ≤ win ∧ win ≤ 65536 ∧ 2 ≤ mn ∧ mn ≤ 3 ∧ mn ≤ mx ∧ mx ≤ 65538 ∧ 0 ≤ ch ∧ ch ≤ 4096) :
    Made w.heap.size n w win mn mx ch lz A c bs (.pointer (some ⟨w1.heap.size + 1 + 1, 0, none⟩))
      (((w1.alloc (Obj.cells (madeCells #[Value.int .i64 0] n) 3)).alloc (Obj.map #[] 0)).alloc (Obj.cells #[.int .i64 win, .int .i64 mn, .int .i64 mx, .int .i64 ch, .bool lz, .slice A n c, .map (some (w1.heap.size + 1)), .slice (some ⟨w1.heap.size, 0, none⟩) n n, .int .i64 0] 78)).drew := by
  refine Made.drew ?_
  have hl := ht.len
  have hz := hV.lt
  have hbW : Below w.heap.size w (((w1.alloc (Obj.cells (madeCells #[Value.int .i64 0] n) 3)).alloc (Obj.map #[] 0)).alloc (Obj.cells #[.int .i64 win, .int .i64 mn, .int .i64 mx, .int .i64 ch, .bool lz, .slice A n c, .map (some (w1.heap.size + 1)), .slice (some ⟨w1.heap.size, 0, none⟩) n n, .int .i64 0] 78)) :=
    ((hbw.alloc hbw.size _).alloc (by simp; omega) _).alloc (by simp; omega) _
  refine ⟨w1.heap.size + 1 + 1, (w1.heap.size + 1), w1.heap.size, rfl, ((hV.alloc _).alloc _).alloc _, ⟨?_, ⟨0, Nat.le_refl _, ?_⟩, ?_⟩, ⟨ht.below hbW, hb, hnc, hn, by simp only; omega, by simp only; omega, by simp only; omega, by simp only; omega, by simp <;> omega, by simp <;> omega, by simp <;> omega⟩, hbW⟩
  · have := Blk.new ((w1.alloc (Obj.cells (madeCells #[Value.int .i64 0] n) 3)).alloc (Obj.map #[] 0)) 78 #[.int .i64 win, .int .i64 mn, .int .i64 mx, .int .i64 ch, .bool lz, .slice A n c, .map (some (w1.heap.size + 1)), .slice (some ⟨w1.heap.size, 0, none⟩) n n, .int .i64 0]
    rw [show ((w1.alloc (Obj.cells (madeCells #[Value.int .i64 0] n) 3)).alloc (Obj.map #[] 0)).heap.size = w1.heap.size + 1 + 1 by simp] at this
    exact this
  · have := (MapFn.new (w1.alloc (Obj.cells (madeCells #[Value.int .i64 0] n) 3))).kept (World.grownBy_alloc _ (Obj.cells #[.int .i64 win, .int .i64 mn, .int .i64 mx, .int .i64 ch, .bool lz, .slice A n c, .map (some (w1.heap.size + 1)), .slice (some ⟨w1.heap.size, 0, none⟩) n n, .int .i64 0] 78) none) (by simp)
    rw [show (w1.alloc (Obj.cells (madeCells #[Value.int .i64 0] n) 3)).heap.size = w1.heap.size + 1 by simp] at this
    exact this
  · have := ((Blk.new w1 3 (madeCells #[Value.int .i64 0] n)).alloc (Obj.map #[] 0)).alloc (Obj.cells #[.int .i64 win, .int .i64 mn, .int .i64 mx, .int .i64 ch, .bool lz, .slice A n c, .map (some (w1.heap.size + 1)), .slice (some ⟨w1.heap.size, 0, none⟩) n n, .int .i64 0] 78)
    rw [nums_rep, ← hl, ← prevL_zero bs mn] at this ⊢
    exact this

theorem tokInfo : (Try.prog.info? 67).map (fun i => (i.zero, i.size, i.bytes)) = some (some (.agg #[.int .u8 0, .int .i64 0, .int .i64 0]), 3, 24) := by kernel_rfl

theorem own_lt {w : World} {base : Nat} {e : TypeId} {size n : Nat} {v : Value} {xs : List Value} (h : w.ownsRow base e size v n xs) (k : Nat) (hk : v.ownBlock = some k) : k < w.heap.size := by
  rcases h.2 with ⟨rfl, _⟩ | ⟨g, cap, cur, rfl, hb, hh, _⟩
  · simp [Value.ownBlock] at hk
  · have : g = k := by simpa [Value.ownBlock] using hk
    subst this
    exact (Array.getElem?_eq_some_iff.1 hh).1
theorem own_base {w : World} {base : Nat} {e : TypeId} {size n : Nat} {v : Value} {xs : List Value} (h : w.ownsRow base e size v n xs) (k : Nat) (hk : v.ownBlock = some k) : base ≤ k := by
  rcases h.2 with ⟨rfl, _⟩ | ⟨g, cap, cur, rfl, hb, _⟩
  · simp [Value.ownBlock] at hk
  · have : g = k := by simpa [Value.ownBlock] using hk
    omega
theorem own_map_ne {w : World} {base b m : Nat} {e : TypeId} {size n : Nat} {v : Value} {xs : List Value} {M : List Int → Int} (h : w.ownsRow base e size v n xs) (hm : MapFn w b m M) : v.ownBlock ≠ some b := by
  rcases h.2 with ⟨rfl, _⟩ | ⟨g', cap, cur, rfl, _, hh, _⟩
  · simp [Value.ownBlock]
  · intro he
    have : g' = b := by simpa [Value.ownBlock] using he
    subst this
    exact blk_map_ne hh hm rfl
theorem own_not {d : Fd} {w : World} {p base n : Nat} {v : Value} {xs : List Value} (hS : FSt d w p) (h : w.ownsRow base 67 3 v n xs) : ∀ g, v.ownBlock = some g → g ∉ [d.fb, d.mb, d.pb] := by
  intro g hg
  have h1 := own_blk_ne h hS.blk (by decide)
  have h2 := own_blk_ne h hS.prev (by decide)
  obtain ⟨m, _, hm⟩ := hS.map
  have h3 := own_map_ne h hm
  rw [hg] at h1 h2 h3
  simp at h1 h2 h3 ⊢
  exact ⟨h1, h3, h2⟩
theorem fin_le {d : Fd} {w : World} {B : Nat} (h : FOk d w B) : ∀ i, i ∈ [d.fb, d.mb, d.pb] → B ≤ i := by
  intro i hi
  simp at hi
  have h1 := h.bf; have h2 := h.bm; have h3 := h.bp
  rcases hi with rfl | rfl | rfl <;> assumption

theorem step_keep {d : Fd} {w W w5 : World} {p : Nat} {v : Value} {n : Nat} {xs : List Value} {sh : Array Value} (hS : FSt d W p) (hO : FOk d W w.heap.size) (hV : Blk W w.heap.size 65 sh) (hb : Below w.heap.size w W)
    (hown : W.ownsRow w.heap.size 67 3 v n xs) (o : Obj) (hg : (W.alloc o).grownBy w5 v.ownBlock) : FSt d w5 p ∧ FOk d w5 w.heap.size ∧ Blk w5 w.heap.size 65 sh ∧ Below w.heap.size w w5 := by
  have n1 := own_blk_ne hown hS.blk (by decide)
  have n2 := own_blk_ne hown hS.prev (by decide)
  have n4 := own_blk_ne hown hV (by decide)
  have hS1 := hS.alloc o
  obtain ⟨hblk, ⟨m, hm, hmap⟩, hprev⟩ := hS1
  have n3 := own_map_ne (hown.alloc o) hmap
  have hbb : Below w.heap.size W w5 := ((Below.refl _ _).alloc hb.size o).grown hg (by simp; have := hb.size; omega) (fun k hk => own_base hown k hk)
  refine ⟨⟨hblk.grown hg n1.symm, ⟨m, hm, hmap.kept hg n3.symm⟩, hprev.grown hg n2.symm⟩, ?_, (hV.alloc o).grown hg n4.symm, hb.trans hbb⟩
  exact ⟨hO.text.below hbb, hO.bytes, hO.cap, hO.len, hO.min, hO.bf, hO.bm, hO.bp, Nat.lt_of_lt_of_le hO.fl hbb.size, Nat.lt_of_lt_of_le hO.ml hbb.size, Nat.lt_of_lt_of_le hO.pl hbb.size⟩

theorem shape_not {d : Fd} {w : World} {p B : Nat} {sh : Array Value} (hV : Blk w B 65 sh) (hS : FSt d w p) : B ∉ [d.fb, d.mb, d.pb] := by
  have h1 := hV.ne_ hS.blk (by decide)
  have h2 := hV.ne_ hS.prev (by decide)
  obtain ⟨m, _, hm⟩ := hS.map
  have h3 := blk_map_ne hV hm
  simp at h1 h2 h3 ⊢
  exact ⟨h1, h3, h2⟩

theorem held6 {S : List Nat} {W w6 : World} {B tb : Nat} {td tl : Nat} {win mn mx ch : Int} {lz : Bool} (hC : Chg S (W.drewN 1) w6) (hT : Blk W tb 67 #[.int .u8 0, .int .i64 td, .int .i64 tl]) (hV : Blk W B 65 #[.int .i64 win, .int .i64 mn, .int .i64 mx, .int .i64 ch, .bool lz])
    (h1 : tb ∉ S) (h2 : B ∉ S) : w6.cell? ⟨tb, 0, none⟩ = some (.int .u8 0) ∧ w6.cell? ⟨tb, 1, none⟩ = some (.int .i64 (td : Int)) ∧ w6.cell? ⟨tb, 2, none⟩ = some (.int .i64 (tl : Int)) ∧ w6.cell? ⟨B, 2, none⟩ = some (.int .i64 mx) ∧ w6.cell? ⟨B, 4, none⟩ = some (.bool lz) := by
  have a := hC.blk (hT.drewN 1) h1
  have b := hC.blk (hV.drewN 1) h2
  exact ⟨a.cell 0, a.cell 1, a.cell 2, b.cell 2, b.cell 4⟩

theorem tokField2 (x y z : Value) (V : World) : (Instr.field 67 (.agg #[x, y, z]) 2).run Try.prog V = .ok z V := by kernel_rfl

theorem at_any2 (d : Fd) (w : World) (B p i : Nat) (j : Int) (hS : FSt d w p) (hO : FOk d w B) (hj : j = i) (hpi : p ≤ i) (hi : i ≤ d.n) (hch : d.ch ≤ 4096) :
    Calls Try.prog 41 #[.pointer (some ⟨d.fb, 0, none⟩), .int .i64 j] w fun e w' => e = .returned (.agg #[.int .u8 0, .int .i64 (atSpec d.bs d.mn d.mx d.win d.ch i).1, .int .i64 (atSpec d.bs d.mn d.mx d.win d.ch i).2]) ∧ FSt d w' i ∧ Chg [d.fb, d.mb, d.pb] w w' := by
  subst hj
  exact at_any d w B p i hS hO hpi hi hch

set_option maxHeartbeats 2000000 in
theorem find_yes (w : World) (A : Option Addr) (n c : Nat) (win mn mx ch : Int) (lz : Bool) (bs : List Int) (hok : shapeOk win mn mx ch = true) (ht : RN .u8 w w.heap.size A n bs) (hb : ∀ x ∈ bs, 0 ≤ x ∧ x ≤ 255) (hnc : n ≤ c) (hn : n ≤ 1099511627776) :
    Calls Try.prog 35 #[.slice A n c, .agg #[.int .i64 win, .int .i64 mn, .int .i64 mx, .int .i64 ch, .bool lz]] w fun e w' =>
      ∃ v, e = .returned (.tuple #[v, .int .i64 0]) ∧ w'.ownsRow w.heap.size 67 3 v (findSpec bs mn mx win ch lz).length (tokCs (findSpec bs mn mx win ch lz)) ∧ Below w.heap.size w w' := by
  obtain ⟨i0, hi0, hz0, hz1, hz2⟩ := info_parts tokInfo
  have hk : Hid (chk win mn mx ch = 0) := by show _ = _; unfold chk; rw [if_pos hok]
  simp only [shapeOk, decide_eq_true_eq] at hok
  go_enter Try.func35, Try.ntmps35
  go_wp2_with fail
  refine (check_any _ win mn mx ch lz).mono ?_
  rintro e w1 ⟨rfl, hb1⟩
  rw [hk.out]
  go_upto_region 4 with fail
  go_cut [7] (fun s7 wx => Made w.heap.size n w win mn mx ch lz A c bs s7 wx)
  case first =>
    have hz1 : w.heap.size < w1.heap.size := by have := hb1.size; simp at this; omega
    have hV : Blk w1 w.heap.size 65 #[.int .i64 win, .int .i64 mn, .int .i64 mx, .int .i64 ch, .bool lz] := (Blk.new w _ _).below hb1 (by simp)
    have hbw : Below w.heap.size w w1 := ((Below.refl _ _).alloc (Nat.le_refl _) _).trans (hb1.mono (by simp))
    clear hb1
    have c0 : w1.cell? ⟨w.heap.size, 0, none⟩ = some (.int .i64 win) := hV.cell 0
    have c1 : w1.cell? ⟨w.heap.size, 1, none⟩ = some (.int .i64 mn) := hV.cell 1
    have c2 : w1.cell? ⟨w.heap.size, 2, none⟩ = some (.int .i64 mx) := hV.cell 2
    have c3 : w1.cell? ⟨w.heap.size, 3, none⟩ = some (.int .i64 ch) := hV.cell 3
    have c4 : w1.cell? ⟨w.heap.size, 4, none⟩ = some (.bool lz) := hV.cell 4
    have hmm := @run_makeMap Try.prog
    have hmk := run_make_row' (P := Try.prog) 76 3 (.int .i64 0) 8 Try.underlying76 intInfo rfl .i64 .i64 n (by omega) (by omega)
    go_region
    · go_wp2_with fail
      go_meet
      exact made_1 hV hbw ht hb hnc (by omega) hok
    · go_wp2_with fail
      go_meet
      exact made_2 hV hbw ht hb hnc (by omega) hok
  case rest =>
    obtain ⟨fb, mb, pb, rfl, hV, hS0, hO0, hbc⟩ := hcut
    clear hb1 hk w1
    have hlen := ht.len
    have hbytes := hb
    clear hb
    go_wp2_with fail
    go_loopw [8, 9] (fun v8 v9 wr => ∃ (i p f : Nat) (out : List Tok), v9 = .int .i64 i ∧ i ≤ n ∧ p ≤ i ∧ n ≤ i + f ∧ Hid (out ++ findLoop bs mn mx win ch lz f i = findSpec bs mn mx win ch lz) ∧ out.length ≤ i ∧ Blk wr w.heap.size 65 #[.int .i64 win, .int .i64 mn, .int .i64 mx, .int .i64 ch, .bool lz] ∧
        FSt ⟨fb, mb, pb, win, mn, mx, ch, lz, A, n, c, bs⟩ wr p ∧ FOk ⟨fb, mb, pb, win, mn, mx, ch, lz, A, n, c, bs⟩ wr w.heap.size ∧ Below w.heap.size w wr ∧ wr.ownsRow w.heap.size 67 3 v8 out.length (tokCs out)) (fun _ v9 _ => n - (intOf v9).toNat)
    case atStart => exact ⟨0, 0, bs.length, [], rfl, by omega, by omega, by omega, hide (by simp [findSpec]), by simp, hV, hS0, hO0, hbc, own_nil _ _ _ _⟩
    case round =>
      obtain ⟨i, p, f, out, rfl, hin, hpi, hnf, hF, hoi, hVr, hSr, hOr, hbr, hown⟩ := hrel
      clear hV hS0 hO0 hbc wc
      by_cases hlt : i < n
      · go_wp2_with fail
        refine (at_any ⟨fb, mb, pb, win, mn, mx, ch, lz, A, n, c, bs⟩ wr w.heap.size p i hSr hOr hpi (by simp only; omega) (by simp only; omega)).mono ?_
        rintro e w2 ⟨rfl, hS2, hC2⟩
        go_wp2_with fail
        have hgood := atSpec_good bs mn mx win ch i (by omega)
        have hF1 := hF.out
        obtain ⟨f, rfl⟩ : ∃ f', f = f' + 1 := ⟨f - 1, by omega⟩
        rw [findLoop, if_pos (by omega)] at hF1
        clear hF
        have hO2 := hOr.keep hC2
        have hV2 := hC2.blk hVr (shape_not hVr hSr)
        have hown2 := hC2.own hown (own_not hSr hown)
        have hb2 := hbr.trans (hC2.below hbr.size (fin_le hOr))
        have hT := Blk.new w2 67 #[Value.int .u8 0, Value.int .i64 (atSpec bs mn mx win ch i).1, Value.int .i64 (atSpec bs mn mx win ch i).2]
        have hS3 := hS2.alloc (Obj.cells #[Value.int .u8 0, Value.int .i64 (atSpec bs mn mx win ch i).1, Value.int .i64 (atSpec bs mn mx win ch i).2] 67)
        have hO3 := hO2.keep ((Chg.refl _ _).alloc (Obj.cells #[Value.int .u8 0, Value.int .i64 (atSpec bs mn mx win ch i).1, Value.int .i64 (atSpec bs mn mx win ch i).2] 67))
        have hV3 := hV2.alloc (Obj.cells #[Value.int .u8 0, Value.int .i64 (atSpec bs mn mx win ch i).1, Value.int .i64 (atSpec bs mn mx win ch i).2] 67)
        have hown3 := hown2.alloc (Obj.cells #[Value.int .u8 0, Value.int .i64 (atSpec bs mn mx win ch i).1, Value.int .i64 (atSpec bs mn mx win ch i).2] 67)
        have hb3 := hb2.alloc hb2.size (Obj.cells #[Value.int .u8 0, Value.int .i64 (atSpec bs mn mx win ch i).1, Value.int .i64 (atSpec bs mn mx win ch i).2] 67)
        have htb : w.heap.size < w2.heap.size := hV2.lt
        have hne : u8.ownBlock ≠ some w2.heap.size := fun e => by have := own_lt hown2 _ e; omega
        have htf : fb < w2.heap.size := hO2.fl
        have htm : mb < w2.heap.size := hO2.ml
        have htp : pb < w2.heap.size := hO2.pl
        clear hSr hOr hVr hown hbr hC2 hS2 hO2 hV2 hown2 hb2
        generalize w2.alloc (Obj.cells #[Value.int .u8 0, Value.int .i64 (atSpec bs mn mx win ch i).1, Value.int .i64 (atSpec bs mn mx win ch i).2] 67) = W at hT hS3 hO3 hV3 hown3 hb3 ⊢
        generalize w2.heap.size = tb at hT htb hne htf htm htp ⊢
        clear w2
        by_cases z : atSpec bs mn mx win ch i = (0, 0)
        · have hw : waits bs mn mx win ch lz i = true := by simp [waits, z]
          rw [if_pos hw] at hF1
          have hF := hide hF1
          clear hF1 hw hgood
          rw [z] at hT ⊢
          clear z
          have t0 : W.cell? ⟨tb, 0, none⟩ = some (.int .u8 0) := hT.cell 0
          have t1 : W.cell? ⟨tb, 1, none⟩ = some (.int .i64 0) := hT.cell 1
          have t2 : W.cell? ⟨tb, 2, none⟩ = some (.int .i64 0) := hT.cell 2
          go_quiet (fail)
          have hS4 := hS3.drawn ⟨⟨nq, rfl⟩⟩
          have hO4 := hO3.keep ((Chg.refl _ _).drewN nq)
          have hV4 := hV3.drewN nq
          have hb4 := below_drewN hb3 nq
          have hown4 : (W.drewN nq).ownsRow w.heap.size 67 3 u8 out.length (tokCs out) := hown3
          clear t0 t1 t2 hT hS3 hO3 hV3 hown3 hb3
          generalize W.drewN nq = W4 at hS4 hO4 hV4 hb4 hown4 ⊢
          obtain ⟨p4, hp4, hS4⟩ : ∃ p4, p4 ≤ i + 1 ∧ FSt ⟨fb, mb, pb, win, mn, mx, ch, lz, A, n, c, bs⟩ W4 p4 := ⟨i, by omega, hS4⟩
          obtain ⟨ad, rfl, _, hcell⟩ := hO4.text.ad (by simp only; omega)
          have cb : W4.cell? (ad.add i) = some (.int .u8 (bs.getD i 0)) := hcell i hlt
          have hsz := hb4.size
          clear hcell
          go_wp2_with (at_builtin; refine wpList_append_any _ rfl (.tmp 55) (.tmp 61) _ rfl w.heap.size 67 i0 _ 3 24 Try.underlying61 hi0 hz0 hz1 hz2 rfl (by omega) _ out.length (tokCs out) rfl (hown4.alloc _) (W4.heap.size + 1) (some ⟨W4.heap.size, 0, none⟩) 1 1 _ rfl (reads_new W4 _ _ 3 1 rfl) (by simp [Value.oneCell']) (by simp only [maxLen]; omega) (by omega) (by simp; omega) ?_; intro v5 w5 hown5 hg5 hat5)
          obtain ⟨k1, k2, k3, k4⟩ := step_keep hS4 hO4 hV4 hb4 hown4 _ hg5
          refine ⟨⟨i + 1, p4, f, out ++ [⟨bs.getD i 0, 0, 0⟩], by go_num, by omega, hp4, by omega, hide (by rw [List.append_assoc]; exact hF.out), by simp; omega, k3, k1, k2, k4, ?_⟩, by simp [intOf]; omega⟩
          rw [tokCs_snoc, List.length_append]
          simpa [tokC, hlen, hlt] using hown5
        · have hpos : 0 < (atSpec bs mn mx win ch i).2 := by rcases hgood.1 with h | h; exact absurd h z; exact h
          have hend := hgood.2
          generalize hat : atSpec bs mn mx win ch i = q at *
          obtain ⟨td, tl⟩ := q
          simp only at hpos hend hT hF1 ⊢
          have t0 : W.cell? ⟨tb, 0, none⟩ = some (.int .u8 0) := hT.cell 0
          have t1 : W.cell? ⟨tb, 1, none⟩ = some (.int .i64 td) := hT.cell 1
          have t2 : W.cell? ⟨tb, 2, none⟩ = some (.int .i64 tl) := hT.cell 2
          have b2 : W.cell? ⟨w.heap.size, 2, none⟩ = some (.int .i64 mx) := hV3.cell 2
          have b4 : W.cell? ⟨w.heap.size, 4, none⟩ = some (.bool lz) := hV3.cell 4
          have e0 : ((tl : Int) == 0) = false := by simp; omega
          cases lz with
          | false =>
            have hw : waits bs mn mx win ch false i = false := by simp [waits, hat]; omega
            rw [hw] at hF1
            simp only [Bool.false_eq_true, if_false] at hF1
            have hF := hide hF1
            clear hF1 hw hgood hat z
            go_quiet (fail)
            have hS4 := hS3.drawn ⟨⟨nq, rfl⟩⟩
            have hO4 := hO3.keep ((Chg.refl _ _).drewN nq)
            have hV4 := hV3.drewN nq
            have hb4 := below_drewN hb3 nq
            have hT4 := hT.drewN nq
            have hown4 : (W.drewN nq).ownsRow w.heap.size 67 3 u8 out.length (tokCs out) := hown3
            clear t0 t1 t2 b2 b4 hT hS3 hO3 hV3 hown3 hb3
            generalize W.drewN nq = W4 at hS4 hO4 hV4 hb4 hown4 hT4 ⊢
            obtain ⟨p4, hp4, hS4⟩ : ∃ p4, p4 ≤ i + 1 ∧ FSt ⟨fb, mb, pb, win, mn, mx, ch, false, A, n, c, bs⟩ W4 p4 := ⟨i, by omega, hS4⟩
            have g0 : W4.cell? ⟨tb, 0, none⟩ = some (.int .u8 0) := hT4.cell 0
            have g1 : W4.cell? ⟨tb, 1, none⟩ = some (.int .i64 td) := hT4.cell 1
            have g2 : W4.cell? ⟨tb, 2, none⟩ = some (.int .i64 tl) := hT4.cell 2
            have hsz := hb4.size
            go_wp2_with (at_builtin; refine wpList_append_any _ rfl (.tmp 65) (.tmp 67) _ rfl w.heap.size 67 i0 _ 3 24 Try.underlying61 hi0 hz0 hz1 hz2 rfl (by omega) _ out.length (tokCs out) rfl (hown4.alloc _) (W4.heap.size + 1) (some ⟨W4.heap.size, 0, none⟩) 1 1 _ rfl (reads_new W4 _ _ 3 1 rfl) (by simp [Value.oneCell']) (by simp only [maxLen]; omega) (by omega) (by simp; omega) ?_; intro v5 w5 hown5 hg5 hat5; have s2 : w5.cell? ⟨tb, 2, none⟩ = some (.int .i64 tl) := ((hT4.alloc _).grown hg5 (fun e => hne e.symm)).cell 2)
            obtain ⟨k1, k2, k3, k4⟩ := step_keep hS4 hO4 hV4 hb4 hown4 _ hg5
            refine ⟨⟨i + tl, p4, f, out ++ [⟨0, td, tl⟩], by go_num, by omega, by omega, by omega, hide (by rw [List.append_assoc]; exact hF.out), by simp; omega, k3, k1, k2, k4, ?_⟩, by simp [intOf]; omega⟩
            rw [tokCs_snoc, List.length_append]
            simpa [tokC] using hown5
          | true =>
            by_cases hm : (tl : Int) < mx
            · have q1 : IntKind.i64.wrap ((i : Int) + 1) = i + 1 := IntWalk.i64_in _ (by omega)
              have hfl : ∀ (x y z : Value) (V : World), (Instr.field 67 (.agg #[x, y, z]) 2).run Try.prog V = .ok z V := tokField2
              go_region_held3 (fun w' => w'.cell? ⟨tb, 0, none⟩ = some (.int .u8 0) ∧ w'.cell? ⟨tb, 1, none⟩ = some (.int .i64 (td : Int)) ∧ w'.cell? ⟨tb, 2, none⟩ = some (.int .i64 (tl : Int)) ∧ w'.cell? ⟨w.heap.size, 2, none⟩ = some (.int .i64 mx) ∧ w'.cell? ⟨w.heap.size, 4, none⟩ = some (.bool true)) (first | exact ⟨t0, t1, t2, b2, b4⟩ | exact hu) (first | (go_at_call 41; refine (at_any2 ⟨fb, mb, pb, win, mn, mx, ch, true, A, n, c, bs⟩ _ w.heap.size i (i + 1) _ (hS3.drawn ⟨⟨1, rfl⟩⟩) (hO3.keep (Chg.refl _ _).drew) (by omega) (by omega) (by simp only; omega) (by simp only; omega)).mono ?_; rintro e w6 ⟨rfl, hS6, hC6⟩; have hu := held6 hC6 hT hV3 (by simp; omega) (shape_not hV3 hS3)))
              have hO6 := (hO3.keep (Chg.refl _ _).drew).keep hC6
              have hV6 := hC6.blk (hV3.drewN 1) (shape_not hV3 hS3)
              have hT6 := hC6.blk (hT.drewN 1) (by simp; omega)
              have hown6 := hC6.own (show (W.drewN 1).ownsRow w.heap.size 67 3 u8 out.length (tokCs out) from hown3) (own_not hS3 hown3)
              have hb6 := (below_drewN hb3 1).trans (hC6.below (by have := hb3.size; exact this) (fin_le hO3))
              have hO4 := hO6; have hV4 := hV6; have hT4 := hT6; have hown4 := hown6; have hb4 := hb6; have hS4 := hS6
              clear hO6 hV6 hT6 hown6 hb6 hS6 hC6 t0 t1 t2 b2 b4 hT hS3 hO3 hV3 hown3 hb3 hu hfl
              generalize w6 = W4 at hO4 hV4 hT4 hown4 hb4 hS4 ⊢
              obtain ⟨p4, hp4, hS4⟩ : ∃ p4, p4 ≤ i + 1 ∧ FSt ⟨fb, mb, pb, win, mn, mx, ch, true, A, n, c, bs⟩ W4 p4 := ⟨i + 1, by omega, hS4⟩
              by_cases hlong : tl < (atSpec bs mn mx win ch (i + 1)).2
              · have hw : waits bs mn mx win ch true i = true := by simp [waits, hat]; omega
                rw [if_pos hw] at hF1
                have hF := hide hF1
                clear hF1 hw
                obtain ⟨ad, rfl, _, hcell⟩ := hO4.text.ad (by simp only; omega)
                have cb : W4.cell? (ad.add i) = some (.int .u8 (bs.getD i 0)) := hcell i hlt
                have hsz := hb4.size
                clear hcell
                go_wp2_with (at_builtin; refine wpList_append_any _ rfl (.tmp 55) (.tmp 61) _ rfl w.heap.size 67 i0 _ 3 24 Try.underlying61 hi0 hz0 hz1 hz2 rfl (by omega) _ out.length (tokCs out) rfl (hown4.alloc _) (W4.heap.size + 1) (some ⟨W4.heap.size, 0, none⟩) 1 1 _ rfl (reads_new W4 _ _ 3 1 rfl) (by simp [Value.oneCell']) (by simp only [maxLen]; omega) (by omega) (by simp; omega) ?_; intro v5 w5 hown5 hg5 hat5)
                obtain ⟨k1, k2, k3, k4⟩ := step_keep hS4 hO4 hV4 hb4 hown4 _ hg5
                refine ⟨⟨i + 1, p4, f, out ++ [⟨bs.getD i 0, 0, 0⟩], by go_num, by omega, hp4, by omega, hide (by rw [List.append_assoc]; exact hF.out), by simp; omega, k3, k1, k2, k4, ?_⟩, by simp [intOf]; omega⟩
                rw [tokCs_snoc, List.length_append]
                simpa [tokC, hlen, hlt] using hown5
              · have hw : waits bs mn mx win ch true i = false := by simp [waits, hat]; omega
                rw [hw] at hF1
                simp only [Bool.false_eq_true, if_false] at hF1
                have hF := hide hF1
                clear hF1 hw hgood hat z
                have g0 : W4.cell? ⟨tb, 0, none⟩ = some (.int .u8 0) := hT4.cell 0
                have g1 : W4.cell? ⟨tb, 1, none⟩ = some (.int .i64 td) := hT4.cell 1
                have g2 : W4.cell? ⟨tb, 2, none⟩ = some (.int .i64 tl) := hT4.cell 2
                have hsz := hb4.size
                go_wp2_with (at_builtin; refine wpList_append_any _ rfl (.tmp 65) (.tmp 67) _ rfl w.heap.size 67 i0 _ 3 24 Try.underlying61 hi0 hz0 hz1 hz2 rfl (by omega) _ out.length (tokCs out) rfl (hown4.alloc _) (W4.heap.size + 1) (some ⟨W4.heap.size, 0, none⟩) 1 1 _ rfl (reads_new W4 _ _ 3 1 rfl) (by simp [Value.oneCell']) (by simp only [maxLen]; omega) (by omega) (by simp; omega) ?_; intro v5 w5 hown5 hg5 hat5; have s2 : w5.cell? ⟨tb, 2, none⟩ = some (.int .i64 tl) := ((hT4.alloc _).grown hg5 (fun e => hne e.symm)).cell 2)
                obtain ⟨k1, k2, k3, k4⟩ := step_keep hS4 hO4 hV4 hb4 hown4 _ hg5
                refine ⟨⟨i + tl, p4, f, out ++ [⟨0, td, tl⟩], by go_num, by omega, by omega, by omega, hide (by rw [List.append_assoc]; exact hF.out), by simp; omega, k3, k1, k2, k4, ?_⟩, by simp [intOf]; omega⟩
                rw [tokCs_snoc, List.length_append]
                simpa [tokC] using hown5
            · have hm2 : decide ((tl : Int) < mx) = false := by simp; omega
              have hw : waits bs mn mx win ch true i = false := by simp [waits, hat]; omega
              rw [hw] at hF1
              simp only [Bool.false_eq_true, if_false] at hF1
              have hF := hide hF1
              clear hF1 hw hgood hat z
              go_quiet (fail)
              have hS4 := hS3.drawn ⟨⟨nq, rfl⟩⟩
              have hO4 := hO3.keep ((Chg.refl _ _).drewN nq)
              have hV4 := hV3.drewN nq
              have hb4 := below_drewN hb3 nq
              have hT4 := hT.drewN nq
              have hown4 : (W.drewN nq).ownsRow w.heap.size 67 3 u8 out.length (tokCs out) := hown3
              clear t0 t1 t2 b2 b4 hT hS3 hO3 hV3 hown3 hb3
              generalize W.drewN nq = W4 at hS4 hO4 hV4 hb4 hown4 hT4 ⊢
              obtain ⟨p4, hp4, hS4⟩ : ∃ p4, p4 ≤ i + 1 ∧ FSt ⟨fb, mb, pb, win, mn, mx, ch, true, A, n, c, bs⟩ W4 p4 := ⟨i, by omega, hS4⟩
              have g0 : W4.cell? ⟨tb, 0, none⟩ = some (.int .u8 0) := hT4.cell 0
              have g1 : W4.cell? ⟨tb, 1, none⟩ = some (.int .i64 td) := hT4.cell 1
              have g2 : W4.cell? ⟨tb, 2, none⟩ = some (.int .i64 tl) := hT4.cell 2
              have hsz := hb4.size
              go_wp2_with (at_builtin; refine wpList_append_any _ rfl (.tmp 65) (.tmp 67) _ rfl w.heap.size 67 i0 _ 3 24 Try.underlying61 hi0 hz0 hz1 hz2 rfl (by omega) _ out.length (tokCs out) rfl (hown4.alloc _) (W4.heap.size + 1) (some ⟨W4.heap.size, 0, none⟩) 1 1 _ rfl (reads_new W4 _ _ 3 1 rfl) (by simp [Value.oneCell']) (by simp only [maxLen]; omega) (by omega) (by simp; omega) ?_; intro v5 w5 hown5 hg5 hat5; have s2 : w5.cell? ⟨tb, 2, none⟩ = some (.int .i64 tl) := ((hT4.alloc _).grown hg5 (fun e => hne e.symm)).cell 2)
              obtain ⟨k1, k2, k3, k4⟩ := step_keep hS4 hO4 hV4 hb4 hown4 _ hg5
              refine ⟨⟨i + tl, p4, f, out ++ [⟨0, td, tl⟩], by go_num, by omega, by omega, by omega, hide (by rw [List.append_assoc]; exact hF.out), by simp; omega, k3, k1, k2, k4, ?_⟩, by simp [intOf]; omega⟩
              rw [tokCs_snoc, List.length_append]
              simpa [tokC] using hown5
      · obtain rfl : i = n := by omega
        have hfin : out = findSpec bs mn mx win ch lz := by
          have := hF.out
          rw [← this]
          cases f with
          | zero => simp [findLoop]
          | succ f => rw [findLoop, if_neg (by omega)]; simp
        subst hfin
        go_wp2_with fail
        go_ret2
        exact ⟨_, rfl, hown, hbr⟩
end Go.Proofs.Ytplkdjbcdeakaaa

