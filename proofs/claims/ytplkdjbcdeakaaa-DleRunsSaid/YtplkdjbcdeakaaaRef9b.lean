/- The document's own finder: Check, Find. -/
import Derived.Test.YtplkdjbcdeakaaaLaw9
import Derived.Test.YtplkdjbcdeakaaaFind6
namespace Go.Proofs.Ytplkdjbcdeakaaa
open Go.RowKit

theorem ret_bool {a b : Bool} (h : a = b) : Ending.returned (.bool a) = .returned (.bool b) := by rw [h]
theorem sh_last {win mn mx ch : Int} (h : 1 ≤ win ∧ win ≤ 65536 ∧ 2 ≤ mn ∧ mn ≤ 3 ∧ mn ≤ mx ∧ mx ≤ 65538 ∧ 0 ≤ ch) : decide (ch ≤ 4096) = shapeOk win mn mx ch := by
  simp [shapeOk, h]
theorem sh_no {win mn mx ch : Int} (h : ¬ (1 ≤ win ∧ win ≤ 65536 ∧ 2 ≤ mn ∧ mn ≤ 3 ∧ mn ≤ mx ∧ mx ≤ 65538 ∧ 0 ≤ ch ∧ ch ≤ 4096)) : false = shapeOk win mn mx ch := by
  rw [eq_comm, shapeOk, decide_eq_false_iff_not]; exact h

set_option maxHeartbeats 1000000 in
theorem rcheck_any (w : World) (win mn mx ch : Int) (lz : Bool) :
    Calls Try.prog 42 #[.agg #[.int .i64 win, .int .i64 mn, .int .i64 mx, .int .i64 ch, .bool lz]] w fun e w' => e = .returned (.bool (shapeOk win mn mx ch)) ∧ Below w.heap.size w w' := by
  go_enter Try.func42, Try.ntmps42
  go_wp2_with fail
  all_goals
    go_ret
    exact ⟨ret_bool (by first | exact sh_last ⟨by omega, by omega, by omega, by omega, by omega, by omega, by omega⟩ | exact sh_no (by omega)), (Below.refl _ _).alloc (Nat.le_refl _) _⟩

set_option maxHeartbeats 1000000 in
theorem rfind_no (w : World) (A : Option Addr) (n c : Nat) (win mn mx ch : Int) (lz : Bool) (h : shapeOk win mn mx ch = false) :
    Calls Try.prog 37 #[.slice A n c, .agg #[.int .i64 win, .int .i64 mn, .int .i64 mx, .int .i64 ch, .bool lz]] w fun e w' => e = .returned (.tuple #[.slice none 0 0, .int .i64 2]) ∧ Below w.heap.size w w' := by
  have hk := hide h
  clear h
  go_enter Try.func37, Try.ntmps37
  go_wp2_with fail
  refine (rcheck_any _ win mn mx ch lz).mono ?_
  rintro e w1 ⟨rfl, hb1⟩
  rw [hk.out]
  go_wp2_with fail
  go_ret2
  exact ⟨rfl, ((Below.refl _ _).alloc (Nat.le_refl _) _).trans (hb1.mono (by simp))⟩

theorem waits_zero {bs : List Int} {mn mx win ch : Int} {lz : Bool} {i td tl : Nat} (h : atSpec bs mn mx win ch i = (td, tl)) (hg : ((td, tl) = (0, 0) ∨ 0 < tl) ∧ i + tl ≤ bs.length) (h0 : tl = 0) : waits bs mn mx win ch lz i = true := by
  rcases hg.1 with e | e
  · simp only [waits, h, e]; simp
  · omega
theorem rat_any2 (w : World) (A : Option Addr) (n c : Nat) (win mn mx ch : Int) (lz : Bool) (bs : List Int) (i : Nat) (j : Int) (hb : RN .u8 w w.heap.size A n bs) (hj : j = i) (hn : n ≤ 140737488351232) (hi : i ≤ n) (hch : ch ≤ 4096) :
    Calls Try.prog 43 #[.slice A n c, .agg #[.int .i64 win, .int .i64 mn, .int .i64 mx, .int .i64 ch, .bool lz], .int .i64 j] w fun e w' =>
      e = .returned (.agg #[.int .u8 0, .int .i64 (refAt bs mn mx win ch i).1, .int .i64 (refAt bs mn mx win ch i).2]) ∧ Below w.heap.size w w' := by
  subst hj
  exact rat_any w A n c win mn mx ch lz bs i hb hn hi hch
theorem rheld6 {W w6 : World} {B tb : Nat} {td tl : Nat} {win mn mx ch : Int} {lz : Bool} (hC : Below (W.drewN 1).heap.size (W.drewN 1) w6) (hT : Blk W tb 67 #[.int .u8 0, .int .i64 td, .int .i64 tl]) (hV : Blk W B 65 #[.int .i64 win, .int .i64 mn, .int .i64 mx, .int .i64 ch, .bool lz]) :
    w6.cell? ⟨tb, 2, none⟩ = some (.int .i64 (tl : Int)) ∧ w6.cell? ⟨B, 0, none⟩ = some (.int .i64 win) ∧ w6.cell? ⟨B, 1, none⟩ = some (.int .i64 mn) ∧ w6.cell? ⟨B, 2, none⟩ = some (.int .i64 mx) ∧ w6.cell? ⟨B, 3, none⟩ = some (.int .i64 ch) ∧ w6.cell? ⟨B, 4, none⟩ = some (.bool lz) := by
  have a := (hT.drewN 1).below hC hT.lt
  have b := (hV.drewN 1).below hC hV.lt
  exact ⟨a.cell 2, b.cell 0, b.cell 1, b.cell 2, b.cell 3, b.cell 4⟩
theorem rstep_keep {w W w5 : World} {v : Value} {n : Nat} {xs : List Value} {sh : Array Value} (hV : Blk W w.heap.size 65 sh) (hb : Below w.heap.size w W)
    (hown : W.ownsRow w.heap.size 67 3 v n xs) (o : Obj) (hg : (W.alloc o).grownBy w5 v.ownBlock) : Blk w5 w.heap.size 65 sh ∧ Below w.heap.size w w5 := by
  have n4 := own_blk_ne hown hV (by decide)
  have hbb : Below w.heap.size W w5 := ((Below.refl _ _).alloc hb.size o).grown hg (by simp; have := hb.size; omega) (fun k hk => own_base hown k hk)
  exact ⟨(hV.alloc o).grown hg n4.symm, hb.trans hbb⟩

set_option maxHeartbeats 4000000 in
theorem rfind_yes (w : World) (A : Option Addr) (n c : Nat) (win mn mx ch : Int) (lz : Bool) (bs : List Int) (hok : shapeOk win mn mx ch = true) (ht : RN .u8 w w.heap.size A n bs) (hn : n ≤ 1099511627776) :
    Calls Try.prog 37 #[.slice A n c, .agg #[.int .i64 win, .int .i64 mn, .int .i64 mx, .int .i64 ch, .bool lz]] w fun e w' =>
      ∃ v, e = .returned (.tuple #[v, .int .i64 0]) ∧ w'.ownsRow w.heap.size 67 3 v (findSpec bs mn mx win ch lz).length (tokCs (findSpec bs mn mx win ch lz)) ∧ Below w.heap.size w w' := by
  obtain ⟨i0, hi0, hz0, hz1, hz2⟩ := info_parts tokInfo
  have hk := hide hok
  simp only [shapeOk, decide_eq_true_eq] at hok
  have hlen := ht.len
  go_enter Try.func37, Try.ntmps37
  go_wp2_with fail
  refine (rcheck_any _ win mn mx ch lz).mono ?_
  rintro e w1 ⟨rfl, hb1⟩
  rw [hk.out]
  clear hk
  have hV1 : Blk w1 w.heap.size 65 #[.int .i64 win, .int .i64 mn, .int .i64 mx, .int .i64 ch, .bool lz] := (Blk.new w _ _).below hb1 (by simp)
  have hbw1 : Below w.heap.size w w1 := ((Below.refl _ _).alloc (Nat.le_refl _) _).trans (hb1.mono (by simp))
  clear hb1
  go_wp2_with fail
  go_loopw [6, 7] (fun v6 v7 wr => ∃ (i f : Nat) (out : List Tok), v7 = .int .i64 i ∧ i ≤ n ∧ n ≤ i + f ∧ Hid (out ++ findLoop bs mn mx win ch lz f i = findSpec bs mn mx win ch lz) ∧ out.length ≤ i ∧ Blk wr w.heap.size 65 #[.int .i64 win, .int .i64 mn, .int .i64 mx, .int .i64 ch, .bool lz] ∧
      Below w.heap.size w wr ∧ wr.ownsRow w.heap.size 67 3 v6 out.length (tokCs out)) (fun _ v7 _ => n - (intOf v7).toNat)
  case atStart => exact ⟨0, bs.length, [], rfl, by omega, by omega, hide (by simp [findSpec]), by simp, hV1, hbw1, own_nil _ _ _ _⟩
  case round =>
    obtain ⟨i, f, out, rfl, hin, hnf, hF, hoi, hVr, hbr, hown⟩ := hrel
    clear hV1 hbw1
    by_cases hlt : i < n
    · have c0 : wr.cell? ⟨w.heap.size, 0, none⟩ = some (.int .i64 win) := hVr.cell 0
      have c1 : wr.cell? ⟨w.heap.size, 1, none⟩ = some (.int .i64 mn) := hVr.cell 1
      have c2 : wr.cell? ⟨w.heap.size, 2, none⟩ = some (.int .i64 mx) := hVr.cell 2
      have c3 : wr.cell? ⟨w.heap.size, 3, none⟩ = some (.int .i64 ch) := hVr.cell 3
      have c4 : wr.cell? ⟨w.heap.size, 4, none⟩ = some (.bool lz) := hVr.cell 4
      go_wp2_with fail
      refine (rat_any wr A n c win mn mx ch lz bs i ((ht.below hbr).more hbr.size) (by omega) hin (by omega)).mono ?_
      rintro e w2 ⟨rfl, hb2⟩
      rw [refAt_eq i (by omega) (by omega)]
      go_wp2_with fail
      have hgood := atSpec_good bs mn mx win ch i (by omega)
      have hF1 := hF.out
      obtain ⟨f, rfl⟩ : ∃ f', f = f' + 1 := ⟨f - 1, by omega⟩
      rw [findLoop, if_pos (by omega)] at hF1
      clear hF c0 c1 c2 c3 c4
      have hV2 := hVr.below hb2 hVr.lt
      have hown2 := (Chg.of_below hb2 []).own hown (by simp)
      have hbb := hbr.trans (hb2.mono hbr.size)
      have hT := Blk.new w2 67 #[Value.int .u8 0, Value.int .i64 (atSpec bs mn mx win ch i).1, Value.int .i64 (atSpec bs mn mx win ch i).2]
      have hV3 := hV2.alloc (Obj.cells #[Value.int .u8 0, Value.int .i64 (atSpec bs mn mx win ch i).1, Value.int .i64 (atSpec bs mn mx win ch i).2] 67)
      have hown3 := hown2.alloc (Obj.cells #[Value.int .u8 0, Value.int .i64 (atSpec bs mn mx win ch i).1, Value.int .i64 (atSpec bs mn mx win ch i).2] 67)
      have hb3 := hbb.alloc hbb.size (Obj.cells #[Value.int .u8 0, Value.int .i64 (atSpec bs mn mx win ch i).1, Value.int .i64 (atSpec bs mn mx win ch i).2] 67)
      have htb : w.heap.size < w2.heap.size := hV2.lt
      have hne : u6.ownBlock ≠ some w2.heap.size := fun e => by have := own_lt hown2 _ e; omega
      clear hown hbr hb2 hV2 hown2 hbb hVr
      generalize w2.alloc (Obj.cells #[Value.int .u8 0, Value.int .i64 (atSpec bs mn mx win ch i).1, Value.int .i64 (atSpec bs mn mx win ch i).2] 67) = W at hT hV3 hown3 hb3 ⊢
      generalize w2.heap.size = tb at hT htb hne ⊢
      clear w2
      have hend := hgood.2
      generalize hat : atSpec bs mn mx win ch i = q at *
      obtain ⟨td, tl⟩ := q
      simp only at hend hT hF1 ⊢
      have t0 : W.cell? ⟨tb, 0, none⟩ = some (.int .u8 0) := hT.cell 0
      have t1 : W.cell? ⟨tb, 1, none⟩ = some (.int .i64 td) := hT.cell 1
      have t2 : W.cell? ⟨tb, 2, none⟩ = some (.int .i64 tl) := hT.cell 2
      have b0 : W.cell? ⟨w.heap.size, 0, none⟩ = some (.int .i64 win) := hV3.cell 0
      have b1 : W.cell? ⟨w.heap.size, 1, none⟩ = some (.int .i64 mn) := hV3.cell 1
      have b2 : W.cell? ⟨w.heap.size, 2, none⟩ = some (.int .i64 mx) := hV3.cell 2
      have b3 : W.cell? ⟨w.heap.size, 3, none⟩ = some (.int .i64 ch) := hV3.cell 3
      have b4 : W.cell? ⟨w.heap.size, 4, none⟩ = some (.bool lz) := hV3.cell 4
      cases lz with
      | false =>
        go_quiet (fail)
        have hV4 := hV3.drewN nq
        have hb4 := below_drewN hb3 nq
        have hT4 := hT.drewN nq
        have hown4 : (W.drewN nq).ownsRow w.heap.size 67 3 u6 out.length (tokCs out) := hown3
        clear t0 t1 t2 b0 b1 b2 b3 b4 hT hV3 hown3 hb3
        generalize W.drewN nq = W4 at hV4 hb4 hown4 hT4 ⊢
        by_cases htl : tl = 0
        · have e0 : ((tl : Int) == 0) = true := by simp [htl]
          have hw : waits bs mn mx win ch false i = true := waits_zero hat hgood htl
          rw [if_pos hw] at hF1
          clear htl
          have hF := hide hF1
          clear hF1
          obtain ⟨ad, rfl, _, hcell⟩ := (ht.below hb4).ad (by omega)
          have cb : W4.cell? (ad.add i) = some (.int .u8 (bs.getD i 0)) := hcell i hlt
          have g2 : W4.cell? ⟨tb, 2, none⟩ = some (.int .i64 tl) := hT4.cell 2
          have hsz := hb4.size
          clear hcell
          go_wp2_with (at_builtin; refine wpList_append_any _ rfl (.tmp 59) (.tmp 65) _ rfl w.heap.size 67 i0 _ 3 24 Try.underlying61 hi0 hz0 hz1 hz2 rfl (by omega) _ out.length (tokCs out) rfl (hown4.alloc _) (W4.heap.size + 1) (some ⟨W4.heap.size, 0, none⟩) 1 1 _ rfl (reads_new W4 _ _ 3 1 rfl) (by simp [Value.oneCell']) (by simp only [maxLen]; omega) (by omega) (by simp; omega) ?_; intro v5 w5 hown5 hg5 hat5)
          obtain ⟨k3, k4⟩ := rstep_keep hV4 hb4 hown4 _ hg5
          refine ⟨⟨i + 1, f, out ++ [⟨bs.getD i 0, 0, 0⟩], by go_num, by omega, by omega, hide (by rw [List.append_assoc]; exact hF.out), by simp; omega, k3, k4, ?_⟩, by simp [intOf]; omega⟩
          rw [tokCs_snoc, List.length_append]
          simpa [tokC, hlen, hlt] using hown5
        · have e0 : ((tl : Int) == 0) = false := by simp; omega
          have hw : waits bs mn mx win ch false i = false := by simp [waits, hat]; omega
          rw [hw] at hF1
          simp only [Bool.false_eq_true, if_false] at hF1
          have hF := hide hF1
          clear hF1
          have g0 : W4.cell? ⟨tb, 0, none⟩ = some (.int .u8 0) := hT4.cell 0
          have g1 : W4.cell? ⟨tb, 1, none⟩ = some (.int .i64 td) := hT4.cell 1
          have g2 : W4.cell? ⟨tb, 2, none⟩ = some (.int .i64 tl) := hT4.cell 2
          have hsz := hb4.size
          go_wp2_with (at_builtin; refine wpList_append_any _ rfl (.tmp 69) (.tmp 71) _ rfl w.heap.size 67 i0 _ 3 24 Try.underlying61 hi0 hz0 hz1 hz2 rfl (by omega) _ out.length (tokCs out) rfl (hown4.alloc _) (W4.heap.size + 1) (some ⟨W4.heap.size, 0, none⟩) 1 1 _ rfl (reads_new W4 _ _ 3 1 rfl) (by simp [Value.oneCell']) (by simp only [maxLen]; omega) (by omega) (by simp; omega) ?_; intro v5 w5 hown5 hg5 hat5; have s2 : w5.cell? ⟨tb, 2, none⟩ = some (.int .i64 tl) := ((hT4.alloc _).grown hg5 (fun e => hne e.symm)).cell 2)
          obtain ⟨k3, k4⟩ := rstep_keep hV4 hb4 hown4 _ hg5
          refine ⟨⟨i + tl, f, out ++ [⟨0, td, tl⟩], by go_num, by omega, by omega, hide (by rw [List.append_assoc]; exact hF.out), by simp; omega, k3, k4, ?_⟩, by simp [intOf]; omega⟩
          rw [tokCs_snoc, List.length_append]
          simpa [tokC] using hown5
      | true =>
        by_cases hm : (tl : Int) < mx
        · by_cases hp : 0 < tl
          · by_cases hi1 : i + 1 < n
            · have q1 : IntKind.i64.wrap ((i : Int) + 1) = i + 1 := IntWalk.i64_in _ (by omega)
              have q2 : ((i : Int) + 1) < n := by omega
              have hfl : ∀ (x y z : Value) (V : World), (Instr.field 67 (.agg #[x, y, z]) 2).run Try.prog V = .ok z V := tokField2
              go_region_held3 (fun w' => (w'.cell? ⟨tb, 2, none⟩ = some (.int .i64 (tl : Int))) ∧ w'.cell? ⟨w.heap.size, 0, none⟩ = some (.int .i64 win) ∧ w'.cell? ⟨w.heap.size, 1, none⟩ = some (.int .i64 mn) ∧ w'.cell? ⟨w.heap.size, 2, none⟩ = some (.int .i64 mx) ∧ w'.cell? ⟨w.heap.size, 3, none⟩ = some (.int .i64 ch) ∧ w'.cell? ⟨w.heap.size, 4, none⟩ = some (.bool true)) (first | exact ⟨t2, b0, b1, b2, b3, b4⟩ | exact hu) (first | (go_at_call 43; refine (rat_any2 _ A n c win mn mx ch true bs (i + 1) _ (show RN .u8 (W.drewN 1) (W.drewN 1).heap.size A n bs from (ht.below hb3).more hb3.size) (by omega) (by omega) (by omega) (by omega)).mono ?_; rintro e w6 ⟨rfl, hb6⟩; have hu := rheld6 hb6 hT hV3))
              rw [refAt_eq (i + 1) (by omega) (by omega)]
              have hV4 := (hV3.drewN 1).below hb6 hV3.lt
              have hT4 := (hT.drewN 1).below hb6 hT.lt
              have hown4 := (Chg.of_below hb6 []).own (show (W.drewN 1).ownsRow w.heap.size 67 3 u6 out.length (tokCs out) from hown3) (by simp)
              have hb4 := (below_drewN hb3 1).trans (hb6.mono hb3.size)
              clear hb6 t0 t1 t2 b0 b1 b2 b3 b4 hT hV3 hown3 hb3 hu hfl
              generalize w6 = W4 at hV4 hT4 hown4 hb4 ⊢
              have e0 : ((tl : Int) == 0) = false := by simp; omega
              by_cases hlong : tl < (atSpec bs mn mx win ch (i + 1)).2
              · have hw : waits bs mn mx win ch true i = true := by simp [waits, hat]; omega
                rw [if_pos hw] at hF1
                have hF := hide hF1
                clear hF1
                obtain ⟨ad, rfl, _, hcell⟩ := (ht.below hb4).ad (by omega)
                have cb : W4.cell? (ad.add i) = some (.int .u8 (bs.getD i 0)) := hcell i hlt
                have g2 : W4.cell? ⟨tb, 2, none⟩ = some (.int .i64 tl) := hT4.cell 2
                have hsz := hb4.size
                clear hcell
                go_wp2_with (at_builtin; refine wpList_append_any _ rfl (.tmp 59) (.tmp 65) _ rfl w.heap.size 67 i0 _ 3 24 Try.underlying61 hi0 hz0 hz1 hz2 rfl (by omega) _ out.length (tokCs out) rfl (hown4.alloc _) (W4.heap.size + 1) (some ⟨W4.heap.size, 0, none⟩) 1 1 _ rfl (reads_new W4 _ _ 3 1 rfl) (by simp [Value.oneCell']) (by simp only [maxLen]; omega) (by omega) (by simp; omega) ?_; intro v5 w5 hown5 hg5 hat5)
                obtain ⟨k3, k4⟩ := rstep_keep hV4 hb4 hown4 _ hg5
                refine ⟨⟨i + 1, f, out ++ [⟨bs.getD i 0, 0, 0⟩], by go_num, by omega, by omega, hide (by rw [List.append_assoc]; exact hF.out), by simp; omega, k3, k4, ?_⟩, by simp [intOf]; omega⟩
                rw [tokCs_snoc, List.length_append]
                simpa [tokC, hlen, hlt] using hown5
              · have hw : waits bs mn mx win ch true i = false := by simp [waits, hat]; omega
                rw [hw] at hF1
                simp only [Bool.false_eq_true, if_false] at hF1
                have hF := hide hF1
                clear hF1
                have g0 : W4.cell? ⟨tb, 0, none⟩ = some (.int .u8 0) := hT4.cell 0
                have g1 : W4.cell? ⟨tb, 1, none⟩ = some (.int .i64 td) := hT4.cell 1
                have g2 : W4.cell? ⟨tb, 2, none⟩ = some (.int .i64 tl) := hT4.cell 2
                have hsz := hb4.size
                go_wp2_with (at_builtin; refine wpList_append_any _ rfl (.tmp 69) (.tmp 71) _ rfl w.heap.size 67 i0 _ 3 24 Try.underlying61 hi0 hz0 hz1 hz2 rfl (by omega) _ out.length (tokCs out) rfl (hown4.alloc _) (W4.heap.size + 1) (some ⟨W4.heap.size, 0, none⟩) 1 1 _ rfl (reads_new W4 _ _ 3 1 rfl) (by simp [Value.oneCell']) (by simp only [maxLen]; omega) (by omega) (by simp; omega) ?_; intro v5 w5 hown5 hg5 hat5; have s2 : w5.cell? ⟨tb, 2, none⟩ = some (.int .i64 tl) := ((hT4.alloc _).grown hg5 (fun e => hne e.symm)).cell 2)
                obtain ⟨k3, k4⟩ := rstep_keep hV4 hb4 hown4 _ hg5
                refine ⟨⟨i + tl, f, out ++ [⟨0, td, tl⟩], by go_num, by omega, by omega, hide (by rw [List.append_assoc]; exact hF.out), by simp; omega, k3, k4, ?_⟩, by simp [intOf]; omega⟩
                rw [tokCs_snoc, List.length_append]
                simpa [tokC] using hown5
            · obtain rfl : n = i + 1 := by omega
              have hx : decide ((i : Int) + 1 < ((i + 1 : Nat) : Int)) = false := by simp
              have hx2 : decide (IntKind.i64.wrap ((i : Int) + 1) < ((i + 1 : Nat) : Int)) = false := by rw [IntWalk.i64_in _ (by omega)]; simp
              have hend2 : atSpec bs mn mx win ch (i + 1) = (0, 0) := by unfold atSpec; rw [if_neg (by omega)]
              go_quiet (fail)
              have hV4 := hV3.drewN nq
              have hb4 := below_drewN hb3 nq
              have hT4 := hT.drewN nq
              have hown4 : (W.drewN nq).ownsRow w.heap.size 67 3 u6 out.length (tokCs out) := hown3
              clear t0 t1 t2 b0 b1 b2 b3 b4 hT hV3 hown3 hb3
              generalize W.drewN nq = W4 at hV4 hb4 hown4 hT4 ⊢
              have e0 : ((tl : Int) == 0) = false := by simp; omega
              have hw : waits bs mn mx win ch true i = false := by simp [waits, hat, hend2]; omega
              rw [hw] at hF1
              simp only [Bool.false_eq_true, if_false] at hF1
              have hF := hide hF1
              clear hF1
              have g0 : W4.cell? ⟨tb, 0, none⟩ = some (.int .u8 0) := hT4.cell 0
              have g1 : W4.cell? ⟨tb, 1, none⟩ = some (.int .i64 td) := hT4.cell 1
              have g2 : W4.cell? ⟨tb, 2, none⟩ = some (.int .i64 tl) := hT4.cell 2
              have hsz := hb4.size
              go_wp2_with (at_builtin; refine wpList_append_any _ rfl (.tmp 69) (.tmp 71) _ rfl w.heap.size 67 i0 _ 3 24 Try.underlying61 hi0 hz0 hz1 hz2 rfl (by omega) _ out.length (tokCs out) rfl (hown4.alloc _) (W4.heap.size + 1) (some ⟨W4.heap.size, 0, none⟩) 1 1 _ rfl (reads_new W4 _ _ 3 1 rfl) (by simp [Value.oneCell']) (by simp only [maxLen]; omega) (by omega) (by simp; omega) ?_; intro v5 w5 hown5 hg5 hat5; have s2 : w5.cell? ⟨tb, 2, none⟩ = some (.int .i64 tl) := ((hT4.alloc _).grown hg5 (fun e => hne e.symm)).cell 2)
              obtain ⟨k3, k4⟩ := rstep_keep hV4 hb4 hown4 _ hg5
              refine ⟨⟨i + tl, f, out ++ [⟨0, td, tl⟩], by go_num, by omega, by omega, hide (by rw [List.append_assoc]; exact hF.out), by simp; omega, k3, k4, ?_⟩, by simp [intOf]; omega⟩
              rw [tokCs_snoc, List.length_append]
              simpa [tokC] using hown5
          · obtain rfl : tl = 0 := by omega
            have hm0 : (0 : Int) < mx := by omega
            clear hm
            go_quiet (fail)
            have hV4 := hV3.drewN nq
            have hb4 := below_drewN hb3 nq
            have hT4 := hT.drewN nq
            have hown4 : (W.drewN nq).ownsRow w.heap.size 67 3 u6 out.length (tokCs out) := hown3
            clear t0 t1 t2 b0 b1 b2 b3 b4 hT hV3 hown3 hb3
            generalize W.drewN nq = W4 at hV4 hb4 hown4 hT4 ⊢
            have hw : waits bs mn mx win ch true i = true := waits_zero hat hgood rfl
            rw [if_pos hw] at hF1
            have e0 : ((((0 : Nat) : Int)) == 0) = true := by simp
            have hF := hide hF1
            clear hF1
            obtain ⟨ad, rfl, _, hcell⟩ := (ht.below hb4).ad (by omega)
            have cb : W4.cell? (ad.add i) = some (.int .u8 (bs.getD i 0)) := hcell i hlt
            have g2 : W4.cell? ⟨tb, 2, none⟩ = some (.int .i64 ((0 : Nat) : Int)) := hT4.cell 2
            have hsz := hb4.size
            clear hcell
            go_wp2_with (at_builtin; refine wpList_append_any _ rfl (.tmp 59) (.tmp 65) _ rfl w.heap.size 67 i0 _ 3 24 Try.underlying61 hi0 hz0 hz1 hz2 rfl (by omega) _ out.length (tokCs out) rfl (hown4.alloc _) (W4.heap.size + 1) (some ⟨W4.heap.size, 0, none⟩) 1 1 _ rfl (reads_new W4 _ _ 3 1 rfl) (by simp [Value.oneCell']) (by simp only [maxLen]; omega) (by omega) (by simp; omega) ?_; intro v5 w5 hown5 hg5 hat5)
            obtain ⟨k3, k4⟩ := rstep_keep hV4 hb4 hown4 _ hg5
            refine ⟨⟨i + 1, f, out ++ [⟨bs.getD i 0, 0, 0⟩], by go_num, by omega, by omega, hide (by rw [List.append_assoc]; exact hF.out), by simp; omega, k3, k4, ?_⟩, by simp [intOf]; omega⟩
            rw [tokCs_snoc, List.length_append]
            simpa [tokC, hlen, hlt] using hown5
        · have hx : decide ((tl : Int) < mx) = false := by simp; omega
          go_quiet (fail)
          have hV4 := hV3.drewN nq
          have hb4 := below_drewN hb3 nq
          have hT4 := hT.drewN nq
          have hown4 : (W.drewN nq).ownsRow w.heap.size 67 3 u6 out.length (tokCs out) := hown3
          clear t0 t1 t2 b0 b1 b2 b3 b4 hT hV3 hown3 hb3
          generalize W.drewN nq = W4 at hV4 hb4 hown4 hT4 ⊢
          have hw0 : waits bs mn mx win ch true i = decide (tl = 0) := by
            by_cases h : tl = 0
            · rw [waits_zero hat hgood h]; simp [h]
            · simp [waits, hat, h]; omega
          by_cases htl : tl = 0
          · have e0 : ((tl : Int) == 0) = true := by simp [htl]
            have hw : waits bs mn mx win ch true i = true := waits_zero hat hgood htl
            rw [if_pos hw] at hF1
            clear htl
            have hF := hide hF1
            clear hF1
            obtain ⟨ad, rfl, _, hcell⟩ := (ht.below hb4).ad (by omega)
            have cb : W4.cell? (ad.add i) = some (.int .u8 (bs.getD i 0)) := hcell i hlt
            have g2 : W4.cell? ⟨tb, 2, none⟩ = some (.int .i64 tl) := hT4.cell 2
            have hsz := hb4.size
            clear hcell
            go_wp2_with (at_builtin; refine wpList_append_any _ rfl (.tmp 59) (.tmp 65) _ rfl w.heap.size 67 i0 _ 3 24 Try.underlying61 hi0 hz0 hz1 hz2 rfl (by omega) _ out.length (tokCs out) rfl (hown4.alloc _) (W4.heap.size + 1) (some ⟨W4.heap.size, 0, none⟩) 1 1 _ rfl (reads_new W4 _ _ 3 1 rfl) (by simp [Value.oneCell']) (by simp only [maxLen]; omega) (by omega) (by simp; omega) ?_; intro v5 w5 hown5 hg5 hat5)
            obtain ⟨k3, k4⟩ := rstep_keep hV4 hb4 hown4 _ hg5
            refine ⟨⟨i + 1, f, out ++ [⟨bs.getD i 0, 0, 0⟩], by go_num, by omega, by omega, hide (by rw [List.append_assoc]; exact hF.out), by simp; omega, k3, k4, ?_⟩, by simp [intOf]; omega⟩
            rw [tokCs_snoc, List.length_append]
            simpa [tokC, hlen, hlt] using hown5
          · have e0 : ((tl : Int) == 0) = false := by simp; omega
            have hw : waits bs mn mx win ch true i = false := by simp [waits, hat]; omega
            rw [hw] at hF1
            simp only [Bool.false_eq_true, if_false] at hF1
            have hF := hide hF1
            clear hF1
            have g0 : W4.cell? ⟨tb, 0, none⟩ = some (.int .u8 0) := hT4.cell 0
            have g1 : W4.cell? ⟨tb, 1, none⟩ = some (.int .i64 td) := hT4.cell 1
            have g2 : W4.cell? ⟨tb, 2, none⟩ = some (.int .i64 tl) := hT4.cell 2
            have hsz := hb4.size
            go_wp2_with (at_builtin; refine wpList_append_any _ rfl (.tmp 69) (.tmp 71) _ rfl w.heap.size 67 i0 _ 3 24 Try.underlying61 hi0 hz0 hz1 hz2 rfl (by omega) _ out.length (tokCs out) rfl (hown4.alloc _) (W4.heap.size + 1) (some ⟨W4.heap.size, 0, none⟩) 1 1 _ rfl (reads_new W4 _ _ 3 1 rfl) (by simp [Value.oneCell']) (by simp only [maxLen]; omega) (by omega) (by simp; omega) ?_; intro v5 w5 hown5 hg5 hat5; have s2 : w5.cell? ⟨tb, 2, none⟩ = some (.int .i64 tl) := ((hT4.alloc _).grown hg5 (fun e => hne e.symm)).cell 2)
            obtain ⟨k3, k4⟩ := rstep_keep hV4 hb4 hown4 _ hg5
            refine ⟨⟨i + tl, f, out ++ [⟨0, td, tl⟩], by go_num, by omega, by omega, hide (by rw [List.append_assoc]; exact hF.out), by simp; omega, k3, k4, ?_⟩, by simp [intOf]; omega⟩
            rw [tokCs_snoc, List.length_append]
            simpa [tokC] using hown5
    · obtain rfl : i = n := by omega
      have hfin : out = findSpec bs mn mx win ch lz := by
        have := hF.out
        rw [← this]
        cases f with
        | zero => simp [findLoop]
        | succ f => rw [findLoop, if_neg (by omega)]; simp
      subst hfin
      go_wp2_with fail
      go_ret2
      exact ⟨_, rfl, hown, hbr⟩
end Go.Proofs.Ytplkdjbcdeakaaa

