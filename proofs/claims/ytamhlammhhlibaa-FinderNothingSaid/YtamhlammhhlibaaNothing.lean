/- The law FinderNothing, walked. -/
import Derived.Test.YtamhlammhhlibaaFinds
import Derived.Test.YtamhlammhhlibaaWithin9
import Derived.Test.YtamhlammhhlibaaLaw9b
namespace Go.Proofs.Ytamhlammhhlibaa
open Go.RowKit
attribute [local go_sem ↓] Go.wp_at_zero Go.wp_at_succ

theorem shape_loose {w w' : World} {B : Nat} {cs : Array Value} (h : Blk w B 24 cs) (hb : Below w.heap.size w w') :
    w'.frozen? ⟨B, 0, none⟩ = false ∧ w'.frozen? ⟨B, 1, none⟩ = false ∧ w'.frozen? ⟨B, 2, none⟩ = false ∧ w'.frozen? ⟨B, 3, none⟩ = false ∧ w'.frozen? ⟨B, 4, none⟩ = false := by
  have a := h.below hb h.lt
  exact ⟨a.frozen 0, a.frozen 1, a.frozen 2, a.frozen 3, a.frozen 4⟩

theorem RN.piece {k : IntKind} {w : World} {B n : Nat} {A : Option Addr} {xs : List Int} (h : RN k w B A n xs) {i m : Nat} (hi : i + m ≤ n) (hm : 0 < m) : RN k w B (A.map fun x => x.add i) m (piece xs i m) := by
  have a := Reads.cut (cap := n) h (show i ≤ n by omega) (Nat.le_refl _)
  rw [if_neg (by omega)] at a
  have b := Reads.take a (show m ≤ n - i by omega)
  simp only [Nat.mul_one] at b
  have e : (List.take m (List.drop i (nums k xs))) = nums k (Proofs.Ytamhlammhhlibaa.piece xs i m) := by simp [nums, Proofs.Ytamhlammhhlibaa.piece, List.map_take, List.map_drop]
  rw [e] at b
  exact b
theorem same_piece (w : World) (A : Option Addr) (n ci ck B i k m : Nat) (xs : List Int) (h : RN .u8 w B A n xs) (hi : i + m ≤ n) (hk : k + m ≤ n) (hm : m = 2 ∨ m = 3) :
    Calls Try.prog 14 #[.slice (A.map fun x => x.add i) m ci, .slice (A.map fun x => x.add k) m ck] w fun e w' => e = .returned (.bool (eqL (piece xs i m) (piece xs k m))) ∧ Drawn w w' :=
  same01_any w _ _ m ci m ck B B _ _ (h.piece hi (by omega)) (h.piece hk (by omega)) (by omega) (by omega)

set_option maxHeartbeats 4000000 in
set_option maxRecDepth 100000 in
theorem nothing_any (w : World) (A : Option Addr) (n c : Nat) (win mn mx ch : Int) (lz : Bool) (bs : List Int) (ht : RN .u8 w w.heap.size A n bs) (hb : ∀ x ∈ bs, 0 ≤ x ∧ x ≤ 255) (hnc : n ≤ c) :
    Calls Try.prog 5 #[.slice A n c, .agg #[.int .i64 win, .int .i64 mn, .int .i64 mx, .int .i64 ch, .bool lz]] w fun e w' => e = .returned (.bool true) ∧ Below w.heap.size w w' := by
  have HK := hide (within_ok win mn mx ch)
  have hB := hide hb
  clear hb
  go_enter Try.func5, Try.ntmps5
  go_upto_region 1 with fail
  go_cut [0] (fun s0 wx => s0 = .slice A (min n 200) c ∧ Below w.heap.size w wx ∧ Blk wx w.heap.size 24 #[.int .i64 (sWin win), .int .i64 (sMin mn), .int .i64 (sMax mx (sMin mn)), .int .i64 (sCh ch), .bool lz])
  case first =>
    have hV := Blk.new w 24 #[.int .i64 win, .int .i64 mn, .int .i64 mx, .int .i64 ch, .bool lz]
    go_region_with (first | (go_at_call 7; refine (cut_any _ A n c 200 hnc (by omega)).mono ?_; rintro e w1 ⟨rfl, rfl⟩) | (go_at_call 16; refine (withinS_any _ win mn mx ch lz).mono ?_; rintro e w2 ⟨rfl, hb2⟩; obtain ⟨a0, a1, a2, a3, a4⟩ := shape_hold (hV.drewN 1) hb2; obtain ⟨z0, z1, z2, z3, z4⟩ := shape_loose (hV.drewN 1) hb2))
    all_goals
      go_wp2_with fail
      go_meet
      have hb3 : Below w.heap.size w w2 := ((Below.refl _ _).alloc (Nat.le_refl _) _).drew.trans (hb2.mono (by simp))
      exact ⟨rfl, below_set5 hb3 (Nat.le_refl _) _ _ _ _ _, blk_set5 ((hV.drewN 1).below hb2 hV.lt) _ _ _ _ _⟩
  case rest =>
    obtain ⟨rfl, hbc, hVc⟩ := hcut
    have hm : min n 200 ≤ 200 := Nat.min_le_right _ _
    have hmn : min n 200 ≤ n := Nat.min_le_left _ _
    have ht1 := ht.cutN hmn
    have hbx : ∀ x ∈ bs.take (min n 200), 0 ≤ x ∧ x ≤ 255 := fun x hx => hB.out x (List.mem_of_mem_take hx)
    replace hbx := hide hbx
    have hmc : min n 200 ≤ c := Nat.le_trans hmn hnc
    generalize min n 200 = m at ht1 hm hmn hbx hmc ⊢
    generalize bs.take m = ys at ht1 hbx
    have h2 := clampI_bd (x := mn) (lo := 2) (hi := 3) (by omega)
    obtain ⟨μ, hμ⟩ : ∃ μ : Nat, clampI mn 2 3 = μ := ⟨(clampI mn 2 3).toNat, by omega⟩
    have hμ2 : μ = 2 ∨ μ = 3 := by omega
    change sMin mn = μ at hμ
    rw [hμ] at HK hVc
    generalize sWin win = x0 at HK hVc
    generalize sMax mx μ = x2 at HK hVc
    generalize sCh ch = x3 at HK hVc
    have hok := HK.out
    simp only [shapeOk, decide_eq_true_eq] at hok
    clear h2 hμ ht hB
    have hyl := hide ht1.len
    go_wp2_with fail
    go_loopw [5, 6] (fun v5 v6 wr => ∃ (i : Nat) (tw : Bool), v6 = .int .i64 i ∧ v5 = .bool tw ∧ i ≤ m + 1 ∧ Hid (tw = false → NoTwice ys μ x0 i) ∧ Below w.heap.size w wr ∧ Blk wr w.heap.size 24 #[.int .i64 x0, .int .i64 μ, .int .i64 x2, .int .i64 x3, .bool lz]) (fun _ v6 _ => m + 1 - (intOf v6).toNat)
    case atStart => exact ⟨0, false, rfl, rfl, by omega, hide (fun _ i hi => absurd hi (by omega)), hbc, hVc⟩
    case round =>
      obtain ⟨i, tw, rfl, rfl, hi, hT, hbr, hVr⟩ := hrel
      have c0 : wr.cell? ⟨w.heap.size, 0, none⟩ = some (.int .i64 x0) := hVr.cell 0
      have c1 : wr.cell? ⟨w.heap.size, 1, none⟩ = some (.int .i64 μ) := hVr.cell 1
      have c3 : wr.cell? ⟨w.heap.size, 3, none⟩ = some (.int .i64 x3) := hVr.cell 3
      by_cases hlt : i + μ ≤ m
      · have q0 : (i : Int) + μ ≤ m := by omega
        go_wp2_with fail
        go_loopw [5, 7] (fun v5 v7 wq => ∃ (k : Nat) (tw : Bool), v7 = .int .i64 k ∧ v5 = .bool tw ∧ k ≤ i ∧ Hid (tw = false → NoTwice ys μ x0 i ∧ ∀ q, q < k → (i : Int) - q ≤ x0 → piece ys i μ ≠ piece ys q μ) ∧ Drawn wr wq) (fun _ v7 _ => i - (intOf v7).toNat)
        case atStart => exact ⟨0, tw, rfl, rfl, by omega, hide (fun e => ⟨hT.out e, fun q hq => absurd hq (by omega)⟩), Drawn.refl _⟩
        case round =>
          obtain ⟨k, tq, rfl, rfl, hk, hQ, hdq⟩ := hrel
          replace hbr := hbr.trans ((hdq.below _).mono hbr.size)
          replace hVr := hVr.drawn hdq
          clear c0 c1 c3 hT
          rename_i wr0
          have c0 : wr.cell? ⟨w.heap.size, 0, none⟩ = some (.int .i64 x0) := hVr.cell 0
          have c1 : wr.cell? ⟨w.heap.size, 1, none⟩ = some (.int .i64 μ) := hVr.cell 1
          by_cases hlk : k < i
          · have q1 : (k : Int) < i := by omega
            have q2 : IntKind.i64.wrap ((i : Int) + μ) = (i : Int) + μ := IntWalk.i64_in _ (by omega)
            have q3 : IntKind.i64.wrap ((k : Int) + μ) = (k : Int) + μ := IntWalk.i64_in _ (by omega)
            have q4 : IntKind.i64.wrap ((i : Int) - k) = (i : Int) - k := IntWalk.i64_in _ (by omega)
            have q5 : (k : Int) + μ ≤ m := by omega
            have n2 : ((i : Int) + μ).toNat = i + μ := by omega
            have n3 : ((k : Int) + μ).toNat = k + μ := by omega
            have w2 : ¬ c = i := by omega
            have w3 : ¬ c = k := by omega
            cases tq with
            | true =>
              go_wp2_with fail
              go_quiet (fail)
              go_wp2_with fail
              refine ⟨⟨k + 1, true, by go_num, rfl, by omega, hide (fun e => absurd e (by decide)), hdq.step _⟩, by simp [intOf]; omega⟩
            | false =>
              by_cases hd : (i : Int) - k ≤ x0
              · go_wp2_with fail
                go_quiet ((go_at_call 14; first | exact quiet_drawn (same_piece _ A m _ _ w.heap.size i k μ ys (ht1.below hbr) hlt (by omega) hμ2) | exact quiet_drawn0 (same_piece _ A m _ _ w.heap.size i k μ ys ((ht1.below hbr).drawn ⟨⟨_, rfl⟩⟩) hlt (by omega) hμ2)))
                go_wp2_with fail
                refine ⟨⟨k + 1, eqL (piece ys i μ) (piece ys k μ), by go_num, rfl, by omega, hide (fun e => ⟨(hQ.out (by simp)).1, fun q hq hdw => ?_⟩), hdq.step _⟩, by simp [intOf]; omega⟩
                by_cases e2 : q = k
                · subst e2; simpa [eqL] using e
                · exact (hQ.out (by simp)).2 q (by omega) hdw
              · have hdd : decide ((i : Int) - k ≤ x0) = false := by simpa using hd
                go_wp2_with fail
                go_quiet (fail)
                go_wp2_with fail
                refine ⟨⟨k + 1, false, by go_num, rfl, by omega, hide (fun e => ⟨(hQ.out (by simp)).1, fun q hq hdw => ?_⟩), hdq.step _⟩, by simp [intOf]; omega⟩
                by_cases e2 : q = k
                · subst e2; omega
                · exact (hQ.out (by simp)).2 q (by omega) hdw
          · obtain rfl : k = i := by omega
            go_wp2_with fail
            refine ⟨⟨k + 1, tq, by go_num, rfl, by omega, hide (fun e i' hi' => ?_), hbr, hVr⟩, by simp [intOf]; omega⟩
            by_cases e2 : i' = k
            · subst e2; exact (hQ.out e).2
            · exact (hQ.out e).1 i' (by omega)
      · have hTm : Hid (tw = false → NoTwice ys μ x0 (ys.length + 1 - μ)) := hide (fun e a ha => hT.out e a (by have := hyl.out; omega))
        clear hT
        have hmd := hide hok
        have c2 : wr.cell? ⟨w.heap.size, 2, none⟩ = some (.int .i64 x2) := hVr.cell 2
        have c4 : wr.cell? ⟨w.heap.size, 4, none⟩ = some (.bool lz) := hVr.cell 4
        have hsplit : (tw = true ∧ 0 < x3) ∨ (Hid (findSpec ys μ x2 x0 x3 lz = ys.map fun x => ⟨x, 0, 0⟩) ∧ (tw = false ∨ (tw = true ∧ x3 ≤ 0))) := by
          by_cases hch : x3 ≤ 0
          · exact .inr ⟨hide (find_all_bytes hμ2 (.inl hch)), by cases tw <;> simp [hch]⟩
          · cases tw with
            | true => exact .inl ⟨rfl, by omega⟩
            | false => exact .inr ⟨hide (find_all_bytes hμ2 (.inr (hTm.out rfl))), .inl rfl⟩
        clear hTm hok
        rcases hsplit with ⟨rfl, h0⟩ | ⟨hF, hs⟩
        · have d0 : decide (0 < x3) = true := by simpa using h0
          clear h0
          go_wp2_with fail
          refine (lives_any _).mono ?_
          rintro e w1 ⟨rfl, hb1⟩
          go_wp2_with fail
          go_ret
          exact ⟨rfl, hbr.trans (hb1.mono hbr.size)⟩
        · have d0 : tw = true → decide (0 < x3) = false := by
            rcases hs with rfl | ⟨rfl, h0⟩
            · intro h; cases h
            · intro _; simpa using h0
          clear hs
          cases tw
          case' true => replace d0 := d0 rfl
          all_goals
            go_wp2_with fail
            refine (find_yes wr A m c x0 μ x2 x3 lz ys HK.out ((ht1.below hbr).more hbr.size) hbx.out hmc (by omega)).mono ?_
            rintro e w3 ⟨v3, rfl, hown3, hb3⟩
            obtain ⟨A3, c3', rfl, hc3⟩ := own_form hown3
            have hr3 := Reads.of_own hown3
            rw [hF.out] at hr3 ⊢
            rw [List.length_map, hyl.out] at hr3 ⊢
            have hb4 := hbr.trans (hb3.mono hbr.size)
            have ht3 := ht1.below hb4
            clear hown3 hF c0 c1 c2 c3 c4 HK hVr hbr
            have hz : ((m : Int) != m) = false := by simp
            go_wp2_with fail
            go_loopw [10] (fun v10 wq => ∃ k : Nat, v10 = .int .i64 k ∧ k ≤ m ∧ Below w.heap.size w wq ∧ Drawn w3 wq) (fun v10 _ => m - (intOf v10).toNat)
            case atStart => exact ⟨0, rfl, by omega, hb4, Drawn.refl _⟩
            case round =>
              obtain ⟨k, rfl, hk, hbq, hdq⟩ := hrel
              by_cases hlk : k < m
              · have q1 : (k : Int) < m := by omega
                obtain ⟨b3, o3, rfl, _, h3⟩ := hr3.plain (by omega) (by omega)
                obtain ⟨ad, rfl, _, hcb⟩ := ht3.ad (by omega)
                obtain ⟨t0, t1, t2⟩ := tokCs_get (ys.map fun x => (⟨x, 0, 0⟩ : Tok)) k (by simp [hyl.out]; omega)
                have e0 := (hdq.cell _).trans (h3 _ _ t0)
                have e1 := (hdq.cell _).trans (h3 _ _ t1)
                have e2 := (hdq.cell _).trans (h3 _ _ t2)
                have e3 := (hdq.cell _).trans (hcb k hlk)
                simp only [List.getElem_map] at e0 e1 e2
                rw [List.getD_eq_getElem?_getD, List.getElem?_eq_getElem (show k < ys.length by rw [hyl.out]; omega), Option.getD_some] at e3
                generalize ys[k]'(by rw [hyl.out]; omega) = y at e0 e3
                rw [← Nat.add_assoc] at e1 e2
                clear t0 t1 t2 h3 hcb hr3 ht3
                go_wp2_with fail
                go_quiet (fail)
                go_wp2_with fail
                exact ⟨⟨k + 1, by go_num, by omega, below_drewN hbq _, hdq.step _⟩, by simp [intOf]; omega⟩
              · obtain rfl : k = m := by omega
                clear hr3 ht3
                go_wp2_with fail
                refine (lives_any _).mono ?_
                rintro e w9 ⟨rfl, hb9⟩
                go_wp2_with fail
                go_ret
                exact ⟨rfl, hbq.trans (hb9.mono hbq.size)⟩
end Go.Proofs.Ytamhlammhhlibaa
