/- The law FinderTells, walked. -/
import Derived.Test.YtamhlammhhlibaaFinds
import Derived.Test.YtamhlammhhlibaaWithin9
import Derived.Test.YtamhlammhhlibaaLaw9d
namespace Go.Proofs.Ytamhlammhhlibaa
open Go.RowKit
attribute [local go_sem ↓] Go.wp_at_zero Go.wp_at_succ

theorem shape_loose3 {w w' : World} {B : Nat} {cs : Array Value} (h : Blk w B 24 cs) (hb : Below w.heap.size w w') :
    w'.frozen? ⟨B, 0, none⟩ = false ∧ w'.frozen? ⟨B, 1, none⟩ = false ∧ w'.frozen? ⟨B, 2, none⟩ = false ∧ w'.frozen? ⟨B, 3, none⟩ = false ∧ w'.frozen? ⟨B, 4, none⟩ = false := by
  have a := h.below hb h.lt
  exact ⟨a.frozen 0, a.frozen 1, a.frozen 2, a.frozen 3, a.frozen 4⟩

theorem size_is (w : World) (A : Option Addr) (n c : Nat) (l : List Tok) (s : Int) (hs : sizeT l = s) (hl : l.length = n) (hx : Reads w w.heap.size 3 A n (tokCs l)) (hp : ∀ t ∈ l, 0 ≤ t.len) (hb : s ≤ 1099511627776) (hn : n ≤ 1099511627776) :
    Calls Try.prog 20 #[.slice A n c] w fun e w' => e = .returned (.int .i64 s) ∧ Below w.heap.size w w' := by
  subst hs
  exact size_ok w A n c l hl hx hp hb hn

set_option maxHeartbeats 4000000 in
set_option maxRecDepth 100000 in
theorem tells_any (w : World) (A : Option Addr) (n c : Nat) (win mn mx ch : Int) (lz : Bool) (bs : List Int) (ht : RN .u8 w w.heap.size A n bs) (hb : ∀ x ∈ bs, 0 ≤ x ∧ x ≤ 255) (hnc : n ≤ c) :
    Calls Try.prog 6 #[.slice A n c, .agg #[.int .i64 win, .int .i64 mn, .int .i64 mx, .int .i64 ch, .bool lz]] w fun e w' => e = .returned (.bool true) ∧ Below w.heap.size w w' := by
  have HK := hide (within_ok win mn mx ch)
  have hB := hide hb
  clear hb
  go_enter Try.func6, Try.ntmps6
  go_upto_region 1 with fail
  go_cut [0] (fun s0 wx => s0 = .slice A (min n 2000) c ∧ Below w.heap.size w wx ∧ Blk wx w.heap.size 24 #[.int .i64 (sWin win), .int .i64 (sMin mn), .int .i64 (sMax mx (sMin mn)), .int .i64 (sCh ch), .bool lz])
  case first =>
    have hV := Blk.new w 24 #[.int .i64 win, .int .i64 mn, .int .i64 mx, .int .i64 ch, .bool lz]
    go_region_with (first | (go_at_call 7; refine (cut_any _ A n c 2000 hnc (by omega)).mono ?_; rintro e w1 ⟨rfl, rfl⟩) | (go_at_call 16; refine (withinS_any _ win mn mx ch lz).mono ?_; rintro e w2 ⟨rfl, hb2⟩; obtain ⟨a0, a1, a2, a3, a4⟩ := shape_hold (hV.drewN 1) hb2; obtain ⟨z0, z1, z2, z3, z4⟩ := shape_loose3 (hV.drewN 1) hb2))
    all_goals
      go_wp2_with fail
      go_meet
      have hb3 : Below w.heap.size w w2 := ((Below.refl _ _).alloc (Nat.le_refl _) _).drew.trans (hb2.mono (by simp))
      exact ⟨rfl, below_set5 hb3 (Nat.le_refl _) _ _ _ _ _, blk_set5 ((hV.drewN 1).below hb2 hV.lt) _ _ _ _ _⟩
  case rest =>
    obtain ⟨rfl, hbc, hVc⟩ := hcut
    have hm : min n 2000 ≤ 2000 := Nat.min_le_right _ _
    have hmn : min n 2000 ≤ n := Nat.min_le_left _ _
    have ht1 := ht.cutN hmn
    have hbx : ∀ x ∈ bs.take (min n 2000), 0 ≤ x ∧ x ≤ 255 := fun x hx => hB.out x (List.mem_of_mem_take hx)
    replace hbx := hide hbx
    have hmc : min n 2000 ≤ c := Nat.le_trans hmn hnc
    generalize min n 2000 = m at ht1 hm hmn hbx hmc ⊢
    generalize bs.take m = ys at ht1 hbx
    generalize sWin win = x0 at HK hVc
    generalize sMax mx (sMin mn) = x2 at HK hVc
    generalize sMin mn = x1 at HK hVc
    generalize sCh ch = x3 at HK hVc
    have hok := HK.out
    simp only [shapeOk, decide_eq_true_eq] at hok
    obtain ⟨k1, k2, k3, k4, k5, k6, k7, k8⟩ := hok
    clear ht hB
    have hyl := hide ht1.len
    obtain ⟨a0, a1, a2, a3, a4⟩ := shape_hold hVc (Below.refl _ _)
    go_wp2_with fail
    refine (find_yes _ A m c x0 x1 x2 x3 lz ys HK.out ((ht1.below hbc).more hbc.size) hbx.out hmc (by omega)).mono ?_
    rintro e w3 ⟨v3, rfl, hown3, hb3⟩
    obtain ⟨A3, c3, rfl, hc3⟩ := own_form hown3
    clear a0 a1 a2 a3 a4
    obtain ⟨a0, a1, a2, a3, a4⟩ := shape_hold hVc hb3
    have hV3 := hVc.below hb3 hVc.lt
    have hbw3 := hbc.trans (hb3.mono hbc.size)
    have hr3 := Reads.of_own hown3
    have hF := find_tells (bs := ys) (mn := x1) (mx := x2) (win := x0) (ch := x3) (lz := lz) (by omega) k5 ys.length 0 (by omega) (by omega)
    rw [show findLoop ys x1 x2 x0 x3 lz ys.length 0 = findSpec ys x1 x2 x0 x3 lz from rfl] at hF
    rw [List.take_zero, hyl.out] at hF
    obtain ⟨f1, f2, f3, f4, f5⟩ := hF
    generalize findSpec ys x1 x2 x0 x3 lz = L at f1 f2 f3 f4 f5 hr3 ⊢
    replace f1 := hide f1
    replace f2 := hide f2
    replace f3 := hide f3
    replace f4 := hide f4
    have hLm : L.length ≤ m := by omega
    clear hown3 f5
    go_wp2_with fail
    refine (expand_ok w3 A3 L.length c3 x0 m false L rfl hr3 k1 k2 (by omega) (by omega) f2.out).mono ?_
    rintro e w4 ⟨v4, rfl, hb4, hown4⟩
    rw [f1.out] at hown4
    obtain ⟨A4, c4, rfl, hc4⟩ := own_form hown4
    rw [hyl.out] at hc4 hown4 ⊢
    clear a0 a1 a2 a3 a4
    have hS4 := shape_hold hV3 hb4
    have hV4 := hV3.below hb4 hV3.lt
    have hbw4 := hbw3.trans (hb4.mono hbw3.size)
    have hr34 := hr3.below hb4
    have hr4 : RN .u8 w4 w4.heap.size A4 m ys := Reads.of_own hown4
    have ht4 := ht1.below hbw4
    clear hown4 hV3 hbw3 hr3
    have hpp : ∀ t ∈ L, 0 ≤ t.len := fun t ht => by
      rcases f3.out t ht with h | h
      · omega
      · omega
    have f4' : sizeT L = m := by have := f4.out; omega
    have HF : Hid ((∀ t ∈ L, 0 ≤ t.len) ∧ sizeT L = m) := hide ⟨hpp, f4'⟩
    clear hpp f4' f4
    have q1 : (L.length : Int) ≤ m := by omega
    have q2 : ((m : Int) == m) = true := by simp
    go_wp2_with fail
    refine (same01_eq w4 A A4 m c m c4 w.heap.size w4.heap.size ys ys rfl ht4 hr4 (by omega) (by omega)).mono ?_
    rintro e w5 ⟨rfl, hd5⟩
    have hb5 : Below w4.heap.size w4 w5 := hd5.below _
    clear hS4
    obtain ⟨a0, a1, a2, a3, a4⟩ := shape_hold hV4 hb5
    go_wp2_with fail
    refine (fits_ok _ A3 L.length c3 x0 x1 x2 x3 lz L rfl ((hr34.below (hb5.mono hb4.size)).more (Nat.le_trans hb4.size hb5.size)) f3.out (by omega)).mono ?_
    rintro e w6 ⟨rfl, hb6⟩
    have hc6 := hb5.trans (hb6.mono hb5.size)
    go_wp2_with fail
    refine (size_is _ A3 L.length c3 L m HF.out.2 rfl ((hr34.below (hc6.mono hb4.size)).more (Nat.le_trans hb4.size hc6.size)) HF.out.1 (by omega) (by omega)).mono ?_
    rintro e w7 ⟨rfl, hb7⟩
    have hc7 := hc6.trans (hb7.mono hc6.size)
    go_wp2_with fail
    refine (lives_any _).mono ?_
    rintro e w8 ⟨rfl, hb8⟩
    have hc8 := hc7.trans (hb8.mono hc7.size)
    go_wp2_with fail
    go_ret
    exact ⟨rfl, hbw4.trans (hc8.mono hbw4.size)⟩
end Go.Proofs.Ytamhlammhhlibaa
