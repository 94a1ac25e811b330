/- The law FinderFinds, walked. -/
import Derived.Test.YtamhlammhhlibaaLives9
import Derived.Test.YtamhlammhhlibaaRef9b
namespace Go.Proofs.Ytamhlammhhlibaa
open Go.RowKit

theorem RN.cutN {k : IntKind} {w : World} {B n : Nat} {A : Option Addr} {xs : List Int} (h : RN k w B A n xs) {m : Nat} (hm : m ≤ n) : RN k w B A m (xs.take m) := by
  have := Reads.take h hm
  unfold RN nums at *
  rw [List.map_take]
  simpa using this

theorem shape_hold {w w' : World} {B : Nat} {win mn mx ch : Int} {lz : Bool} (h : Blk w B 24 #[.int .i64 win, .int .i64 mn, .int .i64 mx, .int .i64 ch, .bool lz]) (hb : Below w.heap.size w w') :
    w'.cell? ⟨B, 0, none⟩ = some (.int .i64 win) ∧ w'.cell? ⟨B, 1, none⟩ = some (.int .i64 mn) ∧ w'.cell? ⟨B, 2, none⟩ = some (.int .i64 mx) ∧ w'.cell? ⟨B, 3, none⟩ = some (.int .i64 ch) ∧ w'.cell? ⟨B, 4, none⟩ = some (.bool lz) := by
  have a := h.below hb h.lt
  exact ⟨a.cell 0, a.cell 1, a.cell 2, a.cell 3, a.cell 4⟩

theorem check_ok (w : World) (win mn mx ch : Int) (lz : Bool) (h : shapeOk win mn mx ch = true) :
    Calls Try.prog 12 #[.agg #[.int .i64 win, .int .i64 mn, .int .i64 mx, .int .i64 ch, .bool lz]] w fun e w' => e = .returned (.int .i64 0) ∧ Below w.heap.size w w' :=
  (check_any w win mn mx ch lz).mono fun _ _ ⟨he, hb⟩ => ⟨by rw [he]; unfold chk; rw [if_pos h], hb⟩
theorem rcheck_ok (w : World) (win mn mx ch : Int) (lz : Bool) (h : shapeOk win mn mx ch = true) :
    Calls Try.prog 13 #[.agg #[.int .i64 win, .int .i64 mn, .int .i64 mx, .int .i64 ch, .bool lz]] w fun e w' => e = .returned (.bool true) ∧ Below w.heap.size w w' :=
  (rcheck_any w win mn mx ch lz).mono fun _ _ ⟨he, hb⟩ => ⟨by rw [he, h], hb⟩
theorem check_bad (w : World) (win mn mx ch : Int) (lz : Bool) (h : shapeOk win mn mx ch = false) :
    Calls Try.prog 12 #[.agg #[.int .i64 win, .int .i64 mn, .int .i64 mx, .int .i64 ch, .bool lz]] w fun e w' => e = .returned (.int .i64 2) ∧ Below w.heap.size w w' :=
  (check_any w win mn mx ch lz).mono fun _ _ ⟨he, hb⟩ => ⟨by rw [he]; unfold chk; rw [if_neg (by simp [h])], hb⟩
theorem rcheck_bad (w : World) (win mn mx ch : Int) (lz : Bool) (h : shapeOk win mn mx ch = false) :
    Calls Try.prog 13 #[.agg #[.int .i64 win, .int .i64 mn, .int .i64 mx, .int .i64 ch, .bool lz]] w fun e w' => e = .returned (.bool false) ∧ Below w.heap.size w w' :=
  (rcheck_any w win mn mx ch lz).mono fun _ _ ⟨he, hb⟩ => ⟨by rw [he, h], hb⟩
theorem same01_eq (w : World) (A A' : Option Addr) (n c n' c' B B' : Nat) (xs ys : List Int) (h : xs = ys) (hx : RN .u8 w B A n xs) (hy : RN .u8 w B' A' n' ys) (hn : n ≤ 140737488351232) (hn' : n' ≤ 140737488351232) :
    Calls Try.prog 14 #[.slice A n c, .slice A' n' c'] w fun e w' => e = .returned (.bool true) ∧ Drawn w w' :=
  (same01_any w A A' n c n' c' B B' xs ys hx hy hn hn').mono fun _ _ ⟨he, hd⟩ => ⟨by rw [he, h, eqL_refl], hd⟩

set_option maxHeartbeats 4000000 in
theorem finds_yes (w : World) (A : Option Addr) (n c : Nat) (win mn mx ch : Int) (lz : Bool) (bs : List Int) (hok : shapeOk win mn mx ch = true) (ht : RN .u8 w w.heap.size A n bs) (hb : ∀ x ∈ bs, 0 ≤ x ∧ x ≤ 255) (hnc : n ≤ c) :
    Calls Try.prog 3 #[.slice A n c, .agg #[.int .i64 win, .int .i64 mn, .int .i64 mx, .int .i64 ch, .bool lz]] w fun e w' => e = .returned (.bool true) ∧ Below w.heap.size w w' := by
  have HK := hide hok
  have hk : Hid (chk win mn mx ch = 0) := by show _ = _; unfold chk; rw [if_pos hok]
  clear hok
  have hB := hide hb
  clear hb
  go_enter Try.func3, Try.ntmps3
  go_wp2_with fail
  refine (cut_any _ A n c 250 hnc (by omega)).mono ?_
  rintro e w1 ⟨rfl, rfl⟩
  have hm : min n 250 ≤ 250 := Nat.min_le_right _ _
  have hmn : min n 250 ≤ n := Nat.min_le_left _ _
  have ht1 := ht.cutN hmn
  have hbx : ∀ x ∈ bs.take (min n 250), 0 ≤ x ∧ x ≤ 255 := fun x hx => hB.out x (List.mem_of_mem_take hx)
  replace hbx := hide hbx
  generalize min n 250 = m at ht1 hm hmn hbx ⊢
  generalize bs.take m = ys at ht1 hbx ⊢
  clear ht hB
  have hbw0 : Below w.heap.size w (w.alloc (Obj.cells #[.int .i64 win, .int .i64 mn, .int .i64 mx, .int .i64 ch, .bool lz] 24)) := (Below.refl _ _).alloc (Nat.le_refl _) _
  have hV0 := Blk.new w 24 #[.int .i64 win, .int .i64 mn, .int .i64 mx, .int .i64 ch, .bool lz]
  generalize w.alloc (Obj.cells #[.int .i64 win, .int .i64 mn, .int .i64 mx, .int .i64 ch, .bool lz] 24) = W0 at hbw0 hV0 ⊢
  go_wp2_with fail
  refine (copy_any W0 A m c ys ((ht1.below hbw0).more hbw0.size) (by omega)).mono ?_
  rintro e w2 ⟨v1, rfl, hown1, hb2⟩
  obtain ⟨A1, c1, rfl, hc1⟩ := own_form hown1
  obtain ⟨a0, a1, a2, a3, a4⟩ := shape_hold hV0 hb2
  have hV2 := hV0.below hb2 hV0.lt
  have hbw2 := hbw0.trans (hb2.mono hbw0.size)
  have hr1 : RN .u8 w2 w2.heap.size A1 m ys := Reads.of_own hown1
  clear hV0 hbw0 hb2 hown1
  go_wp2_with fail
  refine (find_yes w2 A1 m c1 win mn mx ch lz ys HK.out hr1 hbx.out hc1 (by omega)).mono ?_
  rintro e w3 ⟨v3, rfl, hown3, hb3⟩
  obtain ⟨A3, c3, rfl, hc3⟩ := own_form hown3
  clear a0 a1 a2 a3 a4
  obtain ⟨a0, a1, a2, a3, a4⟩ := shape_hold hV2 hb3
  have hV3 := hV2.below hb3 hV2.lt
  have hbw3 := hbw2.trans (hb3.mono hbw2.size)
  have hr13 := hr1.below hb3
  have hr3 := Reads.of_own hown3
  have hl3 := findLoop_len ys mn mx win ch lz ys.length 0
  have hyl := ht1.len
  clear hV2 hbw2 hr1 hown3
  go_wp2_with fail
  refine (rfind_yes w3 A m c win mn mx ch lz ys HK.out ((ht1.below hbw3).more hbw3.size) (by omega)).mono ?_
  rintro e w4 ⟨v4, rfl, hown4, hb4⟩
  obtain ⟨A4, c4, rfl, hc4⟩ := own_form hown4
  clear a0 a1 a2 a3 a4
  have hS4 := shape_hold hV3 hb4
  have hV4 := hV3.below hb4 hV3.lt
  have hbw4 := hbw3.trans (hb4.mono hbw3.size)
  have hr14 := hr13.below (hb4.mono hb3.size)
  have hr34 := hr3.below hb4
  have hr4 := Reads.of_own hown4
  have ht4 := ht1.below hbw4
  have hz24 : w2.heap.size ≤ w4.heap.size := Nat.le_trans hb3.size hb4.size
  clear hV3 hbw3 hr13 hr3 hown4 hb3 hb4 ht1
  change (findLoop ys mn mx win ch lz ys.length 0).length ≤ ys.length at hl3
  rw [show (findLoop ys mn mx win ch lz ys.length 0) = findSpec ys mn mx win ch lz from rfl] at hl3
  generalize findSpec ys mn mx win ch lz = L at hr34 hr4 hl3 ⊢
  go_wp2_with fail
  go_region_held3 (fun w' => w'.cell? ⟨w.heap.size, 0, none⟩ = some (.int .i64 win) ∧ w'.cell? ⟨w.heap.size, 1, none⟩ = some (.int .i64 mn) ∧ w'.cell? ⟨w.heap.size, 2, none⟩ = some (.int .i64 mx) ∧ w'.cell? ⟨w.heap.size, 3, none⟩ = some (.int .i64 ch) ∧ w'.cell? ⟨w.heap.size, 4, none⟩ = some (.bool lz)) (first | exact hS4 | exact hu5 | exact hu6 | exact hu7 | exact hu8 | exact hu9)
    (first
      | (go_at_call 11; refine (tsame_eq _ A3 A4 L.length c3 c4 w3.heap.size w4.heap.size L rfl (hr34.drawn ⟨⟨1, rfl⟩⟩) (hr4.drawn ⟨⟨1, rfl⟩⟩) (by omega)).mono ?_; rintro e w5 ⟨rfl, hd5⟩; have hb5 : Below w4.heap.size w4 w5 := (below_drewN (Below.refl _ _) 1).trans (hd5.below _); have hu5 := shape_hold hV4 hb5)
      | (go_at_call 12; refine (check_ok _ win mn mx ch lz HK.out).mono ?_; rintro e w6 ⟨rfl, hb6⟩; have hc6 := hb5.trans (hb6.mono hb5.size); have hu6 := shape_hold hV4 hc6)
      | (go_at_call 13; refine (rcheck_ok _ win mn mx ch lz HK.out).mono ?_; rintro e w7 ⟨rfl, hb7⟩; have hc7 := hc6.trans (hb7.mono hc6.size); have hu7 := shape_hold hV4 hc7)
      | (go_at_call 14; refine (same01_eq _ A1 A m c1 m c w2.heap.size w.heap.size ys ys rfl (hr14.below (hc7.mono hz24)) (ht4.below (hc7.mono hbw4.size)) (by omega) (by omega)).mono ?_; rintro e w8 ⟨rfl, hd8⟩; have hc8 := hc7.trans (hd8.below _); have hu8 := shape_hold hV4 hc8)
      | (go_at_call 15; refine (lives_any _).mono ?_; rintro e w9 ⟨rfl, hb9⟩; have hc9 := hc8.trans (hb9.mono hc8.size); have hu9 := shape_hold hV4 hc9))
  go_wp2_with fail
  go_ret
  exact ⟨rfl, hbw4.trans (hc9.mono hbw4.size)⟩
set_option maxHeartbeats 4000000 in
theorem finds_no (w : World) (A : Option Addr) (n c : Nat) (win mn mx ch : Int) (lz : Bool) (bs : List Int) (hok : shapeOk win mn mx ch = false) (ht : RN .u8 w w.heap.size A n bs) (hb : ∀ x ∈ bs, 0 ≤ x ∧ x ≤ 255) (hnc : n ≤ c) :
    Calls Try.prog 3 #[.slice A n c, .agg #[.int .i64 win, .int .i64 mn, .int .i64 mx, .int .i64 ch, .bool lz]] w fun e w' => e = .returned (.bool true) ∧ Below w.heap.size w w' := by
  have HK := hide hok
  clear hok
  have hB := hide hb
  clear hb
  go_enter Try.func3, Try.ntmps3
  go_wp2_with fail
  refine (cut_any _ A n c 250 hnc (by omega)).mono ?_
  rintro e w1 ⟨rfl, rfl⟩
  have hm : min n 250 ≤ 250 := Nat.min_le_right _ _
  have hmn : min n 250 ≤ n := Nat.min_le_left _ _
  have ht1 := ht.cutN hmn
  have hbx : ∀ x ∈ bs.take (min n 250), 0 ≤ x ∧ x ≤ 255 := fun x hx => hB.out x (List.mem_of_mem_take hx)
  replace hbx := hide hbx
  generalize min n 250 = m at ht1 hm hmn hbx ⊢
  generalize bs.take m = ys at ht1 hbx ⊢
  clear ht hB
  have hbw0 : Below w.heap.size w (w.alloc (Obj.cells #[.int .i64 win, .int .i64 mn, .int .i64 mx, .int .i64 ch, .bool lz] 24)) := (Below.refl _ _).alloc (Nat.le_refl _) _
  have hV0 := Blk.new w 24 #[.int .i64 win, .int .i64 mn, .int .i64 mx, .int .i64 ch, .bool lz]
  generalize w.alloc (Obj.cells #[.int .i64 win, .int .i64 mn, .int .i64 mx, .int .i64 ch, .bool lz] 24) = W0 at hbw0 hV0 ⊢
  go_wp2_with fail
  refine (copy_any W0 A m c ys ((ht1.below hbw0).more hbw0.size) (by omega)).mono ?_
  rintro e w2 ⟨v1, rfl, hown1, hb2⟩
  obtain ⟨A1, c1, rfl, hc1⟩ := own_form hown1
  obtain ⟨a0, a1, a2, a3, a4⟩ := shape_hold hV0 hb2
  have hV2 := hV0.below hb2 hV0.lt
  have hbw2 := hbw0.trans (hb2.mono hbw0.size)
  have hr1 : RN .u8 w2 w2.heap.size A1 m ys := Reads.of_own hown1
  clear hV0 hbw0 hb2 hown1
  go_wp2_with fail
  refine (find_no w2 A1 m c1 win mn mx ch lz HK.out).mono ?_
  rintro e w3 ⟨rfl, hb3⟩
  clear a0 a1 a2 a3 a4
  obtain ⟨a0, a1, a2, a3, a4⟩ := shape_hold hV2 hb3
  have hV3 := hV2.below hb3 hV2.lt
  have hbw3 := hbw2.trans (hb3.mono hbw2.size)
  have hr13 := hr1.below hb3
  clear hV2 hbw2 hr1
  go_wp2_with fail
  refine (rfind_no w3 A m c win mn mx ch lz HK.out).mono ?_
  rintro e w4 ⟨rfl, hb4⟩
  clear a0 a1 a2 a3 a4
  have hS4 := shape_hold hV3 hb4
  have hV4 := hV3.below hb4 hV3.lt
  have hbw4 := hbw3.trans (hb4.mono hbw3.size)
  have hr14 := hr13.below (hb4.mono hb3.size)
  have ht4 := ht1.below hbw4
  have hz24 : w2.heap.size ≤ w4.heap.size := Nat.le_trans hb3.size hb4.size
  clear hV3 hbw3 hr13 hb3 hb4 ht1
  go_wp2_with fail
  go_region_held3 (fun w' => w'.cell? ⟨w.heap.size, 0, none⟩ = some (.int .i64 win) ∧ w'.cell? ⟨w.heap.size, 1, none⟩ = some (.int .i64 mn) ∧ w'.cell? ⟨w.heap.size, 2, none⟩ = some (.int .i64 mx) ∧ w'.cell? ⟨w.heap.size, 3, none⟩ = some (.int .i64 ch) ∧ w'.cell? ⟨w.heap.size, 4, none⟩ = some (.bool lz)) (first | exact hS4 | exact hu5 | exact hu6 | exact hu7 | exact hu8 | exact hu9)
    (first
      | (go_at_call 11; refine (tsame_eq _ none none 0 0 0 0 0 [] rfl Reads.none_ Reads.none_ (by omega)).mono ?_; rintro e w5 ⟨rfl, hd5⟩; have hb5 : Below w4.heap.size w4 w5 := (below_drewN (Below.refl _ _) 1).trans (hd5.below _); have hu5 := shape_hold hV4 hb5)
      | (go_at_call 12; refine (check_bad _ win mn mx ch lz HK.out).mono ?_; rintro e w6 ⟨rfl, hb6⟩; have hc6 := hb5.trans (hb6.mono hb5.size); have hu6 := shape_hold hV4 hc6)
      | (go_at_call 13; refine (rcheck_bad _ win mn mx ch lz HK.out).mono ?_; rintro e w7 ⟨rfl, hb7⟩; have hc7 := hc6.trans (hb7.mono hc6.size); have hu7 := shape_hold hV4 hc7)
      | (go_at_call 14; refine (same01_eq _ A1 A m c1 m c w2.heap.size w.heap.size ys ys rfl (hr14.below (hc7.mono hz24)) (ht4.below (hc7.mono hbw4.size)) (by omega) (by omega)).mono ?_; rintro e w8 ⟨rfl, hd8⟩; have hc8 := hc7.trans (hd8.below _); have hu8 := shape_hold hV4 hc8)
      | (go_at_call 15; refine (lives_any _).mono ?_; rintro e w9 ⟨rfl, hb9⟩; have hc9 := hc8.trans (hb9.mono hc8.size); have hu9 := shape_hold hV4 hc9))
  go_wp2_with fail
  go_ret
  exact ⟨rfl, hbw4.trans (hc9.mono hbw4.size)⟩
theorem finds_any (w : World) (A : Option Addr) (n c : Nat) (win mn mx ch : Int) (lz : Bool) (bs : List Int) (ht : RN .u8 w w.heap.size A n bs) (hb : ∀ x ∈ bs, 0 ≤ x ∧ x ≤ 255) (hnc : n ≤ c) :
    Calls Try.prog 3 #[.slice A n c, .agg #[.int .i64 win, .int .i64 mn, .int .i64 mx, .int .i64 ch, .bool lz]] w fun e w' => e = .returned (.bool true) ∧ Below w.heap.size w w' := by
  cases h : shapeOk win mn mx ch with
  | true => exact finds_yes w A n c win mn mx ch lz bs h ht hb hnc
  | false => exact finds_no w A n c win mn mx ch lz bs h ht hb hnc
end Go.Proofs.Ytamhlammhhlibaa
