/- The law FinderRuns, walked. -/
import Derived.Test.YtamhlammhhlibaaFinds
import Derived.Test.YtamhlammhhlibaaWithin9
import Derived.Test.YtamhlammhhlibaaLaw9c
namespace Go.Proofs.Ytamhlammhhlibaa
open Go.RowKit
attribute [local go_sem ↓] Go.wp_at_zero Go.wp_at_succ

theorem shape_loose2 {w w' : World} {B : Nat} {cs : Array Value} (h : Blk w B 24 cs) (hb : Below w.heap.size w w') :
    w'.frozen? ⟨B, 0, none⟩ = false ∧ w'.frozen? ⟨B, 1, none⟩ = false ∧ w'.frozen? ⟨B, 2, none⟩ = false ∧ w'.frozen? ⟨B, 3, none⟩ = false ∧ w'.frozen? ⟨B, 4, none⟩ = false := by
  have a := h.below hb h.lt
  exact ⟨a.frozen 0, a.frozen 1, a.frozen 2, a.frozen 3, a.frozen 4⟩
theorem rep_set {c : Int} {n k : Nat} (hk : k < n) : (nums .u8 (List.replicate k c ++ List.replicate (n - k) 0)).toArray.setIfInBounds k (.int .u8 c) = (nums .u8 (List.replicate (k + 1) c ++ List.replicate (n - (k + 1)) 0)).toArray := by
  apply Array.toList_inj.1
  simp only [nums, Array.toList_setIfInBounds, List.map_append, List.map_replicate]
  rw [show n - k = (n - (k + 1)) + 1 by omega, List.replicate_succ, List.set_append]
  simp only [List.length_replicate, Nat.lt_irrefl, if_false, Nat.sub_self, List.set_cons_zero]
  rw [List.replicate_succ', List.append_assoc]
  rfl
theorem rep_zero (c : Int) (n : Nat) : madeCells #[Value.int .u8 0] n = (nums .u8 (List.replicate 0 c ++ List.replicate (n - 0) 0)).toArray := by
  apply Array.toList_inj.1
  rw [toList_madeCells_one]
  simp [nums]
theorem blk_rn {w : World} {g B : Nat} {t : TypeId} {xs : List Int} {n : Nat} (h : Blk w g t (nums .u8 xs).toArray) (hB : g < B) (hn : xs.length = n) : RN .u8 w B (some ⟨g, 0, none⟩) n xs := by
  refine ⟨by simp [nums_length, hn], fun _ => ⟨_, rfl, hB, fun j u hu => ?_⟩⟩
  show w.cell? ((⟨g, 0, none⟩ : Addr).add j) = some u
  have := h.cell j
  have e : ((⟨g, 0, none⟩ : Addr).add j) = ⟨g, j, none⟩ := by
    cases j <;> simp [Addr.add]
  rw [e, this, List.getElem?_toArray, hu]

set_option maxHeartbeats 4000000 in
set_option maxRecDepth 100000 in
theorem runs_any (w : World) (c n0 : Int) (win mn mx ch : Int) (lz : Bool) (hcb : 0 ≤ c ∧ c ≤ 255) :
    Calls Try.prog 4 #[.int .u8 c, .int .i64 n0, .agg #[.int .i64 win, .int .i64 mn, .int .i64 mx, .int .i64 ch, .bool lz]] w fun e w' => e = .returned (.bool true) ∧ Below w.heap.size w w' := by
  have HK := hide (within_ok win mn mx ch)
  go_enter Try.func4, Try.ntmps4
  go_wp2_with fail
  refine (withinS_any _ win mn mx ch lz).mono ?_
  rintro e w2 ⟨rfl, hb2⟩
  have hV := Blk.new w 24 #[.int .i64 win, .int .i64 mn, .int .i64 mx, .int .i64 ch, .bool lz]
  obtain ⟨z0, z1, z2, z3, z4⟩ := shape_loose2 hV hb2
  obtain ⟨a0, a1, a2, a3, a4⟩ := shape_hold hV hb2
  have hV2 := hV.below hb2 hV.lt
  have hbw : Below w.heap.size w w2 := ((Below.refl _ _).alloc (Nat.le_refl _) _).trans (hb2.mono (by simp))
  clear hV hb2
  have hok := HK.out
  simp only [shapeOk, decide_eq_true_eq] at hok
  obtain ⟨k1, k2, k3, k4, k5, k6, k7, k8⟩ := hok
  have hV3 := blk_set5 hV2 (.int .i64 (sWin win)) (.int .i64 (sMin mn)) (.int .i64 (sMax mx (sMin mn))) (.int .i64 (sCh ch)) (.bool lz)
  have hb3 := below_set5 hbw (Nat.le_refl _) (.int .i64 (sWin win)) (.int .i64 (sMin mn)) (.int .i64 (sMax mx (sMin mn))) (.int .i64 (sCh ch)) (.bool lz)
  generalize sWin win = x0 at *
  generalize sMax mx (sMin mn) = x2 at *
  generalize sMin mn = x1 at *
  generalize sCh ch = x3 at *
  go_wp2_with fail
  generalize (((((w2.setCell ⟨w.heap.size, 0, none⟩ (.int .i64 x0)).setCell ⟨w.heap.size, 1, none⟩ (.int .i64 x1)).setCell ⟨w.heap.size, 2, none⟩ (.int .i64 x2)).setCell ⟨w.heap.size, 3, none⟩ (.int .i64 x3)).setCell ⟨w.heap.size, 4, none⟩ (.bool lz)) = W at hV3 hb3 ⊢
  clear a0 a1 a2 a3 a4 z0 z1 z2 z3 z4 hV2 hbw
  refine (within_any W n0 0 3000).mono ?_
  rintro e w' ⟨rfl, rfl⟩
  have hn2 := clampI_bd (x := n0) (lo := 0) (hi := 3000) (by omega)
  obtain ⟨n, hn⟩ : ∃ n : Nat, clampI n0 0 3000 = n := ⟨(clampI n0 0 3000).toNat, by omega⟩
  rw [hn] at hn2 ⊢
  have hn3 : n ≤ 3000 := by omega
  clear hn hn2
  have c3 : W.cell? ⟨w.heap.size, 3, none⟩ = some (.int .i64 x3) := hV3.cell 3
  have c0 : W.cell? ⟨w.heap.size, 0, none⟩ = some (.int .i64 x0) := hV3.cell 0
  have c1 : W.cell? ⟨w.heap.size, 1, none⟩ = some (.int .i64 x1) := hV3.cell 1
  have c2 : W.cell? ⟨w.heap.size, 2, none⟩ = some (.int .i64 x2) := hV3.cell 2
  have c4 : W.cell? ⟨w.heap.size, 4, none⟩ = some (.bool lz) := hV3.cell 4
  by_cases hz : x3 = 0 ∨ n = 0
  · rcases hz with rfl | rfl
    all_goals go_wp2_with fail
    all_goals
      refine (lives_any _).mono ?_
      rintro e w9 ⟨rfl, hb9⟩
      go_wp2_with fail
      go_ret
      exact ⟨rfl, hb3.trans (hb9.mono hb3.size)⟩
  · obtain ⟨hx3, hn0⟩ : x3 ≠ 0 ∧ n ≠ 0 := by omega
    have d3 : (x3 == 0) = false := by simpa using hx3
    have dn : ((n : Int) == 0) = false := by simpa using hn0
    have hmk := run_make_row' (P := Try.prog) 22 5 (.int .u8 0) 1 Try.underlying22 byteInfo rfl .i64 .i64 n (by omega) (by omega)
    go_wp2_with fail
    have hg : w.heap.size < W.heap.size := hV3.lt
    have hV4 := hV3.alloc (Obj.cells (madeCells #[Value.int .u8 0] n) 5)
    have hG4 := Blk.new W 5 (madeCells #[Value.int .u8 0] n)
    have hb4 := hb3.alloc hb3.size (Obj.cells (madeCells #[Value.int .u8 0] n) 5)
    rw [rep_zero c n] at hV4 hG4 hb4 ⊢
    generalize W.alloc (Obj.cells (nums .u8 (List.replicate 0 c ++ List.replicate (n - 0) 0)).toArray 5) = W4 at hV4 hG4 hb4 ⊢
    generalize W.heap.size = g at hg hG4 ⊢
    clear hmk hV3 hb3 c0 c1 c2 c3 c4
    go_loopw [8] (fun v8 wr => ∃ k : Nat, v8 = .int .i64 k ∧ k ≤ n ∧ Below w.heap.size w wr ∧ Blk wr w.heap.size 24 #[.int .i64 x0, .int .i64 x1, .int .i64 x2, .int .i64 x3, .bool lz] ∧ Blk wr g 5 (nums .u8 (List.replicate k c ++ List.replicate (n - k) 0)).toArray) (fun v8 _ => n - (intOf v8).toNat)
    case atStart => exact ⟨0, rfl, by omega, hb4, hV4, hG4⟩
    case round =>
      obtain ⟨k, rfl, hk, hbr, hVr, hGr⟩ := hrel
      clear hb4 hV4 hG4
      by_cases hlt : k < n
      · have q1 : (k : Int) < n := by omega
        have fz : wr.frozen? ⟨g, k, none⟩ = false := hGr.frozen k
        obtain ⟨u, hu⟩ : ∃ u, wr.cell? ⟨g, k, none⟩ = some u := by
          rw [hGr.cell k, List.getElem?_toArray]
          have : k < (nums .u8 (List.replicate k c ++ List.replicate (n - k) 0)).length := by rw [nums_length, List.length_append, List.length_replicate, List.length_replicate]; omega
          exact ⟨_, List.getElem?_eq_getElem this⟩
        go_wp2_with fail
        have hG5 := hGr.set_ k (.int .u8 c)
        rw [rep_set hlt] at hG5
        exact ⟨⟨k + 1, by go_num, by omega, hbr.setCell (show w.heap.size ≤ g by omega) _, hVr.far (show w.heap.size ≠ g by omega) _, hG5⟩, by simp [intOf]; omega⟩
      · obtain rfl : k = n := by omega
        have c3 : wr.cell? ⟨w.heap.size, 3, none⟩ = some (.int .i64 x3) := hVr.cell 3
        have c0 : wr.cell? ⟨w.heap.size, 0, none⟩ = some (.int .i64 x0) := hVr.cell 0
        have c1 : wr.cell? ⟨w.heap.size, 1, none⟩ = some (.int .i64 x1) := hVr.cell 1
        have c2 : wr.cell? ⟨w.heap.size, 2, none⟩ = some (.int .i64 x2) := hVr.cell 2
        have c4 : wr.cell? ⟨w.heap.size, 4, none⟩ = some (.bool lz) := hVr.cell 4
        rw [Nat.sub_self, List.replicate_zero, List.append_nil] at hGr
        have hR := blk_rn (n := k) hGr hGr.lt (by simp)
        go_wp2_with fail
        refine (find_yes wr (some ⟨g, 0, none⟩) k k x0 x1 x2 x3 lz _ HK.out hR (fun x hx => by rw [List.eq_of_mem_replicate hx]; exact hcb) (Nat.le_refl _) (by omega)).mono ?_
        rintro e w5 ⟨v5, rfl, hown5, hb5⟩
        obtain ⟨A5, c5, rfl, hc5⟩ := own_form hown5
        clear hown5 c0 c1 c2 c3 c4
        have hb6 := hbr.trans (hb5.mono hbr.size)
        obtain ⟨m, rfl⟩ : ∃ m : Nat, x1 = m := ⟨x1.toNat, by omega⟩
        obtain ⟨M, rfl⟩ : ∃ M : Nat, x2 = M := ⟨x2.toNat, by omega⟩
        have hL := find_run (c := c) (m := m) (n := k) (M := M) (mx := M) (win := x0) (ch := x3) (lz := lz) (by omega) rfl (by omega) k1 (by omega) (by omega)
        generalize (findSpec (List.replicate k c) m M x0 x3 lz).length = L at hL hc5 ⊢
        obtain ⟨c0, c1, c2, c3, c4⟩ := shape_hold hVr hb5
        go_wp2_with fail
        have hM0 : ((M : Int) == 0) = false := by simp; omega
        have hM1 : ¬ M = 0 := by omega
        obtain ⟨P, w46, hP⟩ : ∃ P : Int, IntKind.i64.wrap ((k : Int) - 1) = P ∧ P = k - 1 := ⟨_, IntWalk.i64_in _ (by omega), rfl⟩
        obtain ⟨Q, w49, hQ⟩ : ∃ Q : Int, IntKind.i64.wrap (P + M) = Q ∧ Q = P + M := ⟨_, IntWalk.i64_in _ (by omega), rfl⟩
        obtain ⟨R, w50, hR⟩ : ∃ R : Int, IntKind.i64.wrap (Q - 1) = R ∧ R = Q - 1 := ⟨_, IntWalk.i64_in _ (by omega), rfl⟩
        have hRM : R / M = (((k - 1 + M - 1) / M : Nat) : Int) := by
          rw [show R = ((k - 1 + M - 1 : Nat) : Int) by omega]
          rfl
        have hDM : (k - 1 + M - 1) / M ≤ k - 1 + M - 1 := Nat.div_le_self _ _
        obtain ⟨D, w53, hD⟩ : ∃ D : Int, IntKind.i64.wrap (R.tdiv M) = D ∧ D = (((k - 1 + M - 1) / M : Nat) : Int) := ⟨_, (IntWalk.i64_quo R M (by omega)).trans hRM, rfl⟩
        generalize (k - 1 + M - 1) / M = dd at hD hDM hL
        clear hRM
        obtain ⟨E, w54, hE⟩ : ∃ E : Int, IntKind.i64.wrap (1 + D) = E ∧ E = 1 + D := ⟨_, IntWalk.i64_in _ (by omega), rfl⟩
        obtain ⟨F, w57, hF⟩ : ∃ F : Int, IntKind.i64.wrap (E + m) = F ∧ F = E + m := ⟨_, IntWalk.i64_in _ (by omega), rfl⟩
        have hLF : decide ((L : Int) ≤ F) = true := by simp; omega
        replace hL := hide hL
        clear hP hQ hR hD hDM hE hF
        go_region_held3 (fun w' => w'.cell? ⟨w.heap.size, 0, none⟩ = some (.int .i64 x0) ∧ w'.cell? ⟨w.heap.size, 1, none⟩ = some (.int .i64 m) ∧ w'.cell? ⟨w.heap.size, 2, none⟩ = some (.int .i64 M) ∧ w'.cell? ⟨w.heap.size, 3, none⟩ = some (.int .i64 x3) ∧ w'.cell? ⟨w.heap.size, 4, none⟩ = some (.bool lz)) (first | exact ⟨c0, c1, c2, c3, c4⟩ | exact hu9)
          ((go_at_call 15; refine (lives_any _).mono ?_; rintro e w9 ⟨rfl, hb9⟩; have hc9 : Below w5.heap.size w5 w9 := (below_drewN (Below.refl _ _) 1).trans hb9; have hu9 := shape_hold (hVr.below hb5 hVr.lt) hc9))
        all_goals
          go_wp2_with fail
          go_ret
          exact ⟨rfl, hb6.trans (hc9.mono hb6.size)⟩
end Go.Proofs.Ytamhlammhhlibaa
