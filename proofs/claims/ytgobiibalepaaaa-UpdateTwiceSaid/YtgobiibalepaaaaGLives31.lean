/- duffellaw31.lives walked: it answers true. No condition. -/
import Derived.Test.YtgobiibalepaaaaGUpd
import Derived.Lib.SlBytesConst
namespace Go.Proofs.Ytgobiibalepaaaa.Q
open Go.RowKit Go.Proofs.YtgobiibalepaaaaW.PrintWords Go.Proofs.YtgobiibalepaaaaW.PrintLast Go.Proofs.YtgobiibalepaaaaW.PrintMore
set_option linter.unusedVariables false

/-- A row of one element, in a block that is known. -/
theorem C_one {α : Type} {d : Kd α} {w : World} {g t : Nat} {fr : Nat × Nat} {cs : Array Value} {x : α} (hb : w.heap[g]? = some (.cells cs t fr)) (hs : cs.size = d.sz) (hK : d.K w x cs.toList) : d.C w (some ⟨g, 0, none⟩) 1 [x] := by
  refine ⟨rfl, by omega, fun _ => ⟨_, rfl, fun j p hp => ?_⟩⟩
  have hj : j = 0 := by
    have := (List.getElem?_eq_some_iff.1 hp).1
    simpa using this
  subst hj
  have hp : x = p := by simpa using hp
  subst hp
  refine ⟨cs.toList, by simpa using hs, hK, fun i u hu => ?_⟩
  have e : (⟨g, 0, none⟩ : Addr).add (0 * d.sz + i) = ⟨g, i, none⟩ := by
    rw [Nat.zero_mul, Nat.zero_add]
    unfold Addr.add; split <;> simp_all
  rw [e, cell_of_row w g i cs t fr hb]
  simpa using hu
def duffellaw31_lives.f : Option (Bool) := some true
set_option maxHeartbeats 4000000 in
theorem duffellaw31_lives.calls (r : Bool) (w : World) (h : duffellaw31_lives.f = some r) :
    Calls Try.prog 11 #[] w fun e w' => e = .returned (.bool r) ∧ Below w.heap.size w w' := by
  obtain rfl : true = r := by injection h
  have kc := fun (w : World) (C : Array Value) (n c : Nat) => Lib.run_convert_bytes_const (P := Try.prog) w 34 5 C n c Try.underlying34 Try.underlying5
  have hp : Hid (update_Plan.f 2 [] [⟨[97], 0, 0⟩] = some ([⟨3, -1, 0⟩], 0)) := by show _ = _; rfl
  go_enter Try.func11, Try.ntmps11
  go_wp2_with fail
  have hb1 : Below w.heap.size w ((w.alloc (Obj.cells #[Value.int .u8 97] 5 (1, 2))).alloc (Obj.cells #[Value.slice (some ⟨w.heap.size, 0, none⟩) 1 1, Value.int .i64 0, Value.int .i64 0] 54)) := ((Below.refl _ _).alloc (Nat.le_refl _) _).alloc (by simp) _
  have hC : Kd.C k54 ((w.alloc (Obj.cells #[Value.int .u8 97] 5 (1, 2))).alloc (Obj.cells #[Value.slice (some ⟨w.heap.size, 0, none⟩) 1 1, Value.int .i64 0, Value.int .i64 0] 54)) (some ⟨w.heap.size + 1, 0, none⟩) 1 [⟨[97], 0, 0⟩] := by
    have h1 : (w.alloc (Obj.cells #[Value.int .u8 97] 5 (1, 2))).heap[w.heap.size]? = some (.cells #[Value.int .u8 97] 5 (1, 2)) := heap_alloc_new w _
    have h2 : ((w.alloc (Obj.cells #[Value.int .u8 97] 5 (1, 2))).alloc (Obj.cells #[Value.slice (some ⟨w.heap.size, 0, none⟩) 1 1, Value.int .i64 0, Value.int .i64 0] 54)).heap[w.heap.size + 1]? = some (.cells #[Value.slice (some ⟨w.heap.size, 0, none⟩) 1 1, Value.int .i64 0, Value.int .i64 0] 54) := by
      have := heap_alloc_new (w.alloc (Obj.cells #[Value.int .u8 97] 5 (1, 2))) (Obj.cells #[Value.slice (some ⟨w.heap.size, 0, none⟩) 1 1, Value.int .i64 0, Value.int .i64 0] 54)
      simpa using this
    have g1 : Kd.C (Kd.int .u8) (w.alloc (Obj.cells #[Value.int .u8 97] 5 (1, 2))) (some ⟨w.heap.size, 0, none⟩) 1 [97] := C_one h1 rfl rfl
    have g2 := Kd.C_below g1 ((Below.refl _ _).alloc (Nat.le_refl _) (Obj.cells #[Value.slice (some ⟨w.heap.size, 0, none⟩) 1 1, Value.int .i64 0, Value.int .i64 0] 54))
    exact C_one h2 rfl (k54_mk _ ⟨[97], 0, 0⟩ (A0 := some ⟨w.heap.size, 0, none⟩) (c0 := 1) (Nat.le_refl _) g2)
  refine (update_Plan.calls 2 none 0 [] (some ⟨w.heap.size + 1, 0, none⟩) 1 [⟨[97], 0, 0⟩] [⟨3, -1, 0⟩] 0 _ (Kd.C_nil _ _) (Nat.le_refl _) hC (Nat.le_refl _) hp.out).mono ?_
  rintro e w2 ⟨v, rfl, hR, hb2⟩
  obtain ⟨A2, c2, rfl, hl2, hC2⟩ := Kd.R_reads hR
  obtain ⟨ad, rfl, x0, x1, x2⟩ := at_T32 hC2 0 (by omega) (by simp)
  have hbw : Below w.heap.size w w2 := hb1.trans (hb2.mono hb1.size)
  clear hC hp kc hC2 hR hb1 hb2
  rw [show rd_T32 [⟨3, -1, 0⟩] 0 = ⟨3, -1, 0⟩ from rfl] at x0 x1 x2
  have x0 : w2.cell? ad = some (.int .i64 3) := by simpa [Addr.add] using x0
  have x1 : w2.cell? ⟨ad.block, ad.off + 1, none⟩ = some (.int .i64 (-1)) := by simpa [Addr.add] using x1
  have x2 : w2.cell? ⟨ad.block, ad.off + 2, none⟩ = some (.int .i64 0) := by simpa [Addr.add] using x2
  go_wp2_with fail
  go_ret
  exact ⟨rfl, hbw⟩
end Go.Proofs.Ytgobiibalepaaaa.Q

