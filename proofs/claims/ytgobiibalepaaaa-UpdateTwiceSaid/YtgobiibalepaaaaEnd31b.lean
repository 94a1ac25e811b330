/- UpdateTwice: whatever the input, the law answers true. No condition. -/
import Derived.Test.YtgobiibalepaaaaOpen31
import Derived.Test.YtgobiibalepaaaaP31c
namespace Go.Proofs.Ytgobiibalepaaaa.Q
open Go.RowKit Go.Proofs.YtgobiibalepaaaaW.PrintWords

theorem updateTwice_run (a0 : Int) (A1 : Option Addr) (c1 : Nat) (l1 : List Th) (A2 : Option Addr) (c2 : Nat) (l2 : List Th) (w : World) (h1 : l1.length ≤ c1) (C1 : Kd.C k36 w A1 l1.length l1) (o1 : ∀ x ∈ l1, bytesOk x.f0 = true) (h2 : l2.length ≤ c2) (C2 : Kd.C k36 w A2 l2.length l2) (o2 : ∀ x ∈ l2, bytesOk x.f0 = true) :
    Calls Try.prog 4 #[.int .i64 a0, .slice A1 l1.length c1, .slice A2 l2.length c2] w fun e w' => e = .returned (.bool true) ∧ Below w.heap.size w w' := by
  obtain ⟨k, hk⟩ := (updateTwice_f a0 l1 l2 o1 o2).rounds
  exact duffellaw31_UpdateTwice.calls k a0 A1 c1 l1 A2 c2 l2 true w C1 h1 C2 h2 hk
end Go.Proofs.Ytgobiibalepaaaa.Q

