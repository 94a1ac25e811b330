/- duffellaw13.lives in the print's words: it answers true. No condition. -/
import Derived.Test.YtplkdjbcdeakaaaLives13
namespace Go.Proofs.Ytplkdjbcdeakaaa.Q
open Go.RowKit
def duffellaw13_lives.f : Option (Bool) := some true
theorem duffellaw13_lives.calls (r : Bool) (w : World) (h : duffellaw13_lives.f = some r) :
    Calls Try.prog 18 #[] w fun e w' => e = .returned (.bool r) ∧ Below w.heap.size w w' := by
  obtain rfl : true = r := by injection h
  exact lives13 w
end Go.Proofs.Ytplkdjbcdeakaaa.Q

