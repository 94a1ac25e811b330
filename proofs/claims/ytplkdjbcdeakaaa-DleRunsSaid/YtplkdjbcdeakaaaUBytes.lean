/- Numbers that are bytes. No condition. -/
import Derived.RowKit
namespace Go.Proofs.Ytplkdjbcdeakaaa
def bytesOk (l : List Int) : Bool := l.all fun x => decide (0 ≤ x ∧ x ≤ 255)
theorem bytesOk_get {l : List Int} (h : bytesOk l = true) {x : Int} (hx : x ∈ l) : 0 ≤ x ∧ x ≤ 255 := by
  have := List.all_eq_true.1 h x hx
  simpa using this
theorem bytesOk_mk {l : List Int} (h : ∀ x ∈ l, 0 ≤ x ∧ x ≤ 255) : bytesOk l = true := by
  unfold bytesOk
  refine List.all_eq_true.2 fun x hx => ?_
  simpa using h x hx
theorem bytesOk_sub {l k : List Int} (h : bytesOk l = true) (hs : ∀ x ∈ k, x ∈ l) : bytesOk k = true := bytesOk_mk fun x hx => bytesOk_get h (hs x hx)
theorem bytesOk_getD {l : List Int} (h : bytesOk l = true) (i : Nat) : 0 ≤ l.getD i 0 ∧ l.getD i 0 ≤ 255 := by
  rw [List.getD_eq_getElem?_getD]
  cases hc : l[i]? with
  | none => simp
  | some x => exact bytesOk_get h (List.mem_of_getElem? hc)
end Go.Proofs.Ytplkdjbcdeakaaa

