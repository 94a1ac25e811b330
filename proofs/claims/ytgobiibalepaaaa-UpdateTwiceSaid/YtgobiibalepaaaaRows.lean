/-
  No cell of these rows narrows 'for every input' (looked for: loops, veiled, ifaces, maps, wideKeys, modest, calm, conditions, laid).
  DERIVED. THE GIVEN ROWS OF THIS SEAT. 2 by the template 'for every input the law returns true; each argument reads behind the call as it read before'; 0 by the template 'total and deterministic' (their statements: YtgobiibalepaaaaTotals.lean).
  GIVEN WITH THE SEED: the statements are not yours to turn. If you find one false, say at which input.
  Laid BY PROGRAM, IN A SANDBOX (cutbox-rows.mjs): the forced cells as the released guide's own fill.sh prints them over the translation dff5c6f73eda69f6… (all of the seat's roots in one cut). By AI agents, Wed Nov 11 2026. No macro, syntax, notation, axiom, sorry.
-/
import Derived.Test.YtgobiibalepaaaaChecked
import GoSem.Claim
import GoSem.ClaimJoined
import GoSem.ClaimMapViews
import Derived.JoinedTies
import Derived.KernelRfl
namespace Go.Proofs.Ytgobiibalepaaaa
/- THE CELL 'sum', in the pinned program and in every row, IS THE sha256 OF THE DUMP (.gsa) THAT YtgobiibalepaaaaProg.lean LOADS. Nothing in Lean hashes anything: it is a label: what it is worth is what the hold of that sum in a sandbox is worth. -/
noncomputable def Try.pinned : Pinned := { name := "ytgobiibalepaaaa", sum := "dff5c6f73eda69f60ae5271b7ee7f70ce4c15448a00afb345694242d145e88b6", checked := Try.checked }
namespace Rows
def none {H : Type} : Left H := { results := [], args := [] }

/-- 'duffellaw31.UpdateEach': WHATEVER THE INPUT: true; the input reads as it did. -/
def updateEachSpec : ChangeSpec := { name := "updateEach", fn := fun _ => fun
  | [d1, d2, d3] => { results := [.lit (.bool true)], args := [d1, d2, d3] }
  | _ => none }
def updateEachRow : OpenClaim := { program := "ytgobiibalepaaaa", sum := "dff5c6f73eda69f60ae5271b7ee7f70ce4c15448a00afb345694242d145e88b6", func := "duffel/duffellaw31.UpdateEach", spec := "updateEach", apart := false }
def UpdateEachSaid : Prop := updateEachRow.holds Try.pinned (OpenSpec.ofChange updateEachSpec)

/-- ITS FALSE NEIGHBOUR: 'it returns false'. Refute it at one input. -/
def updateEachWrong : ChangeSpec := { name := "updateEach", fn := fun _ => fun
  | [d1, d2, d3] => { results := [.lit (.bool false)], args := [d1, d2, d3] }
  | _ => none }
def UpdateEachWrongFalsely : Prop := updateEachRow.holds Try.pinned (OpenSpec.ofChange updateEachWrong)

/-- 'duffellaw31.UpdateTwice': WHATEVER THE INPUT: true; the input reads as it did. -/
def updateTwiceSpec : ChangeSpec := { name := "updateTwice", fn := fun _ => fun
  | [d1, d2, d3] => { results := [.lit (.bool true)], args := [d1, d2, d3] }
  | _ => none }
def updateTwiceRow : OpenClaim := { program := "ytgobiibalepaaaa", sum := "dff5c6f73eda69f60ae5271b7ee7f70ce4c15448a00afb345694242d145e88b6", func := "duffel/duffellaw31.UpdateTwice", spec := "updateTwice", apart := false }
def UpdateTwiceSaid : Prop := updateTwiceRow.holds Try.pinned (OpenSpec.ofChange updateTwiceSpec)

/-- ITS FALSE NEIGHBOUR: 'it returns false'. Refute it at one input. -/
def updateTwiceWrong : ChangeSpec := { name := "updateTwice", fn := fun _ => fun
  | [d1, d2, d3] => { results := [.lit (.bool false)], args := [d1, d2, d3] }
  | _ => none }
def UpdateTwiceWrongFalsely : Prop := updateTwiceRow.holds Try.pinned (OpenSpec.ofChange updateTwiceWrong)

/- THE SECOND FORM. 'bulk': how many values and letters a reading holds, each counted each time it is reached (what is shared counts as often as it is met; a slice's spare places count too). A statement '..UptoSaid' is the law's where the arguments, and the package variables that the reading takes, are together of bulk at most 1048576: NARROWER than '..Said'. Prove '..Said' where nothing that the law and all that it calls make is longer than what came in: it says more and counts as full. Else prove '..UptoSaid'. A law counts once. -/
mutual
def uptoBulk {H : Type} : DataW H → Nat
  | .lit (.string bytes) => bytes.length + 1
  | .lit _ => 1
  | .nil => 1
  | .ptr d => uptoBulk d + 1
  | .slice elems spare => uptoBulkAll elems + uptoBulkAll spare + 1
  | .agg parts => uptoBulkAll parts + 1
  | .iface _ d => uptoBulk d + 1
  | .map entries => uptoBulkEntries entries + 1
  | .held _ => 1
def uptoBulkAll {H : Type} : List (DataW H) → Nat
  | [] => 0
  | d :: r => uptoBulk d + uptoBulkAll r
def uptoBulkEntries {H : Type} : List (Lit × DataW H) → Nat
  | [] => 0
  | x :: r => uptoBulkEntry x + uptoBulkEntries r
def uptoBulkEntry {H : Type} : Lit × DataW H → Nat
  | (.string bytes, d) => bytes.length + uptoBulk d + 1
  | (_, d) => uptoBulk d + 1
 end
def uptoSmall : (H : Type) → List (DataW H) → Bool := fun _ ds => decide (uptoBulkAll ds ≤ 1048576)
def OpenSpec.upto (s : _root_.Go.ChangeSpec) : _root_.Go.OpenSpec := { _root_.Go.OpenSpec.ofChange s with cond := some uptoSmall }

/-- 'duffellaw31.UpdateEach', WHERE WHAT IT READS IS OF BULK AT MOST 1048576: true; the input reads as it did. -/
def updateEachUptoRow : OpenClaim := { program := "ytgobiibalepaaaa", sum := "dff5c6f73eda69f60ae5271b7ee7f70ce4c15448a00afb345694242d145e88b6", func := "duffel/duffellaw31.UpdateEach", spec := "updateEach", apart := false, narrowed := true }
def UpdateEachUptoSaid : Prop := updateEachUptoRow.holds Try.pinned (OpenSpec.upto updateEachSpec)

/-- 'duffellaw31.UpdateTwice', WHERE WHAT IT READS IS OF BULK AT MOST 1048576: true; the input reads as it did. -/
def updateTwiceUptoRow : OpenClaim := { program := "ytgobiibalepaaaa", sum := "dff5c6f73eda69f60ae5271b7ee7f70ce4c15448a00afb345694242d145e88b6", func := "duffel/duffellaw31.UpdateTwice", spec := "updateTwice", apart := false, narrowed := true }
def UpdateTwiceUptoSaid : Prop := updateTwiceUptoRow.holds Try.pinned (OpenSpec.upto updateTwiceSpec)

end Rows
end Go.Proofs.Ytgobiibalepaaaa
