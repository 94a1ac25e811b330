/-
  No cell of these rows narrows 'for every input' (looked for: loops, veiled, ifaces, maps, wideKeys, modest, calm, conditions, laid).
  DERIVED. THE GIVEN ROWS OF THIS SEAT. 5 by the template 'for every input the law returns true; each argument reads behind the call as it read before'; 0 by the template 'total and deterministic' (their statements: YtplkdjbcdeakaaaTotals.lean).
  GIVEN WITH THE SEED: the statements are not yours to turn. If you find one false, say at which input.
  Laid BY PROGRAM, IN A SANDBOX (cutbox-rows.mjs): the forced cells as the released guide's own fill.sh prints them over the translation a628a2b0e7301c4b… (all of the seat's roots in one cut). By AI agents, Wed Nov 11 2026. No macro, syntax, notation, axiom, sorry.
-/
import Derived.Test.YtplkdjbcdeakaaaChecked
import GoSem.Claim
import GoSem.ClaimJoined
import GoSem.ClaimMapViews
import Derived.JoinedTies
import Derived.KernelRfl
namespace Go.Proofs.Ytplkdjbcdeakaaa
/- THE CELL 'sum', in the pinned program and in every row, IS THE sha256 OF THE DUMP (.gsa) THAT YtplkdjbcdeakaaaProg.lean LOADS. Nothing in Lean hashes anything: it is a label: what it is worth is what the hold of that sum in a sandbox is worth. -/
noncomputable def Try.pinned : Pinned := { name := "ytplkdjbcdeakaaa", sum := "a628a2b0e7301c4bb960976713430d9293b99b6956e8d3ec1e7ec412a47cf6ac", checked := Try.checked }
namespace Rows
def none {H : Type} : Left H := { results := [], args := [] }

/-- 'duffellaw13.DleFeeds': WHATEVER THE INPUT: true; the input reads as it did. -/
def dleFeedsSpec : ChangeSpec := { name := "dleFeeds", fn := fun _ => fun
  | [d1, d2, d3] => { results := [.lit (.bool true)], args := [d1, d2, d3] }
  | _ => none }
def dleFeedsRow : OpenClaim := { program := "ytplkdjbcdeakaaa", sum := "a628a2b0e7301c4bb960976713430d9293b99b6956e8d3ec1e7ec412a47cf6ac", func := "duffel/duffellaw13.DleFeeds", spec := "dleFeeds", plainKeys := false, apart := false }
def DleFeedsSaid : Prop := dleFeedsRow.holds Try.pinned (OpenSpec.ofChange dleFeedsSpec)

/-- ITS FALSE NEIGHBOUR: 'it returns false'. Refute it at one input. -/
def dleFeedsWrong : ChangeSpec := { name := "dleFeeds", fn := fun _ => fun
  | [d1, d2, d3] => { results := [.lit (.bool false)], args := [d1, d2, d3] }
  | _ => none }
def DleFeedsWrongFalsely : Prop := dleFeedsRow.holds Try.pinned (OpenSpec.ofChange dleFeedsWrong)

/-- 'duffellaw13.DleNobody': WHATEVER THE INPUT: true; the input reads as it did. -/
def dleNobodySpec : ChangeSpec := { name := "dleNobody", fn := fun _ => fun
  | [d] => { results := [.lit (.bool true)], args := [d] }
  | _ => none }
def dleNobodyRow : OpenClaim := { program := "ytplkdjbcdeakaaa", sum := "a628a2b0e7301c4bb960976713430d9293b99b6956e8d3ec1e7ec412a47cf6ac", func := "duffel/duffellaw13.DleNobody", spec := "dleNobody", plainKeys := false, apart := false }
def DleNobodySaid : Prop := dleNobodyRow.holds Try.pinned (OpenSpec.ofChange dleNobodySpec)

/-- ITS FALSE NEIGHBOUR: 'it returns false'. Refute it at one input. -/
def dleNobodyWrong : ChangeSpec := { name := "dleNobody", fn := fun _ => fun
  | [d] => { results := [.lit (.bool false)], args := [d] }
  | _ => none }
def DleNobodyWrongFalsely : Prop := dleNobodyRow.holds Try.pinned (OpenSpec.ofChange dleNobodyWrong)

/-- 'duffellaw13.DleEncodes': WHATEVER THE INPUT: true; the input reads as it did. -/
def dleEncodesSpec : ChangeSpec := { name := "dleEncodes", fn := fun _ => fun
  | [d1, d2] => { results := [.lit (.bool true)], args := [d1, d2] }
  | _ => none }
def dleEncodesRow : OpenClaim := { program := "ytplkdjbcdeakaaa", sum := "a628a2b0e7301c4bb960976713430d9293b99b6956e8d3ec1e7ec412a47cf6ac", func := "duffel/duffellaw13.DleEncodes", spec := "dleEncodes", plainKeys := false, apart := false }
def DleEncodesSaid : Prop := dleEncodesRow.holds Try.pinned (OpenSpec.ofChange dleEncodesSpec)

/-- ITS FALSE NEIGHBOUR: 'it returns false'. Refute it at one input. -/
def dleEncodesWrong : ChangeSpec := { name := "dleEncodes", fn := fun _ => fun
  | [d1, d2] => { results := [.lit (.bool false)], args := [d1, d2] }
  | _ => none }
def DleEncodesWrongFalsely : Prop := dleEncodesRow.holds Try.pinned (OpenSpec.ofChange dleEncodesWrong)

/-- 'duffellaw13.DleBack': WHATEVER THE INPUT: true; the input reads as it did. -/
def dleBackSpec : ChangeSpec := { name := "dleBack", fn := fun _ => fun
  | [d1, d2] => { results := [.lit (.bool true)], args := [d1, d2] }
  | _ => none }
def dleBackRow : OpenClaim := { program := "ytplkdjbcdeakaaa", sum := "a628a2b0e7301c4bb960976713430d9293b99b6956e8d3ec1e7ec412a47cf6ac", func := "duffel/duffellaw13.DleBack", spec := "dleBack", plainKeys := false, apart := false }
def DleBackSaid : Prop := dleBackRow.holds Try.pinned (OpenSpec.ofChange dleBackSpec)

/-- ITS FALSE NEIGHBOUR: 'it returns false'. Refute it at one input. -/
def dleBackWrong : ChangeSpec := { name := "dleBack", fn := fun _ => fun
  | [d1, d2] => { results := [.lit (.bool false)], args := [d1, d2] }
  | _ => none }
def DleBackWrongFalsely : Prop := dleBackRow.holds Try.pinned (OpenSpec.ofChange dleBackWrong)

/-- 'duffellaw13.DleRuns': WHATEVER THE INPUT: true; the input reads as it did. -/
def dleRunsSpec : ChangeSpec := { name := "dleRuns", fn := fun _ => fun
  | [d1, d2, d3] => { results := [.lit (.bool true)], args := [d1, d2, d3] }
  | _ => none }
def dleRunsRow : OpenClaim := { program := "ytplkdjbcdeakaaa", sum := "a628a2b0e7301c4bb960976713430d9293b99b6956e8d3ec1e7ec412a47cf6ac", func := "duffel/duffellaw13.DleRuns", spec := "dleRuns", plainKeys := false, apart := false }
def DleRunsSaid : Prop := dleRunsRow.holds Try.pinned (OpenSpec.ofChange dleRunsSpec)

/-- ITS FALSE NEIGHBOUR: 'it returns false'. Refute it at one input. -/
def dleRunsWrong : ChangeSpec := { name := "dleRuns", fn := fun _ => fun
  | [d1, d2, d3] => { results := [.lit (.bool false)], args := [d1, d2, d3] }
  | _ => none }
def DleRunsWrongFalsely : Prop := dleRunsRow.holds Try.pinned (OpenSpec.ofChange dleRunsWrong)

/- THE SECOND FORM. 'bulk': how many values and letters a reading holds, each counted each time it is reached (what is shared counts as often as it is met; a slice's spare places count too). A statement '..UptoSaid' is the law's where the arguments, and the package variables that the reading takes, are together of bulk at most 1048576: NARROWER than '..Said'. Prove '..Said' where nothing that the law and all that it calls make is longer than what came in: it says more and counts as full. Else prove '..UptoSaid'. A law counts once. -/
mutual
def uptoBulk {H : Type} : DataW H → Nat
  | .lit (.string bytes) => bytes.length + 1
  | .lit _ => 1
  | .nil => 1
  | .ptr d => uptoBulk d + 1
  | .slice elems spare => uptoBulkAll elems + uptoBulkAll spare + 1
  | .agg parts => uptoBulkAll parts + 1
  | .iface _ d => uptoBulk d + 1
  | .map entries => uptoBulkEntries entries + 1
  | .held _ => 1
def uptoBulkAll {H : Type} : List (DataW H) → Nat
  | [] => 0
  | d :: r => uptoBulk d + uptoBulkAll r
def uptoBulkEntries {H : Type} : List (Lit × DataW H) → Nat
  | [] => 0
  | x :: r => uptoBulkEntry x + uptoBulkEntries r
def uptoBulkEntry {H : Type} : Lit × DataW H → Nat
  | (.string bytes, d) => bytes.length + uptoBulk d + 1
  | (_, d) => uptoBulk d + 1
 end
def uptoSmall : (H : Type) → List (DataW H) → Bool := fun _ ds => decide (uptoBulkAll ds ≤ 1048576)
def OpenSpec.upto (s : _root_.Go.ChangeSpec) : _root_.Go.OpenSpec := { _root_.Go.OpenSpec.ofChange s with cond := some uptoSmall }

/-- 'duffellaw13.DleFeeds', WHERE WHAT IT READS IS OF BULK AT MOST 1048576: true; the input reads as it did. -/
def dleFeedsUptoRow : OpenClaim := { program := "ytplkdjbcdeakaaa", sum := "a628a2b0e7301c4bb960976713430d9293b99b6956e8d3ec1e7ec412a47cf6ac", func := "duffel/duffellaw13.DleFeeds", spec := "dleFeeds", plainKeys := false, apart := false, narrowed := true }
def DleFeedsUptoSaid : Prop := dleFeedsUptoRow.holds Try.pinned (OpenSpec.upto dleFeedsSpec)

/-- 'duffellaw13.DleNobody', WHERE WHAT IT READS IS OF BULK AT MOST 1048576: true; the input reads as it did. -/
def dleNobodyUptoRow : OpenClaim := { program := "ytplkdjbcdeakaaa", sum := "a628a2b0e7301c4bb960976713430d9293b99b6956e8d3ec1e7ec412a47cf6ac", func := "duffel/duffellaw13.DleNobody", spec := "dleNobody", plainKeys := false, apart := false, narrowed := true }
def DleNobodyUptoSaid : Prop := dleNobodyUptoRow.holds Try.pinned (OpenSpec.upto dleNobodySpec)

/-- 'duffellaw13.DleEncodes', WHERE WHAT IT READS IS OF BULK AT MOST 1048576: true; the input reads as it did. -/
def dleEncodesUptoRow : OpenClaim := { program := "ytplkdjbcdeakaaa", sum := "a628a2b0e7301c4bb960976713430d9293b99b6956e8d3ec1e7ec412a47cf6ac", func := "duffel/duffellaw13.DleEncodes", spec := "dleEncodes", plainKeys := false, apart := false, narrowed := true }
def DleEncodesUptoSaid : Prop := dleEncodesUptoRow.holds Try.pinned (OpenSpec.upto dleEncodesSpec)

/-- 'duffellaw13.DleBack', WHERE WHAT IT READS IS OF BULK AT MOST 1048576: true; the input reads as it did. -/
def dleBackUptoRow : OpenClaim := { program := "ytplkdjbcdeakaaa", sum := "a628a2b0e7301c4bb960976713430d9293b99b6956e8d3ec1e7ec412a47cf6ac", func := "duffel/duffellaw13.DleBack", spec := "dleBack", plainKeys := false, apart := false, narrowed := true }
def DleBackUptoSaid : Prop := dleBackUptoRow.holds Try.pinned (OpenSpec.upto dleBackSpec)

/-- 'duffellaw13.DleRuns', WHERE WHAT IT READS IS OF BULK AT MOST 1048576: true; the input reads as it did. -/
def dleRunsUptoRow : OpenClaim := { program := "ytplkdjbcdeakaaa", sum := "a628a2b0e7301c4bb960976713430d9293b99b6956e8d3ec1e7ec412a47cf6ac", func := "duffel/duffellaw13.DleRuns", spec := "dleRuns", plainKeys := false, apart := false, narrowed := true }
def DleRunsUptoSaid : Prop := dleRunsUptoRow.holds Try.pinned (OpenSpec.upto dleRunsSpec)

end Rows
end Go.Proofs.Ytplkdjbcdeakaaa
