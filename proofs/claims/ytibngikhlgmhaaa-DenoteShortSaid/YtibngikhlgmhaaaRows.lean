/-
  No cell of these rows narrows 'for every input' (looked for: loops, veiled, ifaces, maps, wideKeys, modest, calm, conditions, laid).
  DERIVED. THE GIVEN ROWS OF THIS SEAT. 5 by the template 'for every input the law returns true; each argument reads behind the call as it read before'; 0 by the template 'total and deterministic' (their statements: YtibngikhlgmhaaaTotals.lean).
  GIVEN WITH THE SEED: the statements are not yours to turn. If you find one false, say at which input.
  Laid BY PROGRAM, IN A SANDBOX (cutbox-rows.mjs): the forced cells as the released guide's own fill.sh prints them over the translation 60767b4ed022c8c3… (all of the seat's roots in one cut). By AI agents, Wed Nov 11 2026. No macro, syntax, notation, axiom, sorry.
-/
import Derived.Test.YtibngikhlgmhaaaChecked
import GoSem.Claim
import GoSem.ClaimJoined
import GoSem.ClaimMapViews
import Derived.JoinedTies
import Derived.KernelRfl
namespace Go.Proofs.Ytibngikhlgmhaaa
/- THE CELL 'sum', in the pinned program and in every row, IS THE sha256 OF THE DUMP (.gsa) THAT YtibngikhlgmhaaaProg.lean LOADS. Nothing in Lean hashes anything: it is a label: what it is worth is what the hold of that sum in a sandbox is worth. -/
noncomputable def Try.pinned : Pinned := { name := "ytibngikhlgmhaaa", sum := "60767b4ed022c8c3cfd19ce629e70fd4e2d65d31f3450d0ef103e6f39406f57e", checked := Try.checked }
namespace Rows
def none {H : Type} : Left H := { results := [], args := [] }

/-- 'duffellaw26.DenoteChecks': WHATEVER THE INPUT: true; the input reads as it did. -/
def denoteChecksSpec : ChangeSpec := { name := "denoteChecks", fn := fun _ => fun
  | [d] => { results := [.lit (.bool true)], args := [d] }
  | _ => none }
def denoteChecksRow : OpenClaim := { program := "ytibngikhlgmhaaa", sum := "60767b4ed022c8c3cfd19ce629e70fd4e2d65d31f3450d0ef103e6f39406f57e", func := "duffel/duffellaw26.DenoteChecks", spec := "denoteChecks", unfollowed := true, recurses := true, apart := false }
def DenoteChecksSaid : Prop := denoteChecksRow.holds Try.pinned (OpenSpec.ofChange denoteChecksSpec)

/-- ITS FALSE NEIGHBOUR: 'it returns false'. Refute it at one input. -/
def denoteChecksWrong : ChangeSpec := { name := "denoteChecks", fn := fun _ => fun
  | [d] => { results := [.lit (.bool false)], args := [d] }
  | _ => none }
def DenoteChecksWrongFalsely : Prop := denoteChecksRow.holds Try.pinned (OpenSpec.ofChange denoteChecksWrong)

/-- 'duffellaw26.DenoteScans': WHATEVER THE INPUT: true; the input reads as it did. -/
def denoteScansSpec : ChangeSpec := { name := "denoteScans", fn := fun _ => fun
  | [d] => { results := [.lit (.bool true)], args := [d] }
  | _ => none }
def denoteScansRow : OpenClaim := { program := "ytibngikhlgmhaaa", sum := "60767b4ed022c8c3cfd19ce629e70fd4e2d65d31f3450d0ef103e6f39406f57e", func := "duffel/duffellaw26.DenoteScans", spec := "denoteScans", unfollowed := true, recurses := true, apart := false }
def DenoteScansSaid : Prop := denoteScansRow.holds Try.pinned (OpenSpec.ofChange denoteScansSpec)

/-- ITS FALSE NEIGHBOUR: 'it returns false'. Refute it at one input. -/
def denoteScansWrong : ChangeSpec := { name := "denoteScans", fn := fun _ => fun
  | [d] => { results := [.lit (.bool false)], args := [d] }
  | _ => none }
def DenoteScansWrongFalsely : Prop := denoteScansRow.holds Try.pinned (OpenSpec.ofChange denoteScansWrong)

/-- 'duffellaw26.DenoteJoins': WHATEVER THE INPUT: true; the input reads as it did. -/
def denoteJoinsSpec : ChangeSpec := { name := "denoteJoins", fn := fun _ => fun
  | [d1, d2] => { results := [.lit (.bool true)], args := [d1, d2] }
  | _ => none }
def denoteJoinsRow : OpenClaim := { program := "ytibngikhlgmhaaa", sum := "60767b4ed022c8c3cfd19ce629e70fd4e2d65d31f3450d0ef103e6f39406f57e", func := "duffel/duffellaw26.DenoteJoins", spec := "denoteJoins", unfollowed := true, recurses := true, apart := false }
def DenoteJoinsSaid : Prop := denoteJoinsRow.holds Try.pinned (OpenSpec.ofChange denoteJoinsSpec)

/-- ITS FALSE NEIGHBOUR: 'it returns false'. Refute it at one input. -/
def denoteJoinsWrong : ChangeSpec := { name := "denoteJoins", fn := fun _ => fun
  | [d1, d2] => { results := [.lit (.bool false)], args := [d1, d2] }
  | _ => none }
def DenoteJoinsWrongFalsely : Prop := denoteJoinsRow.holds Try.pinned (OpenSpec.ofChange denoteJoinsWrong)

/-- 'duffellaw26.DenoteAgain': WHATEVER THE INPUT: true; the input reads as it did. -/
def denoteAgainSpec : ChangeSpec := { name := "denoteAgain", fn := fun _ => fun
  | [d] => { results := [.lit (.bool true)], args := [d] }
  | _ => none }
def denoteAgainRow : OpenClaim := { program := "ytibngikhlgmhaaa", sum := "60767b4ed022c8c3cfd19ce629e70fd4e2d65d31f3450d0ef103e6f39406f57e", func := "duffel/duffellaw26.DenoteAgain", spec := "denoteAgain", unfollowed := true, recurses := true, apart := false }
def DenoteAgainSaid : Prop := denoteAgainRow.holds Try.pinned (OpenSpec.ofChange denoteAgainSpec)

/-- ITS FALSE NEIGHBOUR: 'it returns false'. Refute it at one input. -/
def denoteAgainWrong : ChangeSpec := { name := "denoteAgain", fn := fun _ => fun
  | [d] => { results := [.lit (.bool false)], args := [d] }
  | _ => none }
def DenoteAgainWrongFalsely : Prop := denoteAgainRow.holds Try.pinned (OpenSpec.ofChange denoteAgainWrong)

/-- 'duffellaw26.DenoteShort': WHATEVER THE INPUT: true; the input reads as it did. -/
def denoteShortSpec : ChangeSpec := { name := "denoteShort", fn := fun _ => fun
  | [d1, d2, d3, d4] => { results := [.lit (.bool true)], args := [d1, d2, d3, d4] }
  | _ => none }
def denoteShortRow : OpenClaim := { program := "ytibngikhlgmhaaa", sum := "60767b4ed022c8c3cfd19ce629e70fd4e2d65d31f3450d0ef103e6f39406f57e", func := "duffel/duffellaw26.DenoteShort", spec := "denoteShort", unfollowed := true, recurses := true, apart := false }
def DenoteShortSaid : Prop := denoteShortRow.holds Try.pinned (OpenSpec.ofChange denoteShortSpec)

/-- ITS FALSE NEIGHBOUR: 'it returns false'. Refute it at one input. -/
def denoteShortWrong : ChangeSpec := { name := "denoteShort", fn := fun _ => fun
  | [d1, d2, d3, d4] => { results := [.lit (.bool false)], args := [d1, d2, d3, d4] }
  | _ => none }
def DenoteShortWrongFalsely : Prop := denoteShortRow.holds Try.pinned (OpenSpec.ofChange denoteShortWrong)

/- THE SECOND FORM. 'bulk': how many values and letters a reading holds, each counted each time it is reached (what is shared counts as often as it is met; a slice's spare places count too). A statement '..UptoSaid' is the law's where the arguments, and the package variables that the reading takes, are together of bulk at most 1048576: NARROWER than '..Said'. Prove '..Said' where nothing that the law and all that it calls make is longer than what came in: it says more and counts as full. Else prove '..UptoSaid'. A law counts once. -/
mutual
def uptoBulk {H : Type} : DataW H → Nat
  | .lit (.string bytes) => bytes.length + 1
  | .lit _ => 1
  | .nil => 1
  | .ptr d => uptoBulk d + 1
  | .slice elems spare => uptoBulkAll elems + uptoBulkAll spare + 1
  | .agg parts => uptoBulkAll parts + 1
  | .iface _ d => uptoBulk d + 1
  | .map entries => uptoBulkEntries entries + 1
  | .held _ => 1
def uptoBulkAll {H : Type} : List (DataW H) → Nat
  | [] => 0
  | d :: r => uptoBulk d + uptoBulkAll r
def uptoBulkEntries {H : Type} : List (Lit × DataW H) → Nat
  | [] => 0
  | x :: r => uptoBulkEntry x + uptoBulkEntries r
def uptoBulkEntry {H : Type} : Lit × DataW H → Nat
  | (.string bytes, d) => bytes.length + uptoBulk d + 1
  | (_, d) => uptoBulk d + 1
 end
def uptoSmall : (H : Type) → List (DataW H) → Bool := fun _ ds => decide (uptoBulkAll ds ≤ 1048576)
def OpenSpec.upto (s : _root_.Go.ChangeSpec) : _root_.Go.OpenSpec := { _root_.Go.OpenSpec.ofChange s with cond := some uptoSmall }

/-- 'duffellaw26.DenoteChecks', WHERE WHAT IT READS IS OF BULK AT MOST 1048576: true; the input reads as it did. -/
def denoteChecksUptoRow : OpenClaim := { program := "ytibngikhlgmhaaa", sum := "60767b4ed022c8c3cfd19ce629e70fd4e2d65d31f3450d0ef103e6f39406f57e", func := "duffel/duffellaw26.DenoteChecks", spec := "denoteChecks", unfollowed := true, recurses := true, apart := false, narrowed := true }
def DenoteChecksUptoSaid : Prop := denoteChecksUptoRow.holds Try.pinned (OpenSpec.upto denoteChecksSpec)

/-- 'duffellaw26.DenoteScans', WHERE WHAT IT READS IS OF BULK AT MOST 1048576: true; the input reads as it did. -/
def denoteScansUptoRow : OpenClaim := { program := "ytibngikhlgmhaaa", sum := "60767b4ed022c8c3cfd19ce629e70fd4e2d65d31f3450d0ef103e6f39406f57e", func := "duffel/duffellaw26.DenoteScans", spec := "denoteScans", unfollowed := true, recurses := true, apart := false, narrowed := true }
def DenoteScansUptoSaid : Prop := denoteScansUptoRow.holds Try.pinned (OpenSpec.upto denoteScansSpec)

/-- 'duffellaw26.DenoteJoins', WHERE WHAT IT READS IS OF BULK AT MOST 1048576: true; the input reads as it did. -/
def denoteJoinsUptoRow : OpenClaim := { program := "ytibngikhlgmhaaa", sum := "60767b4ed022c8c3cfd19ce629e70fd4e2d65d31f3450d0ef103e6f39406f57e", func := "duffel/duffellaw26.DenoteJoins", spec := "denoteJoins", unfollowed := true, recurses := true, apart := false, narrowed := true }
def DenoteJoinsUptoSaid : Prop := denoteJoinsUptoRow.holds Try.pinned (OpenSpec.upto denoteJoinsSpec)

/-- 'duffellaw26.DenoteAgain', WHERE WHAT IT READS IS OF BULK AT MOST 1048576: true; the input reads as it did. -/
def denoteAgainUptoRow : OpenClaim := { program := "ytibngikhlgmhaaa", sum := "60767b4ed022c8c3cfd19ce629e70fd4e2d65d31f3450d0ef103e6f39406f57e", func := "duffel/duffellaw26.DenoteAgain", spec := "denoteAgain", unfollowed := true, recurses := true, apart := false, narrowed := true }
def DenoteAgainUptoSaid : Prop := denoteAgainUptoRow.holds Try.pinned (OpenSpec.upto denoteAgainSpec)

/-- 'duffellaw26.DenoteShort', WHERE WHAT IT READS IS OF BULK AT MOST 1048576: true; the input reads as it did. -/
def denoteShortUptoRow : OpenClaim := { program := "ytibngikhlgmhaaa", sum := "60767b4ed022c8c3cfd19ce629e70fd4e2d65d31f3450d0ef103e6f39406f57e", func := "duffel/duffellaw26.DenoteShort", spec := "denoteShort", unfollowed := true, recurses := true, apart := false, narrowed := true }
def DenoteShortUptoSaid : Prop := denoteShortUptoRow.holds Try.pinned (OpenSpec.upto denoteShortSpec)

end Rows
end Go.Proofs.Ytibngikhlgmhaaa
