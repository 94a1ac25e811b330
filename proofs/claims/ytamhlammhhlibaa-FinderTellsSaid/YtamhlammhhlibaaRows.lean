/-
  No cell of these rows narrows 'for every input' (looked for: loops, veiled, ifaces, maps, wideKeys, modest, calm, conditions, laid).
  DERIVED. THE GIVEN ROWS OF THIS SEAT. 4 by the template 'for every input the law returns true; each argument reads behind the call as it read before'; 0 by the template 'total and deterministic' (their statements: YtamhlammhhlibaaTotals.lean).
  GIVEN WITH THE SEED: the statements are not yours to turn. If you find one false, say at which input.
  Laid BY PROGRAM, IN A SANDBOX (cutbox-rows.mjs): the forced cells as the released guide's own fill.sh prints them over the translation b272e41fc9ae9c6f… (all of the seat's roots in one cut). By AI agents, Wed Nov 11 2026. No macro, syntax, notation, axiom, sorry.
-/
import Derived.Test.YtamhlammhhlibaaChecked
import GoSem.Claim
import GoSem.ClaimJoined
import GoSem.ClaimMapViews
import Derived.JoinedTies
import Derived.KernelRfl
namespace Go.Proofs.Ytamhlammhhlibaa
/- THE CELL 'sum', in the pinned program and in every row, IS THE sha256 OF THE DUMP (.gsa) THAT YtamhlammhhlibaaProg.lean LOADS. Nothing in Lean hashes anything: it is a label: what it is worth is what the hold of that sum in a sandbox is worth. -/
noncomputable def Try.pinned : Pinned := { name := "ytamhlammhhlibaa", sum := "b272e41fc9ae9c6fe3eeafca37a547c95ffc612e8fa8cee2a4cd359032520d0b", checked := Try.checked }
namespace Rows
def none {H : Type} : Left H := { results := [], args := [] }

/-- 'duffellaw09.FinderFinds': WHATEVER THE INPUT: true; the input reads as it did. -/
def finderFindsSpec : ChangeSpec := { name := "finderFinds", fn := fun _ => fun
  | [d1, d2] => { results := [.lit (.bool true)], args := [d1, d2] }
  | _ => none }
def finderFindsRow : OpenClaim := { program := "ytamhlammhhlibaa", sum := "b272e41fc9ae9c6fe3eeafca37a547c95ffc612e8fa8cee2a4cd359032520d0b", func := "duffel/duffellaw09.FinderFinds", spec := "finderFinds", plainKeys := false, apart := false }
def FinderFindsSaid : Prop := finderFindsRow.holds Try.pinned (OpenSpec.ofChange finderFindsSpec)

/-- ITS FALSE NEIGHBOUR: 'it returns false'. Refute it at one input. -/
def finderFindsWrong : ChangeSpec := { name := "finderFinds", fn := fun _ => fun
  | [d1, d2] => { results := [.lit (.bool false)], args := [d1, d2] }
  | _ => none }
def FinderFindsWrongFalsely : Prop := finderFindsRow.holds Try.pinned (OpenSpec.ofChange finderFindsWrong)

/-- 'duffellaw09.FinderRuns': WHATEVER THE INPUT: true; the input reads as it did. -/
def finderRunsSpec : ChangeSpec := { name := "finderRuns", fn := fun _ => fun
  | [d1, d2, d3] => { results := [.lit (.bool true)], args := [d1, d2, d3] }
  | _ => none }
def finderRunsRow : OpenClaim := { program := "ytamhlammhhlibaa", sum := "b272e41fc9ae9c6fe3eeafca37a547c95ffc612e8fa8cee2a4cd359032520d0b", func := "duffel/duffellaw09.FinderRuns", spec := "finderRuns", plainKeys := false, apart := false }
def FinderRunsSaid : Prop := finderRunsRow.holds Try.pinned (OpenSpec.ofChange finderRunsSpec)

/-- ITS FALSE NEIGHBOUR: 'it returns false'. Refute it at one input. -/
def finderRunsWrong : ChangeSpec := { name := "finderRuns", fn := fun _ => fun
  | [d1, d2, d3] => { results := [.lit (.bool false)], args := [d1, d2, d3] }
  | _ => none }
def FinderRunsWrongFalsely : Prop := finderRunsRow.holds Try.pinned (OpenSpec.ofChange finderRunsWrong)

/-- 'duffellaw09.FinderNothing': WHATEVER THE INPUT: true; the input reads as it did. -/
def finderNothingSpec : ChangeSpec := { name := "finderNothing", fn := fun _ => fun
  | [d1, d2] => { results := [.lit (.bool true)], args := [d1, d2] }
  | _ => none }
def finderNothingRow : OpenClaim := { program := "ytamhlammhhlibaa", sum := "b272e41fc9ae9c6fe3eeafca37a547c95ffc612e8fa8cee2a4cd359032520d0b", func := "duffel/duffellaw09.FinderNothing", spec := "finderNothing", plainKeys := false, apart := false }
def FinderNothingSaid : Prop := finderNothingRow.holds Try.pinned (OpenSpec.ofChange finderNothingSpec)

/-- ITS FALSE NEIGHBOUR: 'it returns false'. Refute it at one input. -/
def finderNothingWrong : ChangeSpec := { name := "finderNothing", fn := fun _ => fun
  | [d1, d2] => { results := [.lit (.bool false)], args := [d1, d2] }
  | _ => none }
def FinderNothingWrongFalsely : Prop := finderNothingRow.holds Try.pinned (OpenSpec.ofChange finderNothingWrong)

/-- 'duffellaw09.FinderTells': WHATEVER THE INPUT: true; the input reads as it did. -/
def finderTellsSpec : ChangeSpec := { name := "finderTells", fn := fun _ => fun
  | [d1, d2] => { results := [.lit (.bool true)], args := [d1, d2] }
  | _ => none }
def finderTellsRow : OpenClaim := { program := "ytamhlammhhlibaa", sum := "b272e41fc9ae9c6fe3eeafca37a547c95ffc612e8fa8cee2a4cd359032520d0b", func := "duffel/duffellaw09.FinderTells", spec := "finderTells", unfollowed := true, recurses := true, plainKeys := false, apart := false }
def FinderTellsSaid : Prop := finderTellsRow.holds Try.pinned (OpenSpec.ofChange finderTellsSpec)

/-- ITS FALSE NEIGHBOUR: 'it returns false'. Refute it at one input. -/
def finderTellsWrong : ChangeSpec := { name := "finderTells", fn := fun _ => fun
  | [d1, d2] => { results := [.lit (.bool false)], args := [d1, d2] }
  | _ => none }
def FinderTellsWrongFalsely : Prop := finderTellsRow.holds Try.pinned (OpenSpec.ofChange finderTellsWrong)

/- THE SECOND FORM. 'bulk': how many values and letters a reading holds, each counted each time it is reached (what is shared counts as often as it is met; a slice's spare places count too). A statement '..UptoSaid' is the law's where the arguments, and the package variables that the reading takes, are together of bulk at most 1048576: NARROWER than '..Said'. Prove '..Said' where nothing that the law and all that it calls make is longer than what came in: it says more and counts as full. Else prove '..UptoSaid'. A law counts once. -/
mutual
def uptoBulk {H : Type} : DataW H → Nat
  | .lit (.string bytes) => bytes.length + 1
  | .lit _ => 1
  | .nil => 1
  | .ptr d => uptoBulk d + 1
  | .slice elems spare => uptoBulkAll elems + uptoBulkAll spare + 1
  | .agg parts => uptoBulkAll parts + 1
  | .iface _ d => uptoBulk d + 1
  | .map entries => uptoBulkEntries entries + 1
  | .held _ => 1
def uptoBulkAll {H : Type} : List (DataW H) → Nat
  | [] => 0
  | d :: r => uptoBulk d + uptoBulkAll r
def uptoBulkEntries {H : Type} : List (Lit × DataW H) → Nat
  | [] => 0
  | x :: r => uptoBulkEntry x + uptoBulkEntries r
def uptoBulkEntry {H : Type} : Lit × DataW H → Nat
  | (.string bytes, d) => bytes.length + uptoBulk d + 1
  | (_, d) => uptoBulk d + 1
 end
def uptoSmall : (H : Type) → List (DataW H) → Bool := fun _ ds => decide (uptoBulkAll ds ≤ 1048576)
def OpenSpec.upto (s : _root_.Go.ChangeSpec) : _root_.Go.OpenSpec := { _root_.Go.OpenSpec.ofChange s with cond := some uptoSmall }

/-- 'duffellaw09.FinderFinds', WHERE WHAT IT READS IS OF BULK AT MOST 1048576: true; the input reads as it did. -/
def finderFindsUptoRow : OpenClaim := { program := "ytamhlammhhlibaa", sum := "b272e41fc9ae9c6fe3eeafca37a547c95ffc612e8fa8cee2a4cd359032520d0b", func := "duffel/duffellaw09.FinderFinds", spec := "finderFinds", plainKeys := false, apart := false, narrowed := true }
def FinderFindsUptoSaid : Prop := finderFindsUptoRow.holds Try.pinned (OpenSpec.upto finderFindsSpec)

/-- 'duffellaw09.FinderRuns', WHERE WHAT IT READS IS OF BULK AT MOST 1048576: true; the input reads as it did. -/
def finderRunsUptoRow : OpenClaim := { program := "ytamhlammhhlibaa", sum := "b272e41fc9ae9c6fe3eeafca37a547c95ffc612e8fa8cee2a4cd359032520d0b", func := "duffel/duffellaw09.FinderRuns", spec := "finderRuns", plainKeys := false, apart := false, narrowed := true }
def FinderRunsUptoSaid : Prop := finderRunsUptoRow.holds Try.pinned (OpenSpec.upto finderRunsSpec)

/-- 'duffellaw09.FinderNothing', WHERE WHAT IT READS IS OF BULK AT MOST 1048576: true; the input reads as it did. -/
def finderNothingUptoRow : OpenClaim := { program := "ytamhlammhhlibaa", sum := "b272e41fc9ae9c6fe3eeafca37a547c95ffc612e8fa8cee2a4cd359032520d0b", func := "duffel/duffellaw09.FinderNothing", spec := "finderNothing", plainKeys := false, apart := false, narrowed := true }
def FinderNothingUptoSaid : Prop := finderNothingUptoRow.holds Try.pinned (OpenSpec.upto finderNothingSpec)

/-- 'duffellaw09.FinderTells', WHERE WHAT IT READS IS OF BULK AT MOST 1048576: true; the input reads as it did. -/
def finderTellsUptoRow : OpenClaim := { program := "ytamhlammhhlibaa", sum := "b272e41fc9ae9c6fe3eeafca37a547c95ffc612e8fa8cee2a4cd359032520d0b", func := "duffel/duffellaw09.FinderTells", spec := "finderTells", unfollowed := true, recurses := true, plainKeys := false, apart := false, narrowed := true }
def FinderTellsUptoSaid : Prop := finderTellsUptoRow.holds Try.pinned (OpenSpec.upto finderTellsSpec)

end Rows
end Go.Proofs.Ytamhlammhhlibaa
