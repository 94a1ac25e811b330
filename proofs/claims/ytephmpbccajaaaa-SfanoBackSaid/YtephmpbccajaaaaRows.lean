/-
  No cell of these rows narrows 'for every input' (looked for: loops, veiled, ifaces, maps, wideKeys, modest, calm, conditions, laid).
  DERIVED. THE GIVEN ROWS OF THIS SEAT. 6 by the template 'for every input the law returns true; each argument reads behind the call as it read before'; 0 by the template 'total and deterministic' (their statements: YtephmpbccajaaaaTotals.lean).
  GIVEN WITH THE SEED: the statements are not yours to turn. If you find one false, say at which input.
  Laid BY PROGRAM, IN A SANDBOX (cutbox-rows.mjs): the forced cells as the released guide's own fill.sh prints them over the translation 963d99facafbdfd5… (all of the seat's roots in one cut). By AI agents, Wed Nov 11 2026. No macro, syntax, notation, axiom, sorry.
-/
import Derived.Test.YtephmpbccajaaaaChecked
import GoSem.Claim
import GoSem.ClaimJoined
import GoSem.ClaimMapViews
import Derived.JoinedTies
import Derived.KernelRfl
namespace Go.Proofs.Ytephmpbccajaaaa
/- THE CELL 'sum', in the pinned program and in every row, IS THE sha256 OF THE DUMP (.gsa) THAT YtephmpbccajaaaaProg.lean LOADS. Nothing in Lean hashes anything: it is a label: what it is worth is what the hold of that sum in a sandbox is worth. -/
noncomputable def Try.pinned : Pinned := { name := "ytephmpbccajaaaa", sum := "963d99facafbdfd5cb72109930b979dd04e610050afb6580c604f2c1ac40586d", checked := Try.checked }
namespace Rows
def none {H : Type} : Left H := { results := [], args := [] }

/-- 'duffellaw06.SfanoFree': WHATEVER THE INPUT: true; the input reads as it did. -/
def sfanoFreeSpec : ChangeSpec := { name := "sfanoFree", fn := fun _ => fun
  | [d] => { results := [.lit (.bool true)], args := [d] }
  | _ => none }
def sfanoFreeRow : OpenClaim := { program := "ytephmpbccajaaaa", sum := "963d99facafbdfd5cb72109930b979dd04e610050afb6580c604f2c1ac40586d", func := "duffel/duffellaw06.SfanoFree", spec := "sfanoFree", unfollowed := true, recurses := true, apart := false }
def SfanoFreeSaid : Prop := sfanoFreeRow.holds Try.pinned (OpenSpec.ofChange sfanoFreeSpec)

/-- ITS FALSE NEIGHBOUR: 'it returns false'. Refute it at one input. -/
def sfanoFreeWrong : ChangeSpec := { name := "sfanoFree", fn := fun _ => fun
  | [d] => { results := [.lit (.bool false)], args := [d] }
  | _ => none }
def SfanoFreeWrongFalsely : Prop := sfanoFreeRow.holds Try.pinned (OpenSpec.ofChange sfanoFreeWrong)

/-- 'duffellaw06.SfanoPacks': WHATEVER THE INPUT: true; the input reads as it did. -/
def sfanoPacksSpec : ChangeSpec := { name := "sfanoPacks", fn := fun _ => fun
  | [d] => { results := [.lit (.bool true)], args := [d] }
  | _ => none }
def sfanoPacksRow : OpenClaim := { program := "ytephmpbccajaaaa", sum := "963d99facafbdfd5cb72109930b979dd04e610050afb6580c604f2c1ac40586d", func := "duffel/duffellaw06.SfanoPacks", spec := "sfanoPacks", unfollowed := true, recurses := true, apart := false }
def SfanoPacksSaid : Prop := sfanoPacksRow.holds Try.pinned (OpenSpec.ofChange sfanoPacksSpec)

/-- ITS FALSE NEIGHBOUR: 'it returns false'. Refute it at one input. -/
def sfanoPacksWrong : ChangeSpec := { name := "sfanoPacks", fn := fun _ => fun
  | [d] => { results := [.lit (.bool false)], args := [d] }
  | _ => none }
def SfanoPacksWrongFalsely : Prop := sfanoPacksRow.holds Try.pinned (OpenSpec.ofChange sfanoPacksWrong)

/-- 'duffellaw06.SfanoWords': WHATEVER THE INPUT: true; the input reads as it did. -/
def sfanoWordsSpec : ChangeSpec := { name := "sfanoWords", fn := fun _ => fun
  | [d] => { results := [.lit (.bool true)], args := [d] }
  | _ => none }
def sfanoWordsRow : OpenClaim := { program := "ytephmpbccajaaaa", sum := "963d99facafbdfd5cb72109930b979dd04e610050afb6580c604f2c1ac40586d", func := "duffel/duffellaw06.SfanoWords", spec := "sfanoWords", unfollowed := true, recurses := true, apart := false }
def SfanoWordsSaid : Prop := sfanoWordsRow.holds Try.pinned (OpenSpec.ofChange sfanoWordsSpec)

/-- ITS FALSE NEIGHBOUR: 'it returns false'. Refute it at one input. -/
def sfanoWordsWrong : ChangeSpec := { name := "sfanoWords", fn := fun _ => fun
  | [d] => { results := [.lit (.bool false)], args := [d] }
  | _ => none }
def SfanoWordsWrongFalsely : Prop := sfanoWordsRow.holds Try.pinned (OpenSpec.ofChange sfanoWordsWrong)

/-- 'duffellaw06.SfanoReads': WHATEVER THE INPUT: true; the input reads as it did. -/
def sfanoReadsSpec : ChangeSpec := { name := "sfanoReads", fn := fun _ => fun
  | [d1, d2] => { results := [.lit (.bool true)], args := [d1, d2] }
  | _ => none }
def sfanoReadsRow : OpenClaim := { program := "ytephmpbccajaaaa", sum := "963d99facafbdfd5cb72109930b979dd04e610050afb6580c604f2c1ac40586d", func := "duffel/duffellaw06.SfanoReads", spec := "sfanoReads", unfollowed := true, recurses := true, apart := false }
def SfanoReadsSaid : Prop := sfanoReadsRow.holds Try.pinned (OpenSpec.ofChange sfanoReadsSpec)

/-- ITS FALSE NEIGHBOUR: 'it returns false'. Refute it at one input. -/
def sfanoReadsWrong : ChangeSpec := { name := "sfanoReads", fn := fun _ => fun
  | [d1, d2] => { results := [.lit (.bool false)], args := [d1, d2] }
  | _ => none }
def SfanoReadsWrongFalsely : Prop := sfanoReadsRow.holds Try.pinned (OpenSpec.ofChange sfanoReadsWrong)

/-- 'duffellaw06.SfanoNobody': WHATEVER THE INPUT: true; the input reads as it did. -/
def sfanoNobodySpec : ChangeSpec := { name := "sfanoNobody", fn := fun _ => fun
  | [d] => { results := [.lit (.bool true)], args := [d] }
  | _ => none }
def sfanoNobodyRow : OpenClaim := { program := "ytephmpbccajaaaa", sum := "963d99facafbdfd5cb72109930b979dd04e610050afb6580c604f2c1ac40586d", func := "duffel/duffellaw06.SfanoNobody", spec := "sfanoNobody", unfollowed := true, recurses := true, apart := false }
def SfanoNobodySaid : Prop := sfanoNobodyRow.holds Try.pinned (OpenSpec.ofChange sfanoNobodySpec)

/-- ITS FALSE NEIGHBOUR: 'it returns false'. Refute it at one input. -/
def sfanoNobodyWrong : ChangeSpec := { name := "sfanoNobody", fn := fun _ => fun
  | [d] => { results := [.lit (.bool false)], args := [d] }
  | _ => none }
def SfanoNobodyWrongFalsely : Prop := sfanoNobodyRow.holds Try.pinned (OpenSpec.ofChange sfanoNobodyWrong)

/-- 'duffellaw06.SfanoBack': WHATEVER THE INPUT: true; the input reads as it did. -/
def sfanoBackSpec : ChangeSpec := { name := "sfanoBack", fn := fun _ => fun
  | [d1, d2] => { results := [.lit (.bool true)], args := [d1, d2] }
  | _ => none }
def sfanoBackRow : OpenClaim := { program := "ytephmpbccajaaaa", sum := "963d99facafbdfd5cb72109930b979dd04e610050afb6580c604f2c1ac40586d", func := "duffel/duffellaw06.SfanoBack", spec := "sfanoBack", unfollowed := true, recurses := true, apart := false }
def SfanoBackSaid : Prop := sfanoBackRow.holds Try.pinned (OpenSpec.ofChange sfanoBackSpec)

/-- ITS FALSE NEIGHBOUR: 'it returns false'. Refute it at one input. -/
def sfanoBackWrong : ChangeSpec := { name := "sfanoBack", fn := fun _ => fun
  | [d1, d2] => { results := [.lit (.bool false)], args := [d1, d2] }
  | _ => none }
def SfanoBackWrongFalsely : Prop := sfanoBackRow.holds Try.pinned (OpenSpec.ofChange sfanoBackWrong)

/- THE SECOND FORM. 'bulk': how many values and letters a reading holds, each counted each time it is reached (what is shared counts as often as it is met; a slice's spare places count too). A statement '..UptoSaid' is the law's where the arguments, and the package variables that the reading takes, are together of bulk at most 1048576: NARROWER than '..Said'. Prove '..Said' where nothing that the law and all that it calls make is longer than what came in: it says more and counts as full. Else prove '..UptoSaid'. A law counts once. -/
mutual
def uptoBulk {H : Type} : DataW H → Nat
  | .lit (.string bytes) => bytes.length + 1
  | .lit _ => 1
  | .nil => 1
  | .ptr d => uptoBulk d + 1
  | .slice elems spare => uptoBulkAll elems + uptoBulkAll spare + 1
  | .agg parts => uptoBulkAll parts + 1
  | .iface _ d => uptoBulk d + 1
  | .map entries => uptoBulkEntries entries + 1
  | .held _ => 1
def uptoBulkAll {H : Type} : List (DataW H) → Nat
  | [] => 0
  | d :: r => uptoBulk d + uptoBulkAll r
def uptoBulkEntries {H : Type} : List (Lit × DataW H) → Nat
  | [] => 0
  | x :: r => uptoBulkEntry x + uptoBulkEntries r
def uptoBulkEntry {H : Type} : Lit × DataW H → Nat
  | (.string bytes, d) => bytes.length + uptoBulk d + 1
  | (_, d) => uptoBulk d + 1
 end
def uptoSmall : (H : Type) → List (DataW H) → Bool := fun _ ds => decide (uptoBulkAll ds ≤ 1048576)
def OpenSpec.upto (s : _root_.Go.ChangeSpec) : _root_.Go.OpenSpec := { _root_.Go.OpenSpec.ofChange s with cond := some uptoSmall }

/-- 'duffellaw06.SfanoFree', WHERE WHAT IT READS IS OF BULK AT MOST 1048576: true; the input reads as it did. -/
def sfanoFreeUptoRow : OpenClaim := { program := "ytephmpbccajaaaa", sum := "963d99facafbdfd5cb72109930b979dd04e610050afb6580c604f2c1ac40586d", func := "duffel/duffellaw06.SfanoFree", spec := "sfanoFree", unfollowed := true, recurses := true, apart := false, narrowed := true }
def SfanoFreeUptoSaid : Prop := sfanoFreeUptoRow.holds Try.pinned (OpenSpec.upto sfanoFreeSpec)

/-- 'duffellaw06.SfanoPacks', WHERE WHAT IT READS IS OF BULK AT MOST 1048576: true; the input reads as it did. -/
def sfanoPacksUptoRow : OpenClaim := { program := "ytephmpbccajaaaa", sum := "963d99facafbdfd5cb72109930b979dd04e610050afb6580c604f2c1ac40586d", func := "duffel/duffellaw06.SfanoPacks", spec := "sfanoPacks", unfollowed := true, recurses := true, apart := false, narrowed := true }
def SfanoPacksUptoSaid : Prop := sfanoPacksUptoRow.holds Try.pinned (OpenSpec.upto sfanoPacksSpec)

/-- 'duffellaw06.SfanoWords', WHERE WHAT IT READS IS OF BULK AT MOST 1048576: true; the input reads as it did. -/
def sfanoWordsUptoRow : OpenClaim := { program := "ytephmpbccajaaaa", sum := "963d99facafbdfd5cb72109930b979dd04e610050afb6580c604f2c1ac40586d", func := "duffel/duffellaw06.SfanoWords", spec := "sfanoWords", unfollowed := true, recurses := true, apart := false, narrowed := true }
def SfanoWordsUptoSaid : Prop := sfanoWordsUptoRow.holds Try.pinned (OpenSpec.upto sfanoWordsSpec)

/-- 'duffellaw06.SfanoReads', WHERE WHAT IT READS IS OF BULK AT MOST 1048576: true; the input reads as it did. -/
def sfanoReadsUptoRow : OpenClaim := { program := "ytephmpbccajaaaa", sum := "963d99facafbdfd5cb72109930b979dd04e610050afb6580c604f2c1ac40586d", func := "duffel/duffellaw06.SfanoReads", spec := "sfanoReads", unfollowed := true, recurses := true, apart := false, narrowed := true }
def SfanoReadsUptoSaid : Prop := sfanoReadsUptoRow.holds Try.pinned (OpenSpec.upto sfanoReadsSpec)

/-- 'duffellaw06.SfanoNobody', WHERE WHAT IT READS IS OF BULK AT MOST 1048576: true; the input reads as it did. -/
def sfanoNobodyUptoRow : OpenClaim := { program := "ytephmpbccajaaaa", sum := "963d99facafbdfd5cb72109930b979dd04e610050afb6580c604f2c1ac40586d", func := "duffel/duffellaw06.SfanoNobody", spec := "sfanoNobody", unfollowed := true, recurses := true, apart := false, narrowed := true }
def SfanoNobodyUptoSaid : Prop := sfanoNobodyUptoRow.holds Try.pinned (OpenSpec.upto sfanoNobodySpec)

/-- 'duffellaw06.SfanoBack', WHERE WHAT IT READS IS OF BULK AT MOST 1048576: true; the input reads as it did. -/
def sfanoBackUptoRow : OpenClaim := { program := "ytephmpbccajaaaa", sum := "963d99facafbdfd5cb72109930b979dd04e610050afb6580c604f2c1ac40586d", func := "duffel/duffellaw06.SfanoBack", spec := "sfanoBack", unfollowed := true, recurses := true, apart := false, narrowed := true }
def SfanoBackUptoSaid : Prop := sfanoBackUptoRow.holds Try.pinned (OpenSpec.upto sfanoBackSpec)

end Rows
end Go.Proofs.Ytephmpbccajaaaa
