/-
  No cell of these rows narrows 'for every input' (looked for: loops, veiled, ifaces, maps, wideKeys, modest, calm, conditions, laid).
  DERIVED. THE GIVEN ROWS OF THIS SEAT. 5 by the template 'for every input the law returns true; each argument reads behind the call as it read before'; 0 by the template 'total and deterministic' (their statements: YtdmemmpkkibckaaTotals.lean).
  GIVEN WITH THE SEED: the statements are not yours to turn. If you find one false, say at which input.
  Laid BY PROGRAM, IN A SANDBOX (cutbox-rows.mjs): the forced cells as the released guide's own fill.sh prints them over the translation bea8cf2d3297fdba… (all of the seat's roots in one cut). By AI agents, Wed Nov 11 2026. No macro, syntax, notation, axiom, sorry.
-/
import Derived.Test.YtdmemmpkkibckaaChecked
import GoSem.Claim
import GoSem.ClaimJoined
import GoSem.ClaimMapViews
import Derived.JoinedTies
import Derived.KernelRfl
namespace Go.Proofs.Ytdmemmpkkibckaa
/- THE CELL 'sum', in the pinned program and in every row, IS THE sha256 OF THE DUMP (.gsa) THAT YtdmemmpkkibckaaProg.lean LOADS. Nothing in Lean hashes anything: it is a label: what it is worth is what the hold of that sum in a sandbox is worth. -/
noncomputable def Try.pinned : Pinned := { name := "ytdmemmpkkibckaa", sum := "bea8cf2d3297fdba6c4f4202c7afab3d775841a9e29388a2aee90d73752f96b8", checked := Try.checked }
namespace Rows
def none {H : Type} : Left H := { results := [], args := [] }

/-- 'duffellaw14.ReduceWrites': WHATEVER THE INPUT: true; the input reads as it did. -/
def reduceWritesSpec : ChangeSpec := { name := "reduceWrites", fn := fun _ => fun
  | [d1, d2] => { results := [.lit (.bool true)], args := [d1, d2] }
  | _ => none }
def reduceWritesRow : OpenClaim := { program := "ytdmemmpkkibckaa", sum := "bea8cf2d3297fdba6c4f4202c7afab3d775841a9e29388a2aee90d73752f96b8", func := "duffel/duffellaw14.ReduceWrites", spec := "reduceWrites", inPlace := ["internal/bytealg.IndexByte"], unfollowed := true, recurses := true, plainKeys := false, apart := false }
def ReduceWritesSaid : Prop := reduceWritesRow.holds Try.pinned (OpenSpec.ofChange reduceWritesSpec)

/-- ITS FALSE NEIGHBOUR: 'it returns false'. Refute it at one input. -/
def reduceWritesWrong : ChangeSpec := { name := "reduceWrites", fn := fun _ => fun
  | [d1, d2] => { results := [.lit (.bool false)], args := [d1, d2] }
  | _ => none }
def ReduceWritesWrongFalsely : Prop := reduceWritesRow.holds Try.pinned (OpenSpec.ofChange reduceWritesWrong)

/-- 'duffellaw14.ReduceReads': WHATEVER THE INPUT: true; the input reads as it did. -/
def reduceReadsSpec : ChangeSpec := { name := "reduceReads", fn := fun _ => fun
  | [d1, d2, d3] => { results := [.lit (.bool true)], args := [d1, d2, d3] }
  | _ => none }
def reduceReadsRow : OpenClaim := { program := "ytdmemmpkkibckaa", sum := "bea8cf2d3297fdba6c4f4202c7afab3d775841a9e29388a2aee90d73752f96b8", func := "duffel/duffellaw14.ReduceReads", spec := "reduceReads", inPlace := ["internal/bytealg.IndexByte"], unfollowed := true, recurses := true, plainKeys := false, apart := false }
def ReduceReadsSaid : Prop := reduceReadsRow.holds Try.pinned (OpenSpec.ofChange reduceReadsSpec)

/-- ITS FALSE NEIGHBOUR: 'it returns false'. Refute it at one input. -/
def reduceReadsWrong : ChangeSpec := { name := "reduceReads", fn := fun _ => fun
  | [d1, d2, d3] => { results := [.lit (.bool false)], args := [d1, d2, d3] }
  | _ => none }
def ReduceReadsWrongFalsely : Prop := reduceReadsRow.holds Try.pinned (OpenSpec.ofChange reduceReadsWrong)

/-- 'duffellaw14.ReduceBack': WHATEVER THE INPUT: true; the input reads as it did. -/
def reduceBackSpec : ChangeSpec := { name := "reduceBack", fn := fun _ => fun
  | [d1, d2] => { results := [.lit (.bool true)], args := [d1, d2] }
  | _ => none }
def reduceBackRow : OpenClaim := { program := "ytdmemmpkkibckaa", sum := "bea8cf2d3297fdba6c4f4202c7afab3d775841a9e29388a2aee90d73752f96b8", func := "duffel/duffellaw14.ReduceBack", spec := "reduceBack", inPlace := ["internal/bytealg.IndexByte"], unfollowed := true, recurses := true, plainKeys := false, apart := false }
def ReduceBackSaid : Prop := reduceBackRow.holds Try.pinned (OpenSpec.ofChange reduceBackSpec)

/-- ITS FALSE NEIGHBOUR: 'it returns false'. Refute it at one input. -/
def reduceBackWrong : ChangeSpec := { name := "reduceBack", fn := fun _ => fun
  | [d1, d2] => { results := [.lit (.bool false)], args := [d1, d2] }
  | _ => none }
def ReduceBackWrongFalsely : Prop := reduceBackRow.holds Try.pinned (OpenSpec.ofChange reduceBackWrong)

/-- 'duffellaw14.ReduceBounds': WHATEVER THE INPUT: true; the input reads as it did. -/
def reduceBoundsSpec : ChangeSpec := { name := "reduceBounds", fn := fun _ => fun
  | [d1, d2, d3] => { results := [.lit (.bool true)], args := [d1, d2, d3] }
  | _ => none }
def reduceBoundsRow : OpenClaim := { program := "ytdmemmpkkibckaa", sum := "bea8cf2d3297fdba6c4f4202c7afab3d775841a9e29388a2aee90d73752f96b8", func := "duffel/duffellaw14.ReduceBounds", spec := "reduceBounds", inPlace := ["internal/bytealg.IndexByte"], unfollowed := true, recurses := true, plainKeys := false, apart := false }
def ReduceBoundsSaid : Prop := reduceBoundsRow.holds Try.pinned (OpenSpec.ofChange reduceBoundsSpec)

/-- ITS FALSE NEIGHBOUR: 'it returns false'. Refute it at one input. -/
def reduceBoundsWrong : ChangeSpec := { name := "reduceBounds", fn := fun _ => fun
  | [d1, d2, d3] => { results := [.lit (.bool false)], args := [d1, d2, d3] }
  | _ => none }
def ReduceBoundsWrongFalsely : Prop := reduceBoundsRow.holds Try.pinned (OpenSpec.ofChange reduceBoundsWrong)

/-- 'duffellaw14.ReduceOther': WHATEVER THE INPUT: true; the input reads as it did. -/
def reduceOtherSpec : ChangeSpec := { name := "reduceOther", fn := fun _ => fun
  | [d1, d2, d3] => { results := [.lit (.bool true)], args := [d1, d2, d3] }
  | _ => none }
def reduceOtherRow : OpenClaim := { program := "ytdmemmpkkibckaa", sum := "bea8cf2d3297fdba6c4f4202c7afab3d775841a9e29388a2aee90d73752f96b8", func := "duffel/duffellaw14.ReduceOther", spec := "reduceOther", inPlace := ["internal/bytealg.IndexByte"], unfollowed := true, recurses := true, plainKeys := false, apart := false }
def ReduceOtherSaid : Prop := reduceOtherRow.holds Try.pinned (OpenSpec.ofChange reduceOtherSpec)

/-- ITS FALSE NEIGHBOUR: 'it returns false'. Refute it at one input. -/
def reduceOtherWrong : ChangeSpec := { name := "reduceOther", fn := fun _ => fun
  | [d1, d2, d3] => { results := [.lit (.bool false)], args := [d1, d2, d3] }
  | _ => none }
def ReduceOtherWrongFalsely : Prop := reduceOtherRow.holds Try.pinned (OpenSpec.ofChange reduceOtherWrong)

/- THE SECOND FORM. 'bulk': how many values and letters a reading holds, each counted each time it is reached (what is shared counts as often as it is met; a slice's spare places count too). A statement '..UptoSaid' is the law's where the arguments, and the package variables that the reading takes, are together of bulk at most 1048576: NARROWER than '..Said'. Prove '..Said' where nothing that the law and all that it calls make is longer than what came in: it says more and counts as full. Else prove '..UptoSaid'. A law counts once. -/
mutual
def uptoBulk {H : Type} : DataW H → Nat
  | .lit (.string bytes) => bytes.length + 1
  | .lit _ => 1
  | .nil => 1
  | .ptr d => uptoBulk d + 1
  | .slice elems spare => uptoBulkAll elems + uptoBulkAll spare + 1
  | .agg parts => uptoBulkAll parts + 1
  | .iface _ d => uptoBulk d + 1
  | .map entries => uptoBulkEntries entries + 1
  | .held _ => 1
def uptoBulkAll {H : Type} : List (DataW H) → Nat
  | [] => 0
  | d :: r => uptoBulk d + uptoBulkAll r
def uptoBulkEntries {H : Type} : List (Lit × DataW H) → Nat
  | [] => 0
  | x :: r => uptoBulkEntry x + uptoBulkEntries r
def uptoBulkEntry {H : Type} : Lit × DataW H → Nat
  | (.string bytes, d) => bytes.length + uptoBulk d + 1
  | (_, d) => uptoBulk d + 1
 end
def uptoSmall : (H : Type) → List (DataW H) → Bool := fun _ ds => decide (uptoBulkAll ds ≤ 1048576)
def OpenSpec.upto (s : _root_.Go.ChangeSpec) : _root_.Go.OpenSpec := { _root_.Go.OpenSpec.ofChange s with cond := some uptoSmall }

/-- 'duffellaw14.ReduceWrites', WHERE WHAT IT READS IS OF BULK AT MOST 1048576: true; the input reads as it did. -/
def reduceWritesUptoRow : OpenClaim := { program := "ytdmemmpkkibckaa", sum := "bea8cf2d3297fdba6c4f4202c7afab3d775841a9e29388a2aee90d73752f96b8", func := "duffel/duffellaw14.ReduceWrites", spec := "reduceWrites", inPlace := ["internal/bytealg.IndexByte"], unfollowed := true, recurses := true, plainKeys := false, apart := false, narrowed := true }
def ReduceWritesUptoSaid : Prop := reduceWritesUptoRow.holds Try.pinned (OpenSpec.upto reduceWritesSpec)

/-- 'duffellaw14.ReduceReads', WHERE WHAT IT READS IS OF BULK AT MOST 1048576: true; the input reads as it did. -/
def reduceReadsUptoRow : OpenClaim := { program := "ytdmemmpkkibckaa", sum := "bea8cf2d3297fdba6c4f4202c7afab3d775841a9e29388a2aee90d73752f96b8", func := "duffel/duffellaw14.ReduceReads", spec := "reduceReads", inPlace := ["internal/bytealg.IndexByte"], unfollowed := true, recurses := true, plainKeys := false, apart := false, narrowed := true }
def ReduceReadsUptoSaid : Prop := reduceReadsUptoRow.holds Try.pinned (OpenSpec.upto reduceReadsSpec)

/-- 'duffellaw14.ReduceBack', WHERE WHAT IT READS IS OF BULK AT MOST 1048576: true; the input reads as it did. -/
def reduceBackUptoRow : OpenClaim := { program := "ytdmemmpkkibckaa", sum := "bea8cf2d3297fdba6c4f4202c7afab3d775841a9e29388a2aee90d73752f96b8", func := "duffel/duffellaw14.ReduceBack", spec := "reduceBack", inPlace := ["internal/bytealg.IndexByte"], unfollowed := true, recurses := true, plainKeys := false, apart := false, narrowed := true }
def ReduceBackUptoSaid : Prop := reduceBackUptoRow.holds Try.pinned (OpenSpec.upto reduceBackSpec)

/-- 'duffellaw14.ReduceBounds', WHERE WHAT IT READS IS OF BULK AT MOST 1048576: true; the input reads as it did. -/
def reduceBoundsUptoRow : OpenClaim := { program := "ytdmemmpkkibckaa", sum := "bea8cf2d3297fdba6c4f4202c7afab3d775841a9e29388a2aee90d73752f96b8", func := "duffel/duffellaw14.ReduceBounds", spec := "reduceBounds", inPlace := ["internal/bytealg.IndexByte"], unfollowed := true, recurses := true, plainKeys := false, apart := false, narrowed := true }
def ReduceBoundsUptoSaid : Prop := reduceBoundsUptoRow.holds Try.pinned (OpenSpec.upto reduceBoundsSpec)

/-- 'duffellaw14.ReduceOther', WHERE WHAT IT READS IS OF BULK AT MOST 1048576: true; the input reads as it did. -/
def reduceOtherUptoRow : OpenClaim := { program := "ytdmemmpkkibckaa", sum := "bea8cf2d3297fdba6c4f4202c7afab3d775841a9e29388a2aee90d73752f96b8", func := "duffel/duffellaw14.ReduceOther", spec := "reduceOther", inPlace := ["internal/bytealg.IndexByte"], unfollowed := true, recurses := true, plainKeys := false, apart := false, narrowed := true }
def ReduceOtherUptoSaid : Prop := reduceOtherUptoRow.holds Try.pinned (OpenSpec.upto reduceOtherSpec)

end Rows
end Go.Proofs.Ytdmemmpkkibckaa
