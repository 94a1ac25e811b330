/-
  No cell of these rows narrows 'for every input' (looked for: loops, veiled, ifaces, maps, wideKeys, modest, calm, conditions, laid).
  DERIVED. THE GIVEN ROWS OF THIS SEAT. 2 by the template 'for every input the law returns true; each argument reads behind the call as it read before'; 0 by the template 'total and deterministic' (their statements: YtcpgnodiphlfhaaTotals.lean).
  GIVEN WITH THE SEED: the statements are not yours to turn. If you find one false, say at which input.
  Laid BY PROGRAM, IN A SANDBOX (cutbox-rows.mjs): the forced cells as the released guide's own fill.sh prints them over the translation 2018bf8320d6b0ae… (all of the seat's roots in one cut). By AI agents, Wed Nov 11 2026. No macro, syntax, notation, axiom, sorry.
-/
import Derived.Test.YtcpgnodiphlfhaaChecked
import GoSem.Claim
import GoSem.ClaimJoined
import GoSem.ClaimMapViews
import Derived.JoinedTies
import Derived.KernelRfl
namespace Go.Proofs.Ytcpgnodiphlfhaa
/- THE CELL 'sum', in the pinned program and in every row, IS THE sha256 OF THE DUMP (.gsa) THAT YtcpgnodiphlfhaaProg.lean LOADS. Nothing in Lean hashes anything: it is a label: what it is worth is what the hold of that sum in a sandbox is worth. -/
noncomputable def Try.pinned : Pinned := { name := "ytcpgnodiphlfhaa", sum := "2018bf8320d6b0aeac0306ae1e63cd7fc3277880839faf57a51cb467ae4c22aa", checked := Try.checked }
namespace Rows
def none {H : Type} : Left H := { results := [], args := [] }

/-- 'duffellaw12.FollowBest': WHATEVER THE INPUT: true; the input reads as it did. -/
def followBestSpec : ChangeSpec := { name := "followBest", fn := fun _ => fun
  | [d] => { results := [.lit (.bool true)], args := [d] }
  | _ => none }
def followBestRow : OpenClaim := { program := "ytcpgnodiphlfhaa", sum := "2018bf8320d6b0aeac0306ae1e63cd7fc3277880839faf57a51cb467ae4c22aa", func := "duffel/duffellaw12.FollowBest", spec := "followBest", inPlace := ["internal/bytealg.IndexByte"], unfollowed := true, recurses := true, apart := false }
def FollowBestSaid : Prop := followBestRow.holds Try.pinned (OpenSpec.ofChange followBestSpec)

/-- ITS FALSE NEIGHBOUR: 'it returns false'. Refute it at one input. -/
def followBestWrong : ChangeSpec := { name := "followBest", fn := fun _ => fun
  | [d] => { results := [.lit (.bool false)], args := [d] }
  | _ => none }
def FollowBestWrongFalsely : Prop := followBestRow.holds Try.pinned (OpenSpec.ofChange followBestWrong)

/-- 'duffellaw12.FollowFewer': WHATEVER THE INPUT: true; the input reads as it did. -/
def followFewerSpec : ChangeSpec := { name := "followFewer", fn := fun _ => fun
  | [d] => { results := [.lit (.bool true)], args := [d] }
  | _ => none }
def followFewerRow : OpenClaim := { program := "ytcpgnodiphlfhaa", sum := "2018bf8320d6b0aeac0306ae1e63cd7fc3277880839faf57a51cb467ae4c22aa", func := "duffel/duffellaw12.FollowFewer", spec := "followFewer", inPlace := ["internal/bytealg.IndexByte"], unfollowed := true, recurses := true, apart := false }
def FollowFewerSaid : Prop := followFewerRow.holds Try.pinned (OpenSpec.ofChange followFewerSpec)

/-- ITS FALSE NEIGHBOUR: 'it returns false'. Refute it at one input. -/
def followFewerWrong : ChangeSpec := { name := "followFewer", fn := fun _ => fun
  | [d] => { results := [.lit (.bool false)], args := [d] }
  | _ => none }
def FollowFewerWrongFalsely : Prop := followFewerRow.holds Try.pinned (OpenSpec.ofChange followFewerWrong)

/- THE SECOND FORM. 'bulk': how many values and letters a reading holds, each counted each time it is reached (what is shared counts as often as it is met; a slice's spare places count too). A statement '..UptoSaid' is the law's where the arguments, and the package variables that the reading takes, are together of bulk at most 1048576: NARROWER than '..Said'. Prove '..Said' where nothing that the law and all that it calls make is longer than what came in: it says more and counts as full. Else prove '..UptoSaid'. A law counts once. -/
mutual
def uptoBulk {H : Type} : DataW H → Nat
  | .lit (.string bytes) => bytes.length + 1
  | .lit _ => 1
  | .nil => 1
  | .ptr d => uptoBulk d + 1
  | .slice elems spare => uptoBulkAll elems + uptoBulkAll spare + 1
  | .agg parts => uptoBulkAll parts + 1
  | .iface _ d => uptoBulk d + 1
  | .map entries => uptoBulkEntries entries + 1
  | .held _ => 1
def uptoBulkAll {H : Type} : List (DataW H) → Nat
  | [] => 0
  | d :: r => uptoBulk d + uptoBulkAll r
def uptoBulkEntries {H : Type} : List (Lit × DataW H) → Nat
  | [] => 0
  | x :: r => uptoBulkEntry x + uptoBulkEntries r
def uptoBulkEntry {H : Type} : Lit × DataW H → Nat
  | (.string bytes, d) => bytes.length + uptoBulk d + 1
  | (_, d) => uptoBulk d + 1
 end
def uptoSmall : (H : Type) → List (DataW H) → Bool := fun _ ds => decide (uptoBulkAll ds ≤ 1048576)
def OpenSpec.upto (s : _root_.Go.ChangeSpec) : _root_.Go.OpenSpec := { _root_.Go.OpenSpec.ofChange s with cond := some uptoSmall }

/-- 'duffellaw12.FollowBest', WHERE WHAT IT READS IS OF BULK AT MOST 1048576: true; the input reads as it did. -/
def followBestUptoRow : OpenClaim := { program := "ytcpgnodiphlfhaa", sum := "2018bf8320d6b0aeac0306ae1e63cd7fc3277880839faf57a51cb467ae4c22aa", func := "duffel/duffellaw12.FollowBest", spec := "followBest", inPlace := ["internal/bytealg.IndexByte"], unfollowed := true, recurses := true, apart := false, narrowed := true }
def FollowBestUptoSaid : Prop := followBestUptoRow.holds Try.pinned (OpenSpec.upto followBestSpec)

/-- 'duffellaw12.FollowFewer', WHERE WHAT IT READS IS OF BULK AT MOST 1048576: true; the input reads as it did. -/
def followFewerUptoRow : OpenClaim := { program := "ytcpgnodiphlfhaa", sum := "2018bf8320d6b0aeac0306ae1e63cd7fc3277880839faf57a51cb467ae4c22aa", func := "duffel/duffellaw12.FollowFewer", spec := "followFewer", inPlace := ["internal/bytealg.IndexByte"], unfollowed := true, recurses := true, apart := false, narrowed := true }
def FollowFewerUptoSaid : Prop := followFewerUptoRow.holds Try.pinned (OpenSpec.upto followFewerSpec)

end Rows
end Go.Proofs.Ytcpgnodiphlfhaa
