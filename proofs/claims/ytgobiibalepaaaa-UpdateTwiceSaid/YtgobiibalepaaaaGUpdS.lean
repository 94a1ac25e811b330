/- The plan in the print's own words. No condition. -/
import Derived.Test.YtgobiibalepaaaaQx0
import Derived.Test.YtgobiibalepaaaaUPlain
namespace Go.Proofs.Ytgobiibalepaaaa.Q
open Go.RowKit Go.Proofs.YtgobiibalepaaaaW.PrintWords Go.Proofs.YtgobiibalepaaaaW.PrintLast Go.Proofs.YtgobiibalepaaaaW.PrintMore
abbrev Uhg := S54
def keysT (l : List S54) : List (List Int) := l.map fun x => foldN x.f0
def laterT (a b : S54) : Bool := if a.f2 = b.f2 then decide (b.f1 < a.f1) else decide (b.f2 < a.f2)
def actS (a : Int × Int × Int) : S32 := ⟨a.1, a.2.1, a.2.2⟩
def ltT (l1 l2 : List S54) (j i : Nat) : Bool := laterT (l2.getD j z54) (l1.getD i z54)
def planT (mode : Int) (l1 l2 : List S54) : List S32 := (olds mode (keysT l1) (keysT l2) (ltT l1 l2) l1.length ++ news mode (keysT l1) (keysT l2) l2.length).map actS
def thingsOk (l : List S54) : Bool := decide (l.length ≤ 1000) && l.all fun x => decide (x.f0.length ≤ 1000) && bytesOk x.f0
end Go.Proofs.Ytgobiibalepaaaa.Q

