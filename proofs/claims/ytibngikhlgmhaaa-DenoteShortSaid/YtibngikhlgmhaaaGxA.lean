/- A plain machine for the translated code: one order (the text's), memory as a list of named blocks, no draws; in the form of continuations. Definitions alone. No condition. -/
import Derived.Calls
import Derived.Orders
import Derived.KernelRfl
import Derived.Below
import Derived.Deep.MidRow
import Derived.Deep.Draws
import Derived.Laws.Entries
import Derived.ArgAppend
import Derived.Laws.Cover3
import Derived.Laws.Pointers
import Derived.Laws.Small
import Derived.Laws.Slices
import Derived.Laws.StructEq
import Derived.ChangeKeysEq
import Derived.Laws.Tables
import Derived.Great.BuildSlice
import Derived.Laws.MakeOwn
namespace Go.Proofs.Ytibngikhlgmhaaa.Gx
open Go
set_option linter.unusedVariables false

/-- A value without any address in it. -/
def plain1 : Value → Bool
  | .bool _ | .int _ _ | .float _ _ | .complex _ _ _ | .string _ | .nilFunc | .nilIface => true
  | .pointer none | .map none | .chan none => true
  | .slice none _ _ => true
  | _ => false
def plains : List Value → Bool
  | [] => true
  | v :: r => plain1 v && plains r
/-- A value that one cell can hold. -/
def isCell : Value → Bool
  | .agg _ | .tuple _ => false
  | _ => true
def allCells : List Value → Bool
  | [] => true
  | v :: r => isCell v && allCells r
def nth {α : Type} : List α → Nat → Option α
  | [], _ => none
  | x :: _, 0 => some x
  | _ :: r, n + 1 => nth r n
def nset {α : Type} : List α → Nat → α → List α
  | [], _, _ => []
  | _ :: r, 0, y => y :: r
  | x :: r, n + 1, y => x :: nset r n y
def ndrop {α : Type} : List α → Nat → List α
  | l, 0 => l
  | [], _ + 1 => []
  | _ :: r, n + 1 => ndrop r n
def ntake {α : Type} : Nat → List α → List α
  | 0, _ => []
  | _ + 1, [] => []
  | n + 1, x :: r => x :: ntake n r
def nlen {α : Type} (l : List α) : Nat := l.length
/-- n things from o on, if they are there -/
def nsub {α : Type} (l : List α) (o n : Nat) : Option (List α) := bif Nat.ble (o + n) l.length then some (ntake n (ndrop l o)) else none
/-- a list laid over another one from o on -/
def nlay {α : Type} (l : List α) (o : Nat) (m : List α) : List α := ntake o l ++ m ++ ndrop l (o + m.length)

/-! ### memory -/
structure Blk where
  cells : List Value
  /-- cells of an element, where the block may be appended to; 0: never -/
  esz : Nat
  /-- never written -/
  ro : Bool
inductive GObj
  | row (b : Blk)
  | map (es : List (Value × Value))
structure GH where
  next : Nat
  get : Nat → Option GObj
def GH.look (h : GH) (g : Nat) : Option GObj := bif Nat.blt g h.next then h.get g else none
def GH.push (h : GH) (o : GObj) : GH := ⟨h.next + 1, fun g => bif Nat.beq g h.next then some o else h.get g⟩
def GH.put (h : GH) (g : Nat) (o : Option GObj) : GH := ⟨h.next, fun g' => bif Nat.beq g' g then o else h.get g'⟩
def GH.empty : GH := ⟨0, fun _ => none⟩
def GH.row (h : GH) (g : Nat) : Option Blk := match h.look g with | some (.row b) => some b | _ => none
def rowCell : Option GObj → Nat → Option Value
  | some (.row b), o => nth b.cells o
  | _, _ => none
def GH.cell (h : GH) (a : Addr) : Option Value := match a.spot with | none => rowCell (h.look a.block) a.off | some _ => none

structure Sl where
  a : Option Addr
  n : Nat
  c : Nat

/-! ### what is in one cell, by its kind -/
inductive CK | int (k : IntKind) | bool | str | ptr | sl | raw
section
variable {β : Type}
def exI (k : IntKind) (v : Option Value) (K : Int → Option β) : Option β := match v with | some (.int k' n) => (bif decide (k' = k) then K n else none) | _ => none
def exB (v : Option Value) (K : Bool → Option β) : Option β := match v with | some (.bool b) => K b | _ => none
def exT (v : Option Value) (K : ByteArray → Option β) : Option β := match v with | some (.string s) => K s | _ => none
def exP (v : Option Value) (K : Option Addr → Option β) : Option β := match v with | some (.pointer p) => K p | _ => none
def exS (v : Option Value) (K : Sl → Option β) : Option β := match v with | some (.slice a n c) => K ⟨a, n, c⟩ | _ => none
/-- an address: a block's name and a place in it -/
def exA (p : Option Addr) (K : Nat → Nat → Option β) : Option β := match p with | some ⟨g, o, none⟩ => K g o | _ => none
/-- cells in a row, if they are there -/
def exL (v : Option (List Value)) (K : List Value → Option β) : Option β := match v with | some x => K x | none => none
/-- an aggregate's cells -/
def exAg (v : Value) (K : List Value → Option β) : Option β := match v with | .agg cs => K cs.toList | _ => none
/-- a bound of a slice expression -/
def bnd (i : Int) (le : Nat) (K : Nat → Option β) : Option β := bif decide (0 ≤ i) then (bif decide (i ≤ le) then K i.toNat else none) else none
def exV (v : Option Value) (K : Value → Option β) : Option β := match v with | some x => K x | none => none
def exK (k : CK) (v : Option Value) (K : Value → Option β) : Option β := match k with
  | .int k => exI k v fun n => K (.int k n)
  | .bool => exB v fun b => K (.bool b)
  | .str => exT v fun b => K (.string b)
  | .ptr => exP v fun b => K (.pointer b)
  | .sl => exS v fun s => K (.slice s.a s.n s.c)
  | .raw => exV v K
/-- cells one behind the other, each by its kind -/
def exN : List CK → (Nat → Option Value) → Nat → (List Value → Option β) → Option β
  | [], _, _, K => K []
  | k :: r, f, o, K => exK k (f o) fun v => exN r f (o + 1) fun vs => K (v :: vs)
end

/-! ### types -/
def ckD : TypeDesc → CK
  | .int k => .int k | .bool => .bool | .string => .str | .pointer _ => .ptr | .slice _ => .sl | _ => .raw
def aggD : TypeDesc → Bool
  | .struct _ | .array _ _ => true
  | _ => false
def reps {α : Type} : Nat → List α → List α
  | 0, _ => []
  | n + 1, l => l ++ reps n l
def flat (P : Program) : Nat → TypeId → List CK
  | 0, _ => [.raw]
  | d + 1, t => match P.underlying t with
    | some (.struct fs) => fs.toList.foldr (fun f acc => flat P d f.type ++ acc) []
    | some (.array n e) => reps n (flat P d e)
    | some d => [ckD d]
    | none => []
def sizeT (P : Program) (t : TypeId) : Option Nat := (P.info? t).map (·.size)
def bytesT (P : Program) (t : TypeId) : Option Nat := (P.info? t).map (·.bytes)
def zeroT (P : Program) (t : TypeId) : Option Value := match P.info? t with | some i => i.zero | none => none
def vcells : Value → List Value
  | .agg cs => cs.toList
  | v => [v]
/-- the greatest aggregate that is told cell by cell -/
def small : Nat := 18

section
variable {β : Type} (P : Program)
/-- a value of type t out of a list's cells: small aggregates cell by cell, the others whole -/
def exCells (t : TypeId) (cs : List Value) (o : Nat) (K : Value → Option β) : Option β := match P.underlying t with
  | none => none
  | some d => bif aggD d then (match sizeT P t with
    | some n => (bif Nat.ble n small && Nat.beq (flat P 4 t).length n then exN (flat P 4 t) (nth cs) o fun vs => K (.agg vs.toArray)
      else exL (nsub cs o n) fun vs => K (.agg vs.toArray))
    | none => none)
  else exK (ckD d) (nth cs o) K
def rowCells (ob : Option GObj) : List Value := match ob with | some (.row b) => b.cells | _ => []
def gload (t : TypeId) (g o : Nat) (h : GH) (K : Value → Option β) : Option β := match P.underlying t with
  | none => none
  | some d => bif aggD d then (match sizeT P t with
    | some n => (bif Nat.beq n 0 then none else bif Nat.ble n small && Nat.beq (flat P 4 t).length n then exN (flat P 4 t) (fun o => h.cell ⟨g, o, none⟩) o fun vs => K (.agg vs.toArray)
      else exL (nsub (rowCells (h.look g)) o n) fun vs => K (.agg vs.toArray))
    | none => none)
  else exK (ckD d) (h.cell ⟨g, o, none⟩) K
/-- writes cells into a block that is there -/
def gput (g o : Nat) (vs : List Value) (h : GH) (K : GH → Option β) : Option β := match h.look g with
    | some (.row b) => (bif b.ro || !allCells vs then none else bif Nat.ble (o + vs.length) b.cells.length then K (h.put g (some (.row { b with cells := nlay b.cells o vs }))) else none)
    | _ => none
/-- a new block -/
def gnew (cs : List Value) (esz : Nat) (h : GH) (K : Nat → GH → Option β) : Option β := bif allCells cs then K h.next (h.push (.row ⟨cs, esz, false⟩)) else none
end

/-! ### slots -/
/-- what stands in a slot whose operation was passed over -/
def skipV : Value := .tuple #[.tuple #[]]
def isSkip : Value → Bool
  | .tuple vs => (match vs.toList with | [] => false | _ => true)
  | _ => false
abbrev Env := List (Nat × Value)
def Env.get : Env → Nat → Value
  | [], _ => undef
  | (d, v) :: r, t => bif Nat.beq d t then v else Env.get r t
def Env.put (e : Env) (d : Option Tmp) (v : Value) : Env := match d with | some d => (d, v) :: e | none => e
def Env.only (e : Env) : List Nat → Env
  | [] => []
  | t :: r => (t, e.get t) :: Env.only e r
def plainC : Value → Bool
  | .agg cs => plains cs.toList
  | v => plain1 v
def Env.eval (e : Env) : Operand → Value
  | .tmp t => e.get t
  | .const v => bif plainC v then v else undef
  | .global _ => undef
  | .func f => .func (.func f) #[] #[]

/-! ### operations -/
def most : Nat := 1099511627776
abbrev Orc (β : Type) := FuncId → List Value → GH → (Value → GH → Option β) → Option β
inductive Kd0 | pure | alloc | read | eff
def opKind (P : Program) : Op → Kd0
  | .convert s d _ => (match P.underlying s, P.underlying d with | some (.int _), _ => .pure | some .string, some .string => .pure | _, _ => .eff)
  | .alloc _ | .box .. | .buildSlice .. | .makeSlice .. => .alloc
  | .load .. => .read
  | .store .. => .eff
  | .makeMap .. | .lookup .. | .mapUpdate .. | .insert .. => .eff
  | .call { callee := .builtin .len, .. } | .call { callee := .builtin .max, .. } | .call { callee := .builtin .min, .. } => .pure
  | .call _ => .eff
  | _ => .pure

section
variable {β : Type} (P : Program)
def gcmp (op : BinOp) (x y : Int) : Option Bool := match op with
  | .eql => some (x == y) | .neq => some (x != y) | .lss => some (decide (x < y)) | .leq => some (decide (x ≤ y)) | .gtr => some (decide (x > y)) | .geq => some (decide (x ≥ y)) | _ => none
def gbits (op : BinOp) (k : IntKind) (x y : Int) : Option Int := match op with
  | .and => some (k.wrap (BitVec.ofInt k.bits x &&& BitVec.ofInt k.bits y).toNat)
  | .or => some (k.wrap (BitVec.ofInt k.bits x ||| BitVec.ofInt k.bits y).toNat)
  | .xor => some (k.wrap (BitVec.ofInt k.bits x ^^^ BitVec.ofInt k.bits y).toNat)
  | .andNot => some (k.wrap (BitVec.ofInt k.bits x &&& ~~~ BitVec.ofInt k.bits y).toNat)
  | _ => none
def shlI (k : IntKind) (x y : Int) : Int := k.wrap (x * 2 ^ min y.toNat k.bits)
def shrI (k : IntKind) (x y : Int) : Int := x.fdiv (2 ^ min y.toNat k.bits)
def gbin (op : BinOp) (x y : Value) (K : Value → Option β) : Option β := match x, y with
  | .int k a, .int k' b => (match op with
    | .shl => bif decide (b < 0) then none else K (.int k (shlI k a b))
    | .shr => bif decide (b < 0) then none else K (.int k (shrI k a b))
    | .add => bif decide (k = k') then K (.int k (k.wrap (a + b))) else none
    | .sub => bif decide (k = k') then K (.int k (k.wrap (a - b))) else none
    | .mul => bif decide (k = k') then K (.int k (k.wrap (a * b))) else none
    | .quo => bif decide (k = k') then (bif decide (b = 0) then none else K (.int k (k.wrap (a.tdiv b)))) else none
    | .rem => bif decide (k = k') then (bif decide (b = 0) then none else K (.int k (a.tmod b))) else none
    | .and | .or | .xor | .andNot => bif decide (k = k') then (match gbits op k a b with | some n => K (.int k n) | none => none) else none
    | _ => bif decide (k = k') then (match gcmp op a b with | some r => K (.bool r) | none => none) else none)
  | .bool a, .bool b => (match op with | .eql => K (.bool (a == b)) | .neq => K (.bool (!(a == b))) | _ => none)
  | .pointer a, .pointer none => (match op with | .eql => K (.bool a.isNone) | .neq => K (.bool (!a.isNone)) | _ => none)
  | .slice a _ _, .slice none _ _ => (match op with | .eql => K (.bool a.isNone) | .neq => K (.bool (!a.isNone)) | _ => none)
  | _, _ => none
/-- the types of operands that '==' may meet here -/
def eqOk (op : BinOp) (t : TypeId) (x : Value) : Bool := match op with
  | .eql | .neq => (match P.underlying t, x with
    | some (.int _), .int _ _ => true | some .bool, .bool _ => true | some (.pointer _), .pointer _ => true | some (.slice _), .slice _ _ _ => true | _, _ => false)
  | _ => true
/-- bytes compared, and which are ahead -/
def beqS (a b : ByteArray) : Bool := a.data.toList == b.data.toList
def ltS : List UInt8 → List UInt8 → Bool
  | _, [] => false
  | [], _ :: _ => true
  | a :: x, b :: y => decide (a < b) || (a == b && ltS x y)
/-- '==' of values of a type, part by part -/
def geqFs (E : TypeId → Value → Value → (Bool → Option β) → Option β) (xs ys : List Value) : List Field → (Bool → Option β) → Option β
  | [], K => K true
  | f :: r, K => bif f.name == "_" then none else exCells P f.type xs f.offset fun a => exCells P f.type ys f.offset fun b => E f.type a b fun p => geqFs E xs ys r fun q => K (p && q)
def geqIs (E : Value → Value → (Bool → Option β) → Option β) (e : TypeId) (z : Nat) (xs ys : List Value) : Nat → Nat → (Bool → Option β) → Option β
  | 0, _, K => K true
  | n + 1, i, K => exCells P e xs (i * z) fun a => exCells P e ys (i * z) fun b => E a b fun p => geqIs E e z xs ys n (i + 1) fun q => K (p && q)
def geqC : Nat → TypeId → Value → Value → (Bool → Option β) → Option β
  | 0, _, _, _, _ => none
  | d + 1, t, x, y, K => match P.underlying t, x, y with
    | some .bool, .bool a, .bool b => K (a == b)
    | some (.int _), .int k a, .int k' b => bif decide (k = k') then K (a == b) else none
    | some .string, .string a, .string b => K (beqS a b)
    | some (.struct fs), .agg xs, .agg ys => bif P.stoodInHeld t then none else geqFs P (geqC d) xs.toList ys.toList fs.toList K
    | some (.array n e), .agg xs, .agg ys => (match sizeT P e with | some z => geqIs P (geqC d e) e z xs.toList ys.toList n 0 K | none => none)
    | _, _, _ => none
/-- a key that may be one -/
def gkeyFs (E : TypeId → Value → Option β → Option β) (xs : List Value) : List Field → Option β → Option β
  | [], K => K
  | f :: r, K => bif f.name == "_" then none else exCells P f.type xs f.offset fun a => E f.type a (gkeyFs E xs r K)
def gkeyIs (E : Value → Option β → Option β) (e : TypeId) (z : Nat) (xs : List Value) : Nat → Nat → Option β → Option β
  | 0, _, K => K
  | n + 1, i, K => exCells P e xs (i * z) fun a => E a (gkeyIs E e z xs n (i + 1) K)
def gkeyC : Nat → TypeId → Value → Option β → Option β
  | 0, _, _, _ => none
  | d + 1, t, x, K => match P.underlying t, x with
    | some .bool, _ | some (.int _), _ | some .string, _ => K
    | some (.struct fs), .agg xs => gkeyFs P (gkeyC d) xs.toList fs.toList K
    | some (.array n e), .agg xs => (match sizeT P e with | some z => gkeyIs P (gkeyC d e) e z xs.toList n 0 K | none => none)
    | _, _ => none
/-- the entry of a key -/
def gfind (t : TypeId) (k : Value) : List (Value × Value) → Nat → (Option (Nat × Value) → Option β) → Option β
  | [], _, K => K none
  | (k', v) :: r, i, K => geqC P 16 t k k' fun b => bif b then K (some (i, v)) else gfind t k r (i + 1) K
def leafB : Value → Value → Bool
  | .bool a, .bool b => a == b
  | .int k a, .int k' b => decide (k = k') && (a == b)
  | .string a, .string b => beqS a b
  | _, _ => false
def leafsB : List Value → List Value → Bool
  | [], [] => true
  | a :: x, b :: y => leafB a b && leafsB x y
  | _, _ => false
/-- the same key, bit by bit -/
def sameG : Value → Value → Bool
  | .agg xs, .agg ys => leafsB xs.toList ys.toList
  | a, b => leafB a b
def gmapOf (x : Value) (h : GH) (K : List (Value × Value) → Option β) : Option β := match x with
  | .map none => K []
  | .map (some g) => (match h.look g with | some (.map es) => K es | _ => none)
  | _ => none
def gstr (op : BinOp) (a b : ByteArray) (K : Value → Option β) : Option β := match op with
  | .eql => K (.bool (beqS a b))
  | .neq => K (.bool (!(beqS a b)))
  | .lss => K (.bool (ltS a.data.toList b.data.toList))
  | .add => bif decide (((a.size + b.size : Nat) : Int) ≤ 9223372036854775807) then K (.string (a ++ b)) else none
  | _ => none
def gbinX (op : BinOp) (t : TypeId) (x y : Value) (K : Value → Option β) : Option β := match x, y with
  | .agg _, .agg _ => (match op with
    | .eql => bif P.eqGuardType P.depth t then none else geqC P 16 t x y fun b => K (.bool b)
    | .neq => bif P.eqGuardType P.depth t then none else geqC P 16 t x y fun b => K (.bool (!b))
    | _ => none)
  | .string a, .string b => gstr op a b K
  | _, _ => bif eqOk P op t x then gbin op x y K else none
def gun (op : UnOp) (x : Value) (K : Value → Option β) : Option β := match op, x with
  | .neg, .int k n => K (.int k (k.wrap (0 - n)))
  | .xor, .int k n => (match gbits .xor k (if k.signed then -1 else k.max) n with | some m => K (.int k m) | none => none)
  | .not, .bool b => K (.bool !b)
  | _, _ => none
def gconv (src dst : TypeId) (x : Value) (K : Value → Option β) : Option β := match P.underlying dst, x with
  | some (.int k), .int _ n => (match P.underlying src with | some _ => K (.int k (k.wrap n)) | none => none)
  | some .string, .string s => (match P.underlying src with | some .string => K (.string s) | _ => none)
  | _, _ => none
/-- bytes of a text, as cells -/
def bcells (s : ByteArray) : List Value := s.data.toList.map fun b => .int .u8 b.toNat
def exBs : List Value → (List Int → Option β) → Option β
  | [], K => K []
  | .int .u8 n :: r, K => exBs r fun l => K (n :: l)
  | _ :: _, _ => none
def bytesB (xs : List Int) : ByteArray := ⟨(xs.map fun n => UInt8.ofNat n.toNat).toArray⟩
def gfieldAddr (s : TypeId) (x : Value) (i : Nat) (K : Value → Option β) : Option β := match P.underlying s, x with
  | some (.struct fs), .pointer p => (match nth fs.toList i with
    | some f => (match sizeT P f.type with
      | some n => (bif Nat.beq n 0 then none else exA p fun g o => K (.pointer (some ⟨g, o + f.offset, none⟩)))
      | none => none)
    | _ => none)
  | _, _ => none
def gfield (s : TypeId) (x : Value) (i : Nat) (K : Value → Option β) : Option β := match P.underlying s, x with
  | some (.struct fs), .agg cs => (match nth fs.toList i with
    | some f => exCells P f.type cs.toList f.offset K
    | none => none)
  | _, _ => none
/-- an index that lies within -/
def within (i : Int) (n : Nat) (K : Option β) : Option β := bif decide (0 ≤ i) then (bif decide (i < n) then K else none) else none
def gindexAddr (t : TypeId) (x i : Value) (K : Value → Option β) : Option β := match P.underlying t, x, i with
  | some (.slice e), .slice a n _, .int _ j => (match sizeT P e with
    | some z => exA a fun g o => within j n (K (.pointer (some ⟨g, o + j.toNat * z, none⟩)))
    | _ => none)
  | some (.array n e), .pointer a, .int _ j => (match sizeT P e with
    | some z => exA a fun g o => within j n (K (.pointer (some ⟨g, o + j.toNat * z, none⟩)))
    | _ => none)
  | _, _, _ => none
def byteAt (s : ByteArray) (i : Int) (K : Int → Option β) : Option β := match (if 0 ≤ i then s[i.toNat]? else none) with | some b => K b.toNat | none => none
def gindex (t : TypeId) (x i : Value) (K : Value → Option β) : Option β := match P.underlying t, x, i with
  | some (.array n e), .agg cs, .int _ j => (match sizeT P e with
    | some z => within j n (exCells P e cs.toList (j.toNat * z) K)
    | none => none)
  | some .string, .string s, .int _ j => byteAt s j fun c => K (.int .u8 c)
  | _, _, _ => none
/-- the bounds of x[lo:hi:mx] over n things of at most c -/
def gbound (v : Option Value) (dflt : Nat) (le : Nat) (K : Nat → Option β) : Option β := match v with
  | none => K dflt
  | some (.int _ i) => bnd i le K
  | some _ => none
def addO (a : Option Addr) (k : Nat) : Option Addr := match a with | none => none | some a => some ⟨a.block, a.off + k, a.spot⟩
def gslice (t : TypeId) (x : Value) (lo hi mx : Option Value) (K : Value → Option β) : Option β := bif mx.isSome && hi.isNone then none else match P.underlying t, x with
  | some (.slice e), .slice a n c => (match sizeT P e with
    | some z => bif Nat.beq z 0 then none else gbound mx c c fun m => gbound hi n m fun h => gbound lo 0 h fun l => K (.slice (addO a (l * z)) (h - l) (m - l))
    | none => none)
  | some (.array n e), .pointer a => (match sizeT P e with
    | some z => exA a fun g o => gbound mx n n fun m => gbound hi n m fun h => gbound lo 0 h fun l =>
        K (.slice (some ⟨g, bif Nat.beq m l then o else o + l * z, none⟩) (h - l) (m - l))
    | _ => none)
  | some .string, .string s => (match mx with
    | some _ => none
    | none => gbound hi s.size s.size fun h => gbound lo 0 h fun l => K (.string (s.extract l h)))
  | _, _ => none
def gextract (x : Value) (i : Nat) (K : Value → Option β) : Option β := match x with
  | .tuple vs => (bif Nat.ble 2 vs.toList.length then (match nth vs.toList i with | some v => K v | none => none) else none)
  | _ => none
def gnilCheck (x : Value) (K : Value → Option β) : Option β := match x with
  | .pointer p => exA p fun g o => K (.pointer (some ⟨g, o, none⟩))
  | _ => none
def gpick (c a b : Value) (K : Value → Option β) : Option β := match c with
  | .bool t => bif t then K a else K b
  | _ => none
def glen (t : TypeId) (x : Value) (K : Value → Option β) : Option β := match P.underlying t, x with
  | some .string, .string s => K (.int .i64 s.size)
  | some (.slice _), .slice _ n _ => K (.int .i64 n)
  | some (.array n _), _ => K (.int .i64 n)
  | _, _ => none
def gmx (mxx : Bool) (x y : Value) (K : Value → Option β) : Option β := match x, y with
  | .int k a, .int k' b => bif decide (k = k') then K (.int k (if (if mxx then b > a else b < a) then b else a)) else none
  | _, _ => none
def gmxs (mxx : Bool) : List Value → Value → (Value → Option β) → Option β
  | [], x, K => K x
  | y :: r, x, K => gmx mxx x y fun z => gmxs mxx r z K
/-- cells laid over the zero -/
def gfill (place : Nat → Option (Nat × Nat)) : List (Nat × Value) → List Value → (List Value → Option β) → Option β
  | [], cs, K => K cs
  | (i, v) :: r, cs, K => match place i with
    | none => none
    | some (o, n) => (bif Nat.beq (vcells v).length n && Nat.ble (o + n) cs.length && allCells (vcells v) then gfill place r (nlay cs o (vcells v)) K else none)
def places (P : Program) (fs : List Field) (i : Nat) : Option (Nat × Nat) := match nth fs i with
  | some f => (match sizeT P f.type with | some n => some (f.offset, n) | none => none)
  | none => none
def gbuild (t : TypeId) (parts : List (Nat × Value)) (K : Value → Option β) : Option β := match P.underlying t, zeroT P t with
  | some (.struct fs), some z => (bif plainC z && fs.toList.all (fun f => (sizeT P f.type).isSome) then gfill (places P fs.toList) parts (vcells z) fun cs => K (.agg cs.toArray) else none)
  | some (.array _ e), some z => (match sizeT P e with
    | some n => (bif plainC z then gfill (fun i => some (i * n, n)) parts (vcells z) fun cs => K (.agg cs.toArray) else none)
    | none => none)
  | _, _ => none
/-- a value by its type (as castV; here ahead of it) -/
def castV0 (t : TypeId) (v : Value) (K : Value → Option β) : Option β := match P.underlying t with
  | none => none
  | some d => bif aggD d then none else exK (ckD d) (some v) K
def glookup (xT : TypeId) (x k : Value) (ok : Bool) (h : GH) (K : Value → Option β) : Option β := match P.underlying xT with
  | some (.map kt et) => gmapOf x h fun es => gkeyC P 16 kt k (gfind P kt k es 0 fun o => match o with
    | some (_, v) => castV0 P et v fun v => K (bif ok then .tuple #[v, .bool true] else v)
    | none => (match zeroT P et with | some z => (bif plainC z then K (bif ok then .tuple #[z, .bool false] else z) else none) | none => none))
  | _ => none
def gmapPut (mT : TypeId) (x k v : Value) (h : GH) (K : GH → Option β) : Option β := match P.underlying mT, x with
  | some (.map kt _), .map (some g) => (match h.look g with
    | some (.map es) => gkeyC P 16 kt k (gfind P kt k es 0 fun o => match o with
      | none => K (h.put g (some (.map (es ++ [(k, v)]))))
      | some (i, _) => (match nth es i with
        | some (k', _) => bif sameG k' k then K (h.put g (some (.map (nset es i (k, v))))) else none
        | none => none))
    | _ => none)
  | _, _ => none
def evParts (e : Env) : List (Nat × Operand) → List (Nat × Value)
  | [] => []
  | (i, x) :: r => (i, e.eval x) :: evParts e r
def evs (e : Env) : List Operand → List Value
  | [] => []
  | x :: r => e.eval x :: evs e r
def gmake (z b : Nat) (v : Value) (l c : Int) (h : GH) (K : Sl → GH → Option β) : Option β :=
    bif decide (0 ≤ l) then (bif decide (l ≤ c) then (bif decide (((b : Int) + 1) * c ≤ most) then
      gnew (reps c.toNat (vcells v)) z h fun g h' => K ⟨some ⟨g, 0, none⟩, l.toNat, c.toNat⟩ h' else none) else none) else none
/-- the things that a slice holds -/
def slCells (s : Sl) (z : Nat) (h : GH) (K : List Value → Option β) : Option β := match s.a with
  | none => bif Nat.beq s.n 0 then K [] else none
  | some _ => exA s.a fun g o => (match nsub (rowCells (h.look g)) o (s.n * z) with | some vs => K vs | none => none)
/-- append: within what the slice holds, or into a new block, and then the elder one is no more if it may have been taken on -/
def gapp (z by_ : Nat) (s : Sl) (news : List Value) (m : Nat) (h : GH) (K : Sl → GH → Option β) : Option β :=
      bif Nat.ble (s.n + m) s.c then (bif Nat.beq m 0 then K s h else
        exA s.a fun g o => gput g (o + s.n * z) news h fun h' => K ⟨s.a, s.n + m, s.c⟩ h')
      else bif Nat.ble ((s.n + m) * (by_ + 1)) most then
        slCells s z h fun olds => (match s.a with
          | none => bif Nat.beq s.c 0 then gnew (olds ++ news) z h fun g h' => K ⟨some ⟨g, 0, none⟩, s.n + m, s.n + m⟩ h' else none
          | some _ => exA s.a fun g o => (match h.look g with
            | some (.row b) => (bif Nat.beq s.c 0 && !Nat.beq o 0 then none else bif Nat.beq b.esz 0 then gnew (olds ++ news) z h fun g h' => K ⟨some ⟨g, 0, none⟩, s.n + m, s.n + m⟩ h'
                else bif b.ro || !Nat.beq b.esz z || !Nat.beq o 0 then none
                else gnew (olds ++ news) z (h.put g none) fun g h' => K ⟨some ⟨g, 0, none⟩, s.n + m, s.n + m⟩ h')
            | _ => none))
      else none
/-- a slice appended to a slice -/
def gappS (z by_ : Nat) (s x : Sl) (h : GH) (K : Sl → GH → Option β) : Option β := slCells x z h fun news => gapp z by_ s news x.n h K
def gcopy (z : Nat) (d s : Sl) (h : GH) (K : Int → GH → Option β) : Option β := slCells s z h fun cs =>
  bif Nat.beq (min s.n d.n) 0 then K 0 h else exA d.a fun g o => gput g o (ntake (min s.n d.n * z) cs) h fun h' => K (min s.n d.n : Nat) h'
/-- a row marked as a text's -/
def gfrz (g n : Nat) (h : GH) (K : Option β) : Option β := match h.look g with
  | some (.row b) => bif !b.ro && Nat.blt 0 b.cells.length && Nat.blt 0 n then K else none
  | _ => none
/-- conversions: those of texts and rows of bytes make, read -/
def gconvX (s d : TypeId) (x : Value) (h : GH) (K : Value → GH → Option β) : Option β := match P.underlying s, P.underlying d, x with
  | some (.slice _), some (.slice e), .slice (some a) n c => (match P.underlying e with
    | some (.int .u8) => bif Nat.beq s d then gfrz a.block n h (K (.slice (some a) n c) h) else none
    | _ => none)
  | some .string, some (.slice e), .string t => (match P.underlying e, sizeT P e with
    | some (.int .u8), some 1 => bif Nat.ble (t.size * 2) most then gnew (bcells t) 1 h fun g h' => K (.slice (some ⟨g, 0, none⟩) t.size t.size) h' else none
    | _, _ => none)
  | some (.slice e), some .string, .slice a n c => (match P.underlying e with
    | some (.int .u8) => slCells ⟨a, n, c⟩ 1 h fun vs => exBs vs fun xs => K (.string (bytesB xs)) h
    | _ => none)
  | _, _, _ => gconv P s d x fun v => K v h
def gcall (C : Orc β) (f : Value) (args : List Value) (h : GH) (K : Value → GH → Option β) : Option β := match f with
  | .func (.func f) first captured => C f (first.toList ++ args ++ captured.toList) h K
  | _ => none
def elemT (P : Program) (t : TypeId) : Option TypeId := match P.underlying t with | some (.slice e) => some e | _ => none

def gop (C : Orc β) (o : Oper) (e : Env) (h : GH) (K : Value → GH → Option β) : Option β := match o.op with
  | .move x | .assign x => K (e.eval x) h
  | .pick c a b => gpick (e.eval c) (e.eval a) (e.eval b) fun v => K v h
  | .binOp op t x y _ => gbinX P op t (e.eval x) (e.eval y) (fun v => K v h)
  | .unOp op _ x => gun op (e.eval x) fun v => K v h
  | .convert s d x => gconvX P s d (e.eval x) h K
  | .fieldAddr s x i => gfieldAddr P s (e.eval x) i fun v => K v h
  | .field s x i => gfield P s (e.eval x) i fun v => K v h
  | .indexAddr t x i => gindexAddr P t (e.eval x) (e.eval i) fun v => K v h
  | .index t x i => gindex P t (e.eval x) (e.eval i) fun v => K v h
  | .slice t x lo hi mx => gslice P t (e.eval x) (lo.map e.eval) (hi.map e.eval) (mx.map e.eval) fun v => K v h
  | .extract t i => gextract (e.eval t) i fun v => K v h
  | .nilCheck x => gnilCheck (e.eval x) fun v => K v h
  | .build t ps => gbuild P t (evParts e ps.toList) fun v => K v h
  | .makeFunc fn fs cs => K (.func fn (evs e fs.toList).toArray (evs e cs.toList).toArray) h
  | .alloc t => (match zeroT P t with | some z => (bif plainC z then gnew (vcells z) 0 h fun g h' => K (.pointer (some ⟨g, 0, none⟩)) h' else none) | none => none)
  | .box _ x => gnew (vcells (e.eval x)) 0 h fun g h' => K (.pointer (some ⟨g, 0, none⟩)) h'
  | .buildSlice t n ps => (match elemT P t with
    | some el => (match sizeT P el, zeroT P el with
      | some z, some v => (bif plainC v && Nat.beq (vcells v).length z && Nat.blt 0 z && Nat.ble (n * z) 65536 then gfill (fun i => some (i * z, z)) (evParts e ps.toList) (reps n (vcells v)) fun cs => gnew cs z h fun g h' => K (.slice (some ⟨g, 0, none⟩) n n) h' else none)
      | _, _ => none)
    | none => none)
  | .makeSlice t l c => (match elemT P t with
    | some el => (match e.eval l, e.eval c, sizeT P el, zeroT P el, bytesT P el with
      | .int _ l, .int _ c, some z, some v, some b => (bif plainC v && Nat.beq (vcells v).length z && Nat.blt 0 z then gmake z b v l c h fun s h' => K (.slice s.a s.n s.c) h' else none)
      | _, _, _, _, _ => none)
    | none => none)
  | .makeMap t rs => (match P.underlying t, rs.map e.eval with
    | some (.map _ _), none | some (.map _ _), some (.int _ _) => K (.map (some h.next)) (h.push (.map []))
    | _, _ => none)
  | .lookup t x k ok => glookup P t (e.eval x) (e.eval k) ok h fun v => K v h
  | .mapUpdate t m k v | .insert t m k v => gmapPut P t (e.eval m) (e.eval k) (e.eval v) h fun h' => K undef h'
  | .load t x => (match e.eval x with | .pointer p => exA p fun g o => gload P t g o h fun v => K v h | _ => none)
  | .store t x v => (match e.eval x, sizeT P t with
    | .pointer p, some n => (bif Nat.beq (vcells (e.eval v)).length n then exA p fun g o => gput g o (vcells (e.eval v)) h fun h' => K undef h' else none)
    | _, _ => none)
  | .call c => (match c.callee with
    | .value f => gcall C (e.eval f) (evs e c.args.toList) h K
    | .builtin .len => (match evs e c.args.toList, c.argTypes.toList with | [x], [t] => glen P t x fun v => K v h | _, _ => none)
    | .builtin .max => (match evs e c.args.toList with | x :: r => gmxs true r x fun v => K v h | _ => none)
    | .builtin .min => (match evs e c.args.toList with | x :: r => gmxs false r x fun v => K v h | _ => none)
    | .builtin .append => (match evs e c.args.toList, c.argTypes.toList with
      | [.slice a n c, .slice a' n' c'], [t, u] => (match elemT P t with
        | some el => (match sizeT P el, bytesT P el, zeroT P el with
          | some z, some b, some v => (bif Nat.beq t u && Nat.beq (vcells v).length z && Nat.blt 0 z then gappS z b ⟨a, n, c⟩ ⟨a', n', c'⟩ h fun s h' => K (.slice s.a s.n s.c) h' else none)
          | _, _, _ => none)
        | _ => none)
      | _, _ => none)
    | .builtin .copy => (match evs e c.args.toList, c.argTypes.toList with
      | [.slice a n c, .slice a' n' c'], t :: _ => (match elemT P t with
        | some el => (match sizeT P el with | some z => (bif Nat.blt 0 z then gcopy z ⟨a, n, c⟩ ⟨a', n', c'⟩ h fun m h' => K (.int .i64 m) h' else none) | none => none)
        | none => none)
      | _, _ => none)
    | _ => none)
  | _ => none

/-! ### regions -/
def dstOf (ops : List Oper) (j : Nat) : Option Tmp := match nth ops j with | some o => o.dst | none => none
def dstOk (N : Nat) (o : Oper) : Bool := match o.dst with | some d => Nat.blt d N | none => true
def gops (C : Orc β) (N : Nat) (all : List Oper) : List Oper → Env → GH → (Env → GH → Option β) → Option β
  | [], e, h, K => K e h
  | o :: r, e, h, K => bif dstOk N o then (match o.guard with
    | none => gop P C o e h fun v h' => gops C N all r (e.put o.dst v) h' K
    | some (j, want) => (match dstOf all j with
      | none => none
      | some t => (match e.get t with
        | .bool b => bif b then (bif want then gop P C o ((t, .bool true) :: e) h fun v h' => gops C N all r (Env.put ((t, .bool true) :: e) o.dst v) h' K
              else gops C N all r (Env.put ((t, .bool true) :: e) o.dst skipV) h K)
            else (bif want then gops C N all r (Env.put ((t, .bool false) :: e) o.dst skipV) h K
              else gop P C o ((t, .bool false) :: e) h fun v h' => gops C N all r (Env.put ((t, .bool false) :: e) o.dst v) h' K)
        | v => bif isSkip v then gops C N all r (e.put o.dst skipV) h K else none))) else none
end
end Go.Proofs.Ytibngikhlgmhaaa.Gx
/- The plain machine, continued: regions that draw their order, code, functions. Definitions alone. No condition. -/
namespace Go.Proofs.Ytibngikhlgmhaaa.Gx
open Go
set_option linter.unusedVariables false

/-! ### what an operation waits for, as bits -/
def bindE (e : Edge) : Bool := Region.binds .any e
def ancOne (acc : List Nat) : List Edge → Nat
  | [] => 0
  | e :: r => bif bindE e then (2 ^ e.on ||| (match nth acc e.on with | some b => b | none => 0) ||| ancOne acc r) else ancOne acc r
/-- bits of the operations ahead are in acc, in order -/
def ancs : List Oper → List Nat → List Nat
  | [], acc => acc
  | o :: r, acc => ancs r (acc ++ [ancOne acc o.after.toList])
def waits (bits : List Nat) (j i : Nat) : Bool := match nth bits j with | some b => b.testBit i | none => false
def tmpsOf : List Operand → List Tmp
  | [] => []
  | .tmp t :: r => t :: tmpsOf r
  | _ :: r => tmpsOf r
def namesOf (all : List Oper) (o : Oper) : List Tmp :=
  (match o.dst with | some d => [d] | none => []) ++ (match o.guard with | some (j, _) => (match dstOf all j with | some t => [t] | none => []) | none => []) ++ tmpsOf o.op.operands.toList
def memN (t : Nat) : List Nat → Bool
  | [] => false
  | x :: r => Nat.beq x t || memN t r
/-- whoever writes a slot that operation j names comes before it or behind it for certain -/
def tmpsOkAt (bits : List Nat) (names : List Tmp) (j : Nat) : List Oper → Nat → Bool
  | [], _ => true
  | o :: r, i => (match o.dst with
      | some d => !memN d names || Nat.beq i j || waits bits (max i j) (min i j)
      | none => true) && tmpsOkAt bits names j r (i + 1)
def tmpsOk (bits : List Nat) (all : List Oper) : List Oper → Nat → Bool
  | [], _ => true
  | o :: r, j => tmpsOkAt bits (namesOf all o) j all 0 && tmpsOk bits all r (j + 1)
def edgesOk : List Oper → Nat → Bool
  | [], _ => true
  | o :: r, j => (o.after.toList.all fun e => !bindE e || Nat.blt e.on j) && (match o.guard with | some (g, _) => o.after.toList.any fun e => bindE e && Nat.beq e.on g | none => true) && edgesOk r (j + 1)
def isEff (P : Program) (o : Oper) : Bool := match opKind P o.op with | .eff => true | _ => false
/-- those that act wait for each other in the text's order -/
def effsOk (P : Program) (bits : List Nat) : List Oper → Nat → List Nat → Bool
  | [], _, _ => true
  | o :: r, j, seen => bif isEff P o then seen.all (fun i => waits bits j i) && effsOk P bits r (j + 1) (j :: seen) else effsOk P bits r (j + 1) seen
def noSelect (ops : List Oper) : Bool := ops.all fun o => match o.op with | .select .. => false | _ => true
def drawOk (P : Program) (ops : List Oper) : Bool :=
  let bits := ancs ops []
  edgesOk ops 0 && tmpsOk bits ops ops 0 && effsOk P bits ops 0 [] && noSelect ops
def apartB (bits : List Nat) (i j : Nat) : Bool := !(waits bits (max i j) (min i j))

/-! ### a cell that reads the same in two memories -/
def veq : Value → Value → Bool
  | .bool a, .bool b => a == b
  | .int k a, .int k' b => decide (k = k') && decide (a = b)
  | .string a, .string b => decide (a = b)
  | .pointer a, .pointer b => decide (a = b)
  | .slice a n c, .slice a' n' c' => decide (a = a') && Nat.beq n n' && Nat.beq c c'
  | .nilFunc, .nilFunc => true
  | .nilIface, .nilIface => true
  | .map a, .map b => decide (a = b)
  | _, _ => false
def veqO : Option Value → Option Value → Bool
  | some a, some b => veq a b
  | _, _ => false
def sameAt (g : Nat) : Nat → Nat → GH → GH → Bool
  | _, 0, _, _ => true
  | o, n + 1, h, h' => veqO (h.cell ⟨g, o, none⟩) (h'.cell ⟨g, o, none⟩) && sameAt g (o + 1) n h h'

section
variable {β : Type} (P : Program)
abbrev Rds := List (Nat × Option Addr × Nat)
abbrev Efs := List (Nat × GH × GH)
def loadLen (t : TypeId) : Nat := match P.underlying t with | some d => (bif aggD d then (match sizeT P t with | some n => n | none => 0) else 1) | none => 0
def rdOf (i : Nat) (o : Oper) (e : Env) (rd : Rds) : Rds := match o.op with
  | .load t x => (match e.eval x with | .pointer p => (i, p, loadLen P t) :: rd | _ => rd)
  | _ => rd
def efOf (i : Nat) (o : Oper) (h h' : GH) (ef : Efs) : Efs := bif isEff P o then (i, h, h') :: ef else ef
def gopsD (C : Orc β) (N : Nat) (all : List Oper) : List Oper → Nat → Env → GH → Rds → Efs → (Env → GH → Rds → Efs → Option β) → Option β
  | [], _, e, h, rd, ef, K => K e h rd ef
  | o :: r, i, e, h, rd, ef, K => bif dstOk N o then (match o.guard with
    | none => gop P C o e h fun v h' => gopsD C N all r (i + 1) (e.put o.dst v) h' (rdOf P i o e rd) (efOf P i o h h' ef) K
    | some (j, want) => (match dstOf all j with
      | none => none
      | some t => (match e.get t with
        | .bool b => bif b then (bif want then gop P C o ((t, .bool true) :: e) h fun v h' => gopsD C N all r (i + 1) (Env.put ((t, .bool true) :: e) o.dst v) h' (rdOf P i o ((t, .bool true) :: e) rd) (efOf P i o h h' ef) K
              else gopsD C N all r (i + 1) (Env.put ((t, .bool true) :: e) o.dst skipV) h rd ef K)
            else (bif want then gopsD C N all r (i + 1) (Env.put ((t, .bool false) :: e) o.dst skipV) h rd ef K
              else gop P C o ((t, .bool false) :: e) h fun v h' => gopsD C N all r (i + 1) (Env.put ((t, .bool false) :: e) o.dst v) h' (rdOf P i o ((t, .bool false) :: e) rd) (efOf P i o h h' ef) K)
        | v => bif isSkip v then gopsD C N all r (i + 1) (e.put o.dst skipV) h rd ef K else none))) else none
def chkOne (bits : List Nat) (i : Nat) (p : Option Addr) (n : Nat) : Efs → Option β → Option β
  | [], K => K
  | (j, h, h') :: r, K => bif apartB bits i j then (exA p fun g o => bif sameAt g o n h h' then chkOne bits i p n r K else none) else chkOne bits i p n r K
def chkAll (bits : List Nat) (ef : Efs) : Rds → Option β → Option β
  | [], K => K
  | (i, p, n) :: r, K => chkOne bits i p n ef (chkAll bits ef r K)
def isDefer : Op → Bool
  | .defer _ => true
  | _ => false
def noDefer : List Oper → Bool
  | [] => true
  | o :: r => bif isDefer o.op then false else noDefer r
def gregion (C : Orc β) (N : Nat) (ops : List Oper) (d : Bool) (e : Env) (h : GH) (K : Env → GH → Option β) : Option β :=
  bif noDefer ops then (bif d then (bif drawOk P ops then gopsD P C N ops ops 0 e h [] [] (fun e h rd ef => chkAll (ancs ops []) ef rd (K e h)) else none)
  else gops P C N ops ops e h K) else none

/-! ### code -/
/-- what a slot holds: a value of a type; a function value of a known form -/
inductive CT | ty (t : TypeId) | fn (f : Nat) (fs cs : List CK) | nilf
/-- loops: the region at the head; the slots that live there; those that live behind each way out, with their types (the last: behind a return) · joins: the region at the head, the slots that live there -/
structure Hints where
  loops : List (Nat × List Nat × List (Nat × List (Nat × CT)) × Option (List (Nat × CT)))
  joins : List (Nat × List Nat)
  back : List Nat
/-- a loop over slices.Backward: through the slice s from its end; what it goes through stays -/
def gback (s : Sl) (gB oB : Nat) (rnd : Int → Int → GH → (GH → Option β) → Option β) : Nat → GH → (GH → Option β) → Option β
  | 0, h, K => K h
  | i + 1, h, K => exA s.a fun g o => exI .i64 (h.cell ⟨g, o + i, none⟩) fun z => rnd ((i : Nat) : Int) z h fun h' => bif sameAt gB oB 1 h h' && sameAt g o s.n h h' then gback s gB oB rnd i h' K else none
def grange (bk : List Nat) (N : Nat) (v : Value) (ps : List Nat) (rnd : Env → GH → (GH → Option β) → Option β) (e : Env) (h : GH) (K : GH → Option β) : Option β := match v, ps with
  | .func (.func f) fs cs, [p0, p1] => (match fs.toList, cs.toList with
    | [], [.pointer p] => bif memN f bk && Nat.blt p0 N && Nat.blt p1 N then exA p fun g o => exS (h.cell ⟨g, o, none⟩) fun s => bif Nat.ble s.n 4611686018427387904 then gback s g o (fun i z h K => rnd ((p1, .int .i64 z) :: (p0, .int .i64 i) :: e) h K) s.n h K else none else none
    | _, _ => none)
  | _, _ => none
def hasRange : Code → Bool
  | .seq a b => hasRange a || hasRange b
  | .cond _ a b => hasRange a || hasRange b
  | .block _ b => hasRange b
  | .loop b => hasRange b
  | .rangeFunc .. => true
  | _ => false
def lead : Code → Option Nat
  | .region id _ _ => some id
  | .seq a b => (match lead a with | some k => some k | none => lead b)
  | .cond _ a b => (match lead a with | some k => some k | none => lead b)
  | .block _ b => lead b
  | .loop b => lead b
  | _ => none
def asc {α : Type} : List (Nat × α) → Nat → Option α
  | [], _ => none
  | (k, v) :: r, t => bif Nat.beq k t then some v else asc r t
def joinE (H : Hints) (b : Code) (e : Env) : Env := match lead b with
  | none => e
  | some k => (match asc H.joins k with | some l => e.only l | none => e)
/-- a slot's value by its type -/
def castV (t : TypeId) (v : Value) (K : Value → Option β) : Option β := match P.underlying t with
  | none => none
  | some d => bif aggD d then (match sizeT P t with
    | some n => exAg v fun cs => (bif Nat.beq cs.length n then (bif Nat.ble n small && Nat.beq (flat P 4 t).length n then exN (flat P 4 t) (nth cs) 0 fun vs => K (.agg vs.toArray) else K (.agg cs.toArray)) else none)
    | none => none)
  else exK (ckD d) (some v) K
def exKs : List CK → List Value → (List Value → Option β) → Option β
  | [], l, K => (match l with | [] => K [] | _ => none)
  | k :: r, l, K => (match l with | v :: vs => exK k (some v) fun v' => exKs r vs fun vs' => K (v' :: vs') | [] => none)
/-- a function value of a known form -/
def exF (f : Nat) (fs cs : List CK) (v : Value) (K : List Value → List Value → Option β) : Option β := match v with
  | .func (.func f') a c => (bif Nat.beq f' f then exKs fs a.toList fun a' => exKs cs c.toList fun c' => K a' c' else none)
  | _ => none
def castC : CT → Value → (Value → Option β) → Option β
  | .ty t, v, K => castV P t v K
  | .nilf, v, K => (match v with | .nilFunc => K .nilFunc | _ => none)
  | .fn f fs cs, v, K => exF f fs cs v fun a c => K (.func (.func f) a.toArray c.toArray)
def castE : List (Nat × CT) → Env → (Env → Option β) → Option β
  | [], _, K => K []
  | (t, ty) :: r, e, K => castC P ty (e.get t) fun v => castE r e fun e' => K ((t, v) :: e')
def exitsK : List (Nat × List (Nat × CT)) → (Nat → Env → GH → Option β) → Nat → Env → GH → Option β
  | [], _, _, _, _ => none
  | (id, ts) :: r, K, i, e, h => bif Nat.beq i id then castE P ts e fun e' => K id e' h else exitsK r K i e h
def retK : Option (List (Nat × CT)) → (Env → GH → Option β) → Env → GH → Option β
  | none, _, _, _ => none
  | some ts, K, e, h => castE P ts e fun e' => K e' h
def gloop (body : Env → GH → (Env → GH → Option β) → (Nat → Env → GH → Option β) → (Env → GH → Option β) → Option β) (live : List Nat) : Nat → Env → GH → (Nat → Env → GH → Option β) → (Env → GH → Option β) → Option β
  | 0, _, _, _, _ => none
  | n + 1, e, h, Kx, Kr => body e h (fun e' h' => gloop body live n (e'.only live) h' Kx Kr) Kx Kr
def rounds : Nat := 9223372036854775808
def loopH (H : Hints) (b : Code) : List Nat × List (Nat × List (Nat × CT)) × Option (List (Nat × CT)) := match lead b with
  | none => ([], [], none)
  | some k => (match asc H.loops k with | some r => r | none => ([], [], none))
def gcode (C : Orc β) (N : Nat) (H : Hints) (R : Nat) : Code → Env → GH → (Env → GH → Option β) → (Nat → Env → GH → Option β) → (Env → GH → Option β) → Option β
  | .skip, e, h, Kn, _, _ => Kn e h
  | .label _, e, h, Kn, _, _ => Kn e h
  | .region _ ops d, e, h, Kn, _, _ => gregion P C N ops.toList d e h Kn
  | .seq a b, e, h, Kn, Kx, Kr => gcode C N H R a e h (fun e' h' => gcode C N H R b (joinE H b e') h' Kn Kx Kr) Kx Kr
  | .cond c a b, e, h, Kn, Kx, Kr => (match e.eval c with
    | .bool t => bif t then gcode C N H R a e h Kn Kx Kr else gcode C N H R b e h Kn Kx Kr
    | _ => none)
  | .block id b, e, h, Kn, Kx, Kr => gcode C N H R b e h Kn (fun i e' h' => bif Nat.beq i id then Kn e' h' else Kx i e' h') Kr
  | .loop b, e, h, _, Kx, Kr => gloop (gcode C N H R b) (loopH H b).1 R (e.only (loopH H b).1) h (exitsK P (loopH H b).2.1 Kx) (retK P (loopH H b).2.2 Kr)
  | .exit id, e, h, _, Kx, _ => Kx id e h
  | .ret, e, h, _, _, Kr => Kr e h
  | .rangeFunc g ps a b, e, h, Kn, _, _ => bif hasRange a || hasRange b then none else grange H.back N (e.eval g) ps.toList (fun e h K => gcode C N H R a e h (fun e h => gcode C N H R b e h (fun _ h => K h) (fun _ _ _ => none) (fun _ _ => none)) (fun _ _ _ => none) (fun _ _ => none)) e h (fun h => Kn e h)
  | _, _, _, _, _, _ => none

/-! ### functions -/
def parE : List Value → Nat → Env
  | [], _ => []
  | v :: r, i => (i, v) :: parE r (i + 1)
def gress (e : Env) (h : GH) : List ResultVar → (List Value → Option β) → Option β
  | [], K => K []
  | .tmp t :: r, K => gress e h r fun vs => K (e.get t :: vs)
  | .cell a t :: r, K => (match e.get a with
    | .pointer p => exA p fun g o => gload P t g o h fun v => gress e h r fun vs => K (v :: vs)
    | _ => none)
def oneOf : List Value → Value
  | [v] => v
  | vs => .tuple vs.toArray
def gend (fn : Func) (K : Value → GH → Option β) (e : Env) (h : GH) : Option β := gress P e h fn.results.toList fun vs => K (oneOf vs) h
def gfun (C : Orc β) (H : Hints) (R : Nat) (fn : Func) (args : List Value) (h : GH) (K : Value → GH → Option β) : Option β := match fn.body with
  | none => none
  | some c => bif Nat.ble args.length fn.ntmps then gcode P C fn.ntmps H R c (parE args 0) h (gend P fn K) (fun _ _ _ => none) (gend P fn K) else none
end
/-! ### results by their kinds -/
section
variable {β : Type}
def asI (k : IntKind) (K : Int → GH → Option β) (v : Value) (h : GH) : Option β := exI k (some v) fun n => K n h
def asB (K : Bool → GH → Option β) (v : Value) (h : GH) : Option β := exB (some v) fun n => K n h
def asP (K : Option Addr → GH → Option β) (v : Value) (h : GH) : Option β := exP (some v) fun n => K n h
def asS (K : Sl → GH → Option β) (v : Value) (h : GH) : Option β := exS (some v) fun n => K n h
end
/-- a part of a body: false: the first of two, or what stands within -/
def at_ : List Bool → Code → Code
  | [], c => c
  | b :: r, .seq x y => at_ r (if b then y else x)
  | b :: r, .cond _ x y => at_ r (if b then y else x)
  | _ :: r, .block _ x => at_ r x
  | _ :: r, .loop x => at_ r x
  | _, c => c
end Go.Proofs.Ytibngikhlgmhaaa.Gx
/- The plain machine and the model: how the two memories stand to each other, and that this lasts. No condition. -/
namespace Go.Proofs.Ytibngikhlgmhaaa.Gx
open Go Go.RowKit
set_option linter.unusedVariables false

/-! ### lists -/
inductive All2 {α γ : Type} (R : α → γ → Prop) : List α → List γ → Prop
  | nil : All2 R [] []
  | cons {a : α} {c : γ} {as : List α} {cs : List γ} (h : R a c) (t : All2 R as cs) : All2 R (a :: as) (c :: cs)
section
variable {α γ : Type} {R : α → γ → Prop}
theorem nth_eq (l : List α) : ∀ n, nth l n = l[n]? := by
  induction l with
  | nil => intro n; rfl
  | cons x r ih => intro n; cases n with | zero => rfl | succ n => simp [nth, ih]
theorem ntake_eq (l : List α) : ∀ n, ntake n l = l.take n := by
  induction l with
  | nil => intro n; cases n <;> rfl
  | cons x r ih => intro n; cases n with | zero => rfl | succ n => simp [ntake, ih]
theorem ndrop_eq (l : List α) : ∀ n, ndrop l n = l.drop n := by
  induction l with
  | nil => intro n; cases n <;> rfl
  | cons x r ih => intro n; cases n with | zero => rfl | succ n => simp [ndrop, ih]
theorem nsub_some {l m : List α} {o n : Nat} (h : nsub l o n = some m) : o + n ≤ l.length ∧ m = (l.drop o).take n := by
  unfold nsub at h
  cases hb : Nat.ble (o + n) l.length with
  | false => simp [hb] at h
  | true => simp [hb] at h; exact ⟨Nat.le_of_ble_eq_true hb, by rw [← h, ntake_eq, ndrop_eq]⟩
theorem nlay_eq (l : List α) (o : Nat) (m : List α) : nlay l o m = l.take o ++ m ++ l.drop (o + m.length) := by simp [nlay, ntake_eq, ndrop_eq]
theorem nlay_length {l : List α} {o : Nat} {m : List α} (h : o + m.length ≤ l.length) : (nlay l o m).length = l.length := by
  simp [nlay_eq]; omega
theorem nth_nlay {l m : List α} {o : Nat} (h : o + m.length ≤ l.length) (i : Nat) : nth (nlay l o m) i = if o ≤ i ∧ i < o + m.length then nth m (i - o) else nth l i := by
  have e1 : nth (nlay l o m) i = (l.take o ++ m ++ l.drop (o + m.length))[i]? := by rw [nth_eq, nlay_eq]
  rw [e1, nth_eq, nth_eq]
  have ho : (l.take o).length = o := by simp; omega
  by_cases h1 : i < o
  · rw [if_neg (by omega), List.append_assoc, List.getElem?_append_left (by omega), List.getElem?_take, if_pos h1]
  · by_cases h2 : i < o + m.length
    · rw [if_pos ⟨by omega, h2⟩, List.append_assoc, List.getElem?_append_right (by omega), ho, List.getElem?_append_left (by omega)]
    · rw [if_neg (by omega), List.getElem?_append_right (by simp; omega), List.getElem?_drop]
      congr 1
      simp
      omega
theorem All2.length {as : List α} {cs : List γ} (h : All2 R as cs) : as.length = cs.length := by induction h with | nil => rfl | cons _ _ ih => simp [ih]
theorem All2.get {as : List α} {cs : List γ} (h : All2 R as cs) : ∀ {i : Nat} {a : α}, nth as i = some a → ∃ c, nth cs i = some c ∧ R a c := by
  induction h with
  | nil => intro i a h; cases h
  | cons h _ ih => intro i a hi; cases i with
    | zero => cases hi; exact ⟨_, rfl, h⟩
    | succ i => exact ih hi
theorem All2.of {as : List α} : ∀ {cs : List γ}, as.length = cs.length → (∀ i a c, nth as i = some a → nth cs i = some c → R a c) → All2 R as cs := by
  induction as with
  | nil => intro cs hl _; cases cs with | nil => exact .nil | cons _ _ => cases hl
  | cons a as ih => intro cs hl h; cases cs with
    | nil => cases hl
    | cons c cs => exact .cons (h 0 a c rfl rfl) (ih (by simpa using hl) fun i a' c' ha hc => h (i + 1) a' c' ha hc)
theorem All2.mono {R' : α → γ → Prop} (hr : ∀ a c, R a c → R' a c) {as : List α} {cs : List γ} (h : All2 R as cs) : All2 R' as cs := by induction h with | nil => exact .nil | cons h _ ih => exact .cons (hr _ _ h) ih
theorem All2.append {as as' : List α} {cs cs' : List γ} (h : All2 R as cs) (h' : All2 R as' cs') : All2 R (as ++ as') (cs ++ cs') := by induction h with | nil => exact h' | cons h _ ih => exact .cons h ih
theorem All2.take {as : List α} {cs : List γ} (h : All2 R as cs) : ∀ n, All2 R (as.take n) (cs.take n) := by
  induction h with
  | nil => intro n; simp; exact .nil
  | cons h _ ih => intro n; cases n with | zero => exact .nil | succ n => exact .cons h (ih n)
theorem All2.drop {as : List α} {cs : List γ} (h : All2 R as cs) : ∀ n, All2 R (as.drop n) (cs.drop n) := by
  induction h with
  | nil => intro n; simp; exact .nil
  | cons h t ih => intro n; cases n with | zero => exact .cons h t | succ n => exact ih n
end

/-! ### where a named block lies -/
structure Pl where
  blk : Nat
  off : Nat
  size : Nat
  /-- the cells up to here are the block's own -/
  ext : Nat
  esz : Nat
  ro : Bool
inductive St | unborn | live (p : Pl) | dead
abbrev Inj := Nat → St

inductive VR (ι : Inj) : Value → Value → Prop
  | un (r : Value) : VR ι (.tuple #[]) r
  | sk : VR ι (.tuple #[.tuple #[]]) (.tuple #[])
  | same (v : Value) (h : plain1 v = true) : VR ι v v
  | ptr (g o : Nat) (p : Pl) (h : ι g = .live p) : VR ι (.pointer (some ⟨g, o, none⟩)) (.pointer (some ⟨p.blk, p.off + o, none⟩))
  | ptrD (a : Addr) (r : Addr) (h : ι a.block = .dead) : VR ι (.pointer (some a)) (.pointer (some r))
  | sl (g o n c c' : Nat) (p : Pl) (h : ι g = .live p) (hc : c' = c ∨ (0 < p.esz ∧ c ≤ c' ∧ (o = 0 → p.off + c' * p.esz ≤ p.ext))) (hn : n ≤ c) : VR ι (.slice (some ⟨g, o, none⟩) n c) (.slice (some ⟨p.blk, p.off + o, none⟩) n c')
  | slE (a r : Addr) (c' : Nat) (h : a.off ≠ 0) : VR ι (.slice (some a) 0 0) (.slice (some r) 0 c')
  | slD (a : Addr) (n c c' : Nat) (r : Addr) (h : ι a.block = .dead) (hc : c ≤ c') : VR ι (.slice (some a) n c) (.slice (some r) n c')
  | map (g : Nat) (p : Pl) (h : ι g = .live p) : VR ι (.map (some g)) (.map (some p.blk))
  | mapD (g r : Nat) (h : ι g = .dead) : VR ι (.map (some g)) (.map (some r))
  | agg (cs rs : Array Value) (hl : cs.toList.length = rs.toList.length) (h : ∀ i v r, nth cs.toList i = some v → nth rs.toList i = some r → VR ι v r) : VR ι (.agg cs) (.agg rs)
  | tup (cs rs : Array Value) (hl : cs.toList.length = rs.toList.length) (h : ∀ i v r, nth cs.toList i = some v → nth rs.toList i = some r → VR ι v r) : VR ι (.tuple cs) (.tuple rs)
  | func (fn : Fn) (fs fs' cs cs' : Array Value) (hf : fs.toList.length = fs'.toList.length) (h : ∀ i v r, nth fs.toList i = some v → nth fs'.toList i = some r → VR ι v r)
      (hc : cs.toList.length = cs'.toList.length) (h' : ∀ i v r, nth cs.toList i = some v → nth cs'.toList i = some r → VR ι v r) : VR ι (.func fn fs cs) (.func fn fs' cs')

def Le (ι ι' : Inj) : Prop := ∀ g, ι g = .unborn ∨ ι' g = ι g ∨ ι' g = .dead
theorem VR.mono {ι ι' : Inj} (hl : Le ι ι') {v r : Value} (h : VR ι v r) : VR ι' v r := by
  induction h with
  | un r => exact .un r
  | sk => exact .sk
  | same v h => exact .same v h
  | ptr g o p h => rcases hl g with e | e | e
                   · rw [h] at e; cases e
                   · exact .ptr g o p (e.trans h)
                   · exact .ptrD ⟨g, o, none⟩ _ e
  | ptrD a r h => rcases hl a.block with e | e | e
                  · rw [h] at e; cases e
                  · exact .ptrD a r (e.trans h)
                  · exact .ptrD a r e
  | sl g o n c c' p h hc hn =>
    rcases hl g with e | e | e
    · rw [h] at e; cases e
    · exact .sl g o n c c' p (e.trans h) hc hn
    · exact .slD ⟨g, o, none⟩ n c c' _ e (by rcases hc with rfl | h <;> omega)
  | slE a r c' h => exact .slE a r c' h
  | slD a n c c' r h hc =>
    rcases hl a.block with e | e | e
    · rw [h] at e; cases e
    · exact .slD a n c c' r (e.trans h) hc
    · exact .slD a n c c' r e hc
  | map g p h => rcases hl g with e | e | e
                 · rw [h] at e; cases e
                 · exact .map g p (e.trans h)
                 · exact .mapD g _ e
  | mapD g r h => rcases hl g with e | e | e
                  · rw [h] at e; cases e
                  · exact .mapD g r (e.trans h)
                  · exact .mapD g r e
  | agg cs rs hl' _ ih => exact .agg cs rs hl' ih
  | tup cs rs hl' _ ih => exact .tup cs rs hl' ih
  | func fn fs fs' cs cs' hf _ hc _ ih ih' => exact .func fn fs fs' cs cs' hf ih hc ih'
theorem Le.refl (ι : Inj) : Le ι ι := fun _ => .inr (.inl rfl)

/-! ### what stands against a value, by its form -/
section
variable {ι : Inj} {r : Value}
theorem VR.int {k : IntKind} {n : Int} (h : VR ι (.int k n) r) : r = .int k n := by cases h; rfl
theorem VR.bool {b : Bool} (h : VR ι (.bool b) r) : r = .bool b := by cases h; rfl
theorem VR.str {s : ByteArray} (h : VR ι (.string s) r) : r = .string s := by cases h; rfl
theorem VR.nilP (h : VR ι (.pointer none) r) : r = .pointer none := by cases h; rfl
theorem VR.pointer {p : Option Addr} (h : VR ι (.pointer p) r) : ∃ q, r = .pointer q ∧ q.isNone = p.isNone := by cases h <;> exact ⟨_, rfl, rfl⟩
theorem VR.slice {a : Option Addr} {n c : Nat} (h : VR ι (.slice a n c) r) : ∃ q c', r = .slice q n c' ∧ q.isNone = a.isNone := by cases h <;> exact ⟨_, _, rfl, rfl⟩
theorem VR.someP {g o : Nat} (h : VR ι (.pointer (some ⟨g, o, none⟩)) r) : (∃ p, ι g = .live p ∧ r = .pointer (some ⟨p.blk, p.off + o, none⟩)) ∨ (ι g = .dead ∧ ∃ q, r = .pointer (some q)) := by
  cases h with
  | same _ h => cases h
  | ptr _ _ p h => exact .inl ⟨p, h, rfl⟩
  | ptrD _ q h => exact .inr ⟨h, q, rfl⟩
theorem VR.someS {g o n c : Nat} (h : VR ι (.slice (some ⟨g, o, none⟩) n c) r) :
    (∃ p c', ι g = .live p ∧ r = .slice (some ⟨p.blk, p.off + o, none⟩) n c' ∧ (c' = c ∨ (0 < p.esz ∧ c ≤ c' ∧ (o = 0 → p.off + c' * p.esz ≤ p.ext))) ∧ n ≤ c) ∨ (ι g = .dead ∧ ∃ q c', r = .slice (some q) n c' ∧ c ≤ c') ∨ (n = 0 ∧ c = 0 ∧ o ≠ 0 ∧ ∃ q c', r = .slice (some q) 0 c') := by
  cases h with
  | same _ h => cases h
  | slE _ q c' h => exact .inr (.inr ⟨rfl, rfl, h, q, c', rfl⟩)
  | sl _ _ _ _ c' p h hc hn => exact .inl ⟨p, c', h, rfl, hc, hn⟩
  | slD _ _ _ c' q h hc => exact .inr (.inl ⟨h, q, c', rfl, hc⟩)
theorem VR.nilS {n c : Nat} (h : VR ι (.slice none n c) r) : r = .slice none n c := by cases h; rfl
theorem VR.cell {v : Value} (h : VR ι v r) (hv : isCell v = true) : r.oneCell' = true := by
  cases h with
  | un => cases hv
  | sk => cases hv
  | same _ h => cases r <;> first | rfl | cases hv
  | agg => cases hv
  | tup => cases hv
  | _ => rfl
theorem VR.aggL {cs : Array Value} (h : VR ι (.agg cs) r) : ∃ rs : Array Value, r = .agg rs ∧ All2 (VR ι) cs.toList rs.toList := by
  cases h with
  | same _ h => cases h
  | agg _ rs hl h => exact ⟨rs, rfl, .of hl fun i a c ha hc => h i a c ha hc⟩
theorem VR.tupL {cs : Array Value} (h : VR ι (.tuple cs) r) : (cs = #[] ∨ cs = #[.tuple #[]]) ∨ ∃ rs : Array Value, r = .tuple rs ∧ All2 (VR ι) cs.toList rs.toList := by
  cases h with
  | un => exact .inl (.inl rfl)
  | sk => exact .inl (.inr rfl)
  | same _ h => cases h
  | tup _ rs hl h => exact .inr ⟨rs, rfl, .of hl fun i a c ha hc => h i a c ha hc⟩
theorem VR.funcL {fn : Fn} {fs cs : Array Value} (h : VR ι (.func fn fs cs) r) : ∃ fs' cs' : Array Value, r = .func fn fs' cs' ∧ All2 (VR ι) fs.toList fs'.toList ∧ All2 (VR ι) cs.toList cs'.toList := by
  cases h with
  | same _ h => cases h
  | func _ _ fs' _ cs' hf h hc h' => exact ⟨fs', cs', rfl, .of hf fun i a c ha hc => h i a c ha hc, .of hc fun i a c ha hc => h' i a c ha hc⟩
theorem VR.mkAgg {cs rs : Array Value} (h : All2 (VR ι) cs.toList rs.toList) : VR ι (.agg cs) (.agg rs) :=
  .agg cs rs h.length fun i v r hv hr => by obtain ⟨c, hc, h'⟩ := h.get hv; rw [hr] at hc; cases hc; exact h'
theorem VR.mkTup {cs rs : Array Value} (h : All2 (VR ι) cs.toList rs.toList) : VR ι (.tuple cs) (.tuple rs) :=
  .tup cs rs h.length fun i v r hv hr => by obtain ⟨c, hc, h'⟩ := h.get hv; rw [hr] at hc; cases hc; exact h'
theorem VR.mkFunc {fn : Fn} {fs fs' cs cs' : Array Value} (h : All2 (VR ι) fs.toList fs'.toList) (h' : All2 (VR ι) cs.toList cs'.toList) : VR ι (.func fn fs cs) (.func fn fs' cs') :=
  .func fn fs fs' cs cs' h.length (fun i v r hv hr => by obtain ⟨c, hc, h''⟩ := h.get hv; rw [hr] at hc; cases hc; exact h'') h'.length (fun i v r hv hr => by obtain ⟨c, hc, h''⟩ := h'.get hv; rw [hr] at hc; cases hc; exact h'')
theorem VR.skip {v : Value} (hs : isSkip v = true) (h : VR ι v r) : ∃ rs, r = .tuple rs := by
  cases h with
  | un => cases hs
  | sk => exact ⟨_, rfl⟩
  | same _ h => cases r <;> first | exact ⟨_, rfl⟩ | cases hs
  | tup => exact ⟨_, rfl⟩
  | _ => cases hs
theorem VR.skipV : VR ι skipV undef := .sk
end
theorem plains_all {l : List Value} (h : plains l = true) (ι : Inj) : All2 (VR ι) l l := by
  induction l with
  | nil => exact .nil
  | cons v r ih => simp [plains] at h; exact .cons (.same v h.1) (ih h.2)
theorem VR.plainC {v : Value} (h : plainC v = true) (ι : Inj) : VR ι v v := by
  cases v <;> first | exact .same _ h | exact .mkAgg (plains_all h ι)

/-! ### the two memories -/
/-- a block of which no cell is barred -/
def FzOk (w : World) (b : Nat) : Prop := ∃ c e lo hi, w.heap[b]? = some (.cells c e (lo, hi)) ∧ (lo = hi ∨ c.size ≤ lo)
theorem FzOk.cell {w : World} {b i : Nat} (h : FzOk w b) (hc : (w.cell? ⟨b, i, none⟩).isSome = true) : w.frozen? ⟨b, i, none⟩ = false := by
  obtain ⟨c, e, lo, hi, h1, h2⟩ := h
  simp only [World.cell?, World.frozen?, h1, Option.isSome_none, Bool.false_eq_true, if_false] at hc ⊢
  have hi' : i < c.size := by
    rcases Nat.lt_or_ge i c.size with h | h
    · exact h
    · rw [Array.getElem?_eq_none h] at hc; cases hc
  simp only [Bool.and_eq_false_iff, decide_eq_false_iff_not]
  rcases h2 with h | h <;> omega
structure RowOk (ι : Inj) (p : Pl) (b : Blk) (w : World) : Prop where
  size : b.cells.length = p.size
  esz : b.esz = p.esz
  ro : b.ro = p.ro
  ext : p.off + p.size ≤ p.ext
  cell : ∀ i v, nth b.cells i = some v → ∃ r, w.cell? ⟨p.blk, p.off + i, none⟩ = some r ∧ VR ι v r
  room : p.ro = false → FzOk w p.blk ∧ ∀ i, p.off ≤ i → i < p.ext → (w.cell? ⟨p.blk, i, none⟩).isSome = true
def MR (ι : Inj) (kv : Value × Value) (e : MapEntry) : Prop := VR ι kv.1 e.key ∧ VR ι kv.2 e.val
structure MapOk (ι : Inj) (p : Pl) (es : List (Value × Value)) (w : World) : Prop where
  ro : p.ro = false
  off : p.off = 0
  ext : p.ext = 1
  obj : ∃ ents clock, w.heap[p.blk]? = some (.map ents clock) ∧ All2 (MR ι) es ents.toList
def ObjOk (ι : Inj) (p : Pl) (o : Option GObj) (w : World) : Prop := match o with
  | some (.row b) => RowOk ι p b w
  | some (.map es) => MapOk ι p es w
  | none => False
structure HR (ι : Inj) (h : GH) (w : World) : Prop where
  obj : ∀ g p, g < h.next → ι g = .live p → ObjOk ι p (h.get g) w
  dead : ∀ g, g < h.next → ι g = .dead → h.get g = none
  apart : ∀ g g' p p', ι g = .live p → ι g' = .live p' → g ≠ g' → p.blk = p'.blk → (p.ro = true ∧ p'.ro = true) ∨ p.ext ≤ p'.off ∨ p'.ext ≤ p.off
  inb : ∀ g p, ι g = .live p → p.blk < w.heap.size
/-- no name from the memory's end up to n is taken -/
structure Good (ι : Inj) (h : GH) (n : Nat) (w : World) : Prop where
  hr : HR ι h w
  free : ∀ g, h.next ≤ g → g < n → ι g = .unborn
def Cov (n : Nat) (ι : Inj) (b i : Nat) : Prop := ∃ g p, g < n ∧ ι g = .live p ∧ p.ro = false ∧ p.blk = b ∧ p.off ≤ i ∧ i < p.ext
/-- outside of D the world is as it was -/
structure Fr (D : Nat → Nat → Prop) (w w' : World) : Prop where
  os : w'.os = w.os
  tape : w'.tape = w.tape
  output : w'.output = w.output
  size : w.heap.size ≤ w'.heap.size
  cell : ∀ b i, b < w.heap.size → ¬ D b i → w'.cell? ⟨b, i, none⟩ = w.cell? ⟨b, i, none⟩
  some : ∀ b i, b < w.heap.size → (w.cell? ⟨b, i, none⟩).isSome = true → (w'.cell? ⟨b, i, none⟩).isSome = true
  fz : ∀ b, b < w.heap.size → FzOk w b → FzOk w' b
  block : ∀ b, b < w.heap.size → (∀ i, ¬ D b i) → w'.heap[b]? = w.heap[b]?
theorem Fr.refl (D : Nat → Nat → Prop) (w : World) : Fr D w w := ⟨rfl, rfl, rfl, Nat.le_refl _, fun _ _ _ _ => rfl, fun _ _ _ h => h, fun _ _ h => h, fun _ _ _ => rfl⟩
theorem Fr.trans {D D' : Nat → Nat → Prop} {a b c : World} (h : Fr D a b) (k : Fr D' b c) (hd : ∀ x i, x < a.heap.size → D' x i → D x i) : Fr D a c :=
  ⟨k.os.trans h.os, k.tape.trans h.tape, k.output.trans h.output, Nat.le_trans h.size k.size,
   fun x i hx hn => (k.cell x i (Nat.lt_of_lt_of_le hx h.size) (fun hh => hn (hd x i hx hh))).trans (h.cell x i hx hn),
   fun x i hx hs => k.some x i (Nat.lt_of_lt_of_le hx h.size) (h.some x i hx hs),
   fun x hx hf => k.fz x (Nat.lt_of_lt_of_le hx h.size) (h.fz x hx hf),
   fun x hx hn => (k.block x (Nat.lt_of_lt_of_le hx h.size) (fun i hh => hn i (hd x i hx hh))).trans (h.block x hx hn)⟩
structure Stp (h : GH) (ι : Inj) (w : World) (h' : GH) (ι' : Inj) (w' : World) : Prop where
  next : h.next ≤ h'.next
  old : ∀ g, g < h.next → ι' g = ι g ∨ ((∃ p, ι g = .live p ∧ p.ro = false) ∧ ι' g = .dead)
  far : ∀ g, h'.next ≤ g → ι' g = ι g
  hr : HR ι' h' w'
  same : ∀ g, g < h.next → ι g = .unborn → h'.get g = h.get g
  fr : Fr (Cov h.next ι) w w'
  cov : ∀ b i, b < w.heap.size → Cov h'.next ι' b i → Cov h.next ι b i
theorem Stp.le {h h' : GH} {ι ι' : Inj} {w w' : World} (s : Stp h ι w h' ι' w') (hf : ∀ g, h.next ≤ g → g < h'.next → ι g = .unborn) : Le ι ι' := fun g => by
  by_cases h1 : g < h.next
  · rcases s.old g h1 with e | ⟨_, e⟩
    · exact .inr (.inl e)
    · exact .inr (.inr e)
  · by_cases h2 : g < h'.next
    · exact .inl (hf g (by omega) h2)
    · exact .inr (.inl (s.far g (by omega)))
theorem Stp.refl {h : GH} {ι : Inj} {w : World} (hr : HR ι h w) : Stp h ι w h ι w := ⟨Nat.le_refl _, fun _ _ => .inl rfl, fun _ _ => rfl, hr, fun _ _ _ => rfl, Fr.refl _ _, fun _ _ _ h => h⟩
theorem Stp.trans {h h1 h2 : GH} {ι ι1 ι2 : Inj} {w w1 w2 : World} (s : Stp h ι w h1 ι1 w1) (k : Stp h1 ι1 w1 h2 ι2 w2) : Stp h ι w h2 ι2 w2 where
  next := Nat.le_trans s.next k.next
  old g hg := by
    have hg1 := Nat.lt_of_lt_of_le hg s.next
    rcases s.old g hg with e | ⟨hp, e⟩
    · rcases k.old g hg1 with e' | ⟨hp', e'⟩
      · exact .inl (e'.trans e)
      · exact .inr ⟨e ▸ hp', e'⟩
    · rcases k.old g hg1 with e' | ⟨hp', e'⟩
      · exact .inr ⟨hp, e'.trans e⟩
      · exact .inr ⟨hp, e'⟩
  far g hg := (k.far g hg).trans (s.far g (Nat.le_trans k.next hg))
  hr := k.hr
  same g hg hu := by
    rcases s.old g hg with e | ⟨⟨p, hp, _⟩, _⟩
    · exact (k.same g (Nat.lt_of_lt_of_le hg s.next) (e.trans hu)).trans (s.same g hg hu)
    · rw [hu] at hp; cases hp
  fr := s.fr.trans k.fr fun x i hx hc => s.cov x i hx hc
  cov b i hb hc := s.cov b i hb (k.cov b i (Nat.lt_of_lt_of_le hb s.fr.size) hc)
theorem Good.step {h h1 : GH} {ι ι1 : Inj} {w w1 : World} {n : Nat} (g : Good ι h n w) (s : Stp h ι w h1 ι1 w1) : Good ι1 h1 n w1 :=
  ⟨s.hr, fun x hx hn => (s.far x hx).trans (g.free x (Nat.le_trans s.next hx) hn)⟩
theorem Good.less {h : GH} {ι : Inj} {w : World} {n m : Nat} (g : Good ι h n w) (hm : m ≤ n) : Good ι h m w := ⟨g.hr, fun x hx hn => g.free x hx (Nat.lt_of_lt_of_le hn hm)⟩
/-- A world that differs by draws alone. -/
theorem HR.drew {ι : Inj} {h : GH} {w : World} (hr : HR ι h w) (n : Nat) : HR ι h (w.drewN n) where
  obj g p hg hl := by
    have := hr.obj g p hg hl
    unfold ObjOk at *
    split at this
    · exact ⟨this.size, this.esz, this.ro, this.ext, this.cell, this.room⟩
    · exact ⟨this.ro, this.off, this.ext, this.obj⟩
    · exact this.elim
  dead := hr.dead
  apart := hr.apart
  inb := hr.inb
end Go.Proofs.Ytibngikhlgmhaaa.Gx
/- The plain machine and the model: what a new block, a store, a load do to both memories. No condition. -/
namespace Go.Proofs.Ytibngikhlgmhaaa.Gx
open Go Go.RowKit
set_option linter.unusedVariables false

theorem beq_ne {x y : Nat} (h : x ≠ y) : Nat.beq x y = false := by
  cases e : Nat.beq x y with
  | false => rfl
  | true => exact (h (Nat.eq_of_beq_eq_true e)).elim
theorem beq_self (x : Nat) : Nat.beq x x = true := Nat.beq_refl x
theorem get_push_new (h : GH) (o : GObj) : (h.push o).get h.next = some o := by show (bif Nat.beq h.next h.next then _ else _) = _; rw [beq_self]; rfl
theorem get_push_ne (h : GH) (o : GObj) {x : Nat} (hx : x ≠ h.next) : (h.push o).get x = h.get x := by show (bif Nat.beq x h.next then _ else _) = _; rw [beq_ne hx]; rfl
theorem get_put_same (h : GH) (g : Nat) (o : Option GObj) : (h.put g o).get g = o := by show (bif Nat.beq g g then _ else _) = _; rw [beq_self]; rfl
theorem get_put_ne (h : GH) {g : Nat} (o : Option GObj) {x : Nat} (hx : x ≠ g) : (h.put g o).get x = h.get x := by show (bif Nat.beq x g then _ else _) = _; rw [beq_ne hx]; rfl
/-! ### worlds -/
theorem heap_setCells_size (b : Nat) : ∀ (vs : List Value) (o : Nat) (w : World), (w.setCells b o vs).heap.size = w.heap.size
  | [], _, _ => rfl
  | v :: r, o, w => by rw [World.setCells, heap_setCells_size b r]; simp [World.setCell]
theorem heap_setCells_ne (b : Nat) : ∀ (vs : List Value) (o : Nat) (w : World) (k : Nat), k ≠ b → (w.setCells b o vs).heap[k]? = w.heap[k]?
  | [], _, _, _, _ => rfl
  | v :: r, o, w, k, hk => by rw [World.setCells, heap_setCells_ne b r _ _ _ hk, Below.heap_setCell _ _ _ _ hk]
theorem setCells_os (b : Nat) : ∀ (vs : List Value) (o : Nat) (w : World), (w.setCells b o vs).os = w.os ∧ (w.setCells b o vs).tape = w.tape ∧ (w.setCells b o vs).output = w.output
  | [], _, _ => ⟨rfl, rfl, rfl⟩
  | v :: r, o, w => by rw [World.setCells]; exact setCells_os b r (o + 1) _
theorem isSome_setCells' (b : Nat) (vs : List Value) (o : Nat) (w : World) (x : Addr) (h : (w.cell? x).isSome = true) : ((w.setCells b o vs).cell? x).isSome = true := World.isSome_setCells b vs o w x h
/-- a world with one block more, behind draws -/
theorem cell_new (w : World) (k : Nat) (rc : Array Value) (el : TypeId) (i : Nat) : ((w.drewN k).alloc (.cells rc el)).cell? ⟨w.heap.size, i, none⟩ = rc[i]? := by
  have : ((w.drewN k).alloc (.cells rc el)).heap[w.heap.size]? = some (.cells rc el) := by simp [World.alloc, World.drewN]
  unfold World.cell?; simp only []; rw [this]; simp
theorem frozen_new (w : World) (k : Nat) (rc : Array Value) (el : TypeId) (i : Nat) : ((w.drewN k).alloc (.cells rc el)).frozen? ⟨w.heap.size, i, none⟩ = false := by
  have : ((w.drewN k).alloc (.cells rc el)).heap[w.heap.size]? = some (.cells rc el) := by simp [World.alloc, World.drewN]
  unfold World.frozen?; simp only []; rw [this]; simp
theorem heap_old (w : World) (k : Nat) (o : Obj) (b : Nat) (hb : b < w.heap.size) : ((w.drewN k).alloc o).heap[b]? = w.heap[b]? := by
  simp [World.alloc, World.drewN, Array.getElem?_push]; omega
theorem cell_of_heap {w w' : World} {b : Nat} (h : w'.heap[b]? = w.heap[b]?) (i : Nat) : w'.cell? ⟨b, i, none⟩ = w.cell? ⟨b, i, none⟩ := by simp [World.cell?, h]
theorem frozen_of_heap {w w' : World} {b : Nat} (h : w'.heap[b]? = w.heap[b]?) (i : Nat) : w'.frozen? ⟨b, i, none⟩ = w.frozen? ⟨b, i, none⟩ := by simp [World.frozen?, h]
theorem fz_of_heap {w w' : World} {b : Nat} (h : w'.heap[b]? = w.heap[b]?) (hf : FzOk w b) : FzOk w' b := by
  obtain ⟨c, e, lo, hi, h1, h2⟩ := hf; exact ⟨c, e, lo, hi, h.trans h1, h2⟩
theorem fz_new (w : World) (k : Nat) (rc : Array Value) (el : TypeId) : FzOk ((w.drewN k).alloc (.cells rc el)) w.heap.size :=
  ⟨rc, el, 0, 0, by simp [World.alloc, World.drewN], .inl rfl⟩
theorem fz_setCells (b : Nat) : ∀ (vs : List Value) (o : Nat) (w : World) (k : Nat), FzOk w k → FzOk (w.setCells b o vs) k
  | [], _, _, _, h => h
  | v :: vs, o, w, k, h => by
    refine fz_setCells b vs (o + 1) _ k ?_
    obtain ⟨c, e, lo, hi, h1, h2⟩ := h
    by_cases hk : k = b
    · subst hk
      obtain ⟨hlt, hk'⟩ := Array.getElem?_eq_some_iff.1 h1
      refine ⟨c.setIfInBounds o v, e, lo, hi, ?_, by simpa using h2⟩
      show (w.heap.modify k _)[k]? = some _
      rw [Array.getElem?_eq_getElem (by rw [Array.size_modify]; exact hlt), Array.getElem_modify_self, hk']
      rfl
    · refine ⟨c, e, lo, hi, ?_, h2⟩
      show (w.heap.modify b _)[k]? = some _
      rw [Array.getElem?_modify, if_neg (Ne.symm hk)]; exact h1
theorem Fr.alloc (D : Nat → Nat → Prop) (w : World) (k : Nat) (o : Obj) : Fr D w ((w.drewN k).alloc o) :=
  ⟨rfl, rfl, rfl, by simp [World.alloc, World.drewN], fun b i hb _ => cell_of_heap (heap_old w k o b hb) i, fun b i hb h => by rw [cell_of_heap (heap_old w k o b hb) i]; exact h,
   fun b hb => fz_of_heap (heap_old w k o b hb), fun b hb _ => heap_old w k o b hb⟩
theorem Fr.drew (D : Nat → Nat → Prop) (w : World) (k : Nat) : Fr D w (w.drewN k) := ⟨rfl, rfl, rfl, Nat.le_refl _, fun _ _ _ _ => rfl, fun _ _ _ h => h, fun _ _ h => h, fun _ _ _ => rfl⟩
theorem Fr.setCells {D : Nat → Nat → Prop} (w : World) (b o : Nat) (vs : List Value) (hd : ∀ i, o ≤ i → i < o + vs.length → D b i) (hv : vs ≠ []) : Fr D w (w.setCells b o vs) := by
  obtain ⟨h1, h2, h3⟩ := setCells_os b vs o w
  refine ⟨h1, h2, h3, by rw [heap_setCells_size]; exact Nat.le_refl _, fun x i hx hn => World.cell?_setCells_out b vs o w _ (fun e _ => ?_), fun x i hx h => isSome_setCells' b vs o w _ h, fun x hx => fz_setCells b vs o w x, fun x hx hn => ?_⟩
  · simp at e; subst e
    show i < o ∨ o + vs.length ≤ i
    rcases Nat.lt_or_ge i o with h | h
    · exact .inl h
    · rcases Nat.lt_or_ge i (o + vs.length) with h' | h'
      · exact (hn (hd i h h')).elim
      · exact .inr h'
  · refine heap_setCells_ne b vs o w x (fun e => ?_)
    subst e
    have : 0 < vs.length := by cases vs with | nil => exact (hv rfl).elim | cons => simp
    exact hn o (hd o (Nat.le_refl _) (by omega))

/-! ### the names -/
def upd (ι : Inj) (g : Nat) (s : St) : Inj := fun x => if x = g then s else ι x
theorem upd_same (ι : Inj) (g : Nat) (s : St) : upd ι g s g = s := by simp [upd]
theorem upd_ne (ι : Inj) {g x : Nat} (s : St) (h : x ≠ g) : upd ι g s x = ι x := by simp [upd, h]
theorem Le.born {ι : Inj} {g : Nat} (s : St) (h : ι g = .unborn) : Le ι (upd ι g s) := fun x => by
  by_cases e : x = g
  · subst e; exact .inl h
  · exact .inr (.inl (upd_ne ι s e))
theorem Le.kill (ι : Inj) (g : Nat) : Le ι (upd ι g .dead) := fun x => by
  by_cases e : x = g
  · subst e; exact .inr (.inr (upd_same ι x .dead))
  · exact .inr (.inl (upd_ne ι .dead e))
theorem Le.trans {a b c : Inj} (h : Le a b) (k : Le b c) : Le a c := fun g => by
  rcases h g with e | e | e
  · exact .inl e
  · rcases k g with e' | e' | e'
    · exact .inl (e ▸ e')
    · exact .inr (.inl (e'.trans e))
    · exact .inr (.inr e')
  · rcases k g with e' | e' | e'
    · rw [e] at e'; cases e'
    · exact .inr (.inr (e'.trans e))
    · exact .inr (.inr e')
theorem RowOk.mono {ι ι' : Inj} (hl : Le ι ι') {p : Pl} {b : Blk} {w w' : World} (h : RowOk ι p b w) (hc : ∀ i, i < p.size → w'.cell? ⟨p.blk, p.off + i, none⟩ = w.cell? ⟨p.blk, p.off + i, none⟩)
    (hr : p.ro = false → (FzOk w p.blk → FzOk w' p.blk) ∧ ∀ i, p.off ≤ i → i < p.ext → (w.cell? ⟨p.blk, i, none⟩).isSome = true → (w'.cell? ⟨p.blk, i, none⟩).isSome = true) : RowOk ι' p b w' :=
  ⟨h.size, h.esz, h.ro, h.ext, fun i v hv => by
      obtain ⟨r, hr, hv'⟩ := h.cell i v hv
      have hi : i < p.size := by rw [← h.size]; rw [nth_eq] at hv; exact (List.getElem?_eq_some_iff.1 hv).1
      exact ⟨r, (hc i hi).trans hr, hv'.mono hl⟩,
   fun hro => ⟨(hr hro).1 (h.room hro).1, fun i h1 h2 => (hr hro).2 i h1 h2 ((h.room hro).2 i h1 h2)⟩⟩
theorem ObjOk.row {ι : Inj} {p : Pl} {o : Option GObj} {w : World} {b : Blk} (h : ObjOk ι p o w) (hb : o = some (.row b)) : RowOk ι p b w := by subst hb; exact h
theorem ObjOk.mono {ι ι' : Inj} (hl : Le ι ι') {p : Pl} {o : Option GObj} {w w' : World} (h : ObjOk ι p o w) (hc : ∀ i, p.off ≤ i → i < p.ext → w'.cell? ⟨p.blk, i, none⟩ = w.cell? ⟨p.blk, i, none⟩)
    (hr : p.ro = false → (FzOk w p.blk → FzOk w' p.blk) ∧ ∀ i, p.off ≤ i → i < p.ext → (w.cell? ⟨p.blk, i, none⟩).isSome = true → (w'.cell? ⟨p.blk, i, none⟩).isSome = true)
    (hm : ∀ es, o = some (.map es) → ∀ ents c, w.heap[p.blk]? = some (.map ents c) → w'.heap[p.blk]? = some (.map ents c)) : ObjOk ι' p o w' := by
  unfold ObjOk at *
  split at h
  · have := h.ext
    exact h.mono hl (fun i hi => hc _ (by omega) (by omega)) hr
  · obtain ⟨h1, h2, h3, ents, c, h4, h5⟩ := h
    exact ⟨h1, h2, h3, ents, c, hm _ rfl _ _ h4, h5.mono fun a b hab => ⟨hab.1.mono hl, hab.2.mono hl⟩⟩
  · exact h
theorem heap_setCells_map (b : Nat) : ∀ (vs : List Value) (o : Nat) (w : World) (k : Nat) (ents : Array MapEntry) (c : Nat), w.heap[k]? = some (.map ents c) → (w.setCells b o vs).heap[k]? = some (.map ents c)
  | [], _, _, _, _, _, h => h
  | v :: vs, o, w, k, ents, c, h => by
    refine heap_setCells_map b vs (o + 1) _ k ents c ?_
    by_cases e : k = b
    · subst e
      obtain ⟨hlt, hk'⟩ := Array.getElem?_eq_some_iff.1 h
      show (w.heap.modify k _)[k]? = some _
      rw [Array.getElem?_eq_getElem (by rw [Array.size_modify]; exact hlt), Array.getElem_modify_self, hk']
    · show (w.heap.modify b _)[k]? = some _
      rw [Array.getElem?_modify, if_neg (Ne.symm e)]; exact h
theorem cell_of_map {w : World} {k : Nat} {ents : Array MapEntry} {c : Nat} (h : w.heap[k]? = some (.map ents c)) (i : Nat) : w.cell? ⟨k, i, none⟩ = none ∧ w.frozen? ⟨k, i, none⟩ = false := by
  constructor
  · simp [World.cell?, h]
  · simp [World.frozen?, h]

/-- A new block, of whatever kind. -/
theorem newobj_stp {ι : Inj} {h : GH} {w : World} (g : Good ι h (h.next + 1) w) (k : Nat) (ob : Obj) (go : GObj) (pl : Pl) (hblk : pl.blk = w.heap.size) (hok : ∀ ι', Le ι ι' → ObjOk ι' pl (some go) ((w.drewN k).alloc ob)) :
    Stp h ι w (h.push go) (upd ι h.next (.live pl)) ((w.drewN k).alloc ob) := by
  have hu : ι h.next = .unborn := g.free _ (Nat.le_refl _) (Nat.lt_succ_self _)
  have hl : Le ι (upd ι h.next (.live pl)) := Le.born _ hu
  have hsz : ((w.drewN k).alloc ob).heap.size = w.heap.size + 1 := by simp [World.alloc, World.drewN]
  refine ⟨Nat.le_succ _, fun x hx => .inl (upd_ne _ _ (by omega)), fun x hx => upd_ne _ _ (by have : h.next + 1 ≤ x := hx; omega), ⟨?_, ?_, ?_, ?_⟩, fun x hx _ => ?_, Fr.alloc _ w k _, ?_⟩
  · intro x p hx hp
    by_cases e : x = h.next
    · subst e
      rw [upd_same] at hp
      cases hp
      have : (h.push go).get h.next = some go := get_push_new h _
      rw [this]
      exact hok _ hl
    · rw [upd_ne _ _ e] at hp
      have hx' : x < h.next := by have : x < h.next + 1 := hx; omega
      have hg : (h.push go).get x = h.get x := get_push_ne h _ e
      rw [hg]
      have hin := g.hr.inb x p hp
      exact (g.hr.obj x p hx' hp).mono hl (fun i _ _ => cell_of_heap (heap_old w k _ _ hin) _) (fun _ => ⟨fz_of_heap (heap_old w k _ _ hin), fun i _ _ hh => by rw [cell_of_heap (heap_old w k _ _ hin)]; exact hh⟩) (fun _ _ ents c hh => (heap_old w k _ _ hin).trans hh)
  · intro x hx hd
    have e : x ≠ h.next := fun e => by subst e; rw [upd_same] at hd; cases hd
    rw [upd_ne _ _ e] at hd
    have : x < h.next + 1 := hx
    have hg : (h.push go).get x = h.get x := get_push_ne h _ e
    rw [hg]
    exact g.hr.dead x (by omega) hd
  · intro x y p q hp hq hne hb
    by_cases e : x = h.next
    · subst e
      rw [upd_same] at hp; cases hp
      rw [upd_ne _ _ (Ne.symm hne)] at hq
      have := g.hr.inb y q hq
      omega
    · rw [upd_ne _ _ e] at hp
      by_cases e' : y = h.next
      · subst e'
        rw [upd_same] at hq; cases hq
        have := g.hr.inb x p hp
        omega
      · rw [upd_ne _ _ e'] at hq
        exact g.hr.apart x y p q hp hq hne hb
  · intro x p hp
    by_cases e : x = h.next
    · subst e; rw [upd_same] at hp; cases hp; omega
    · rw [upd_ne _ _ e] at hp
      have := g.hr.inb x p hp
      omega
  · exact get_push_ne h _ (by omega)
  · rintro b i hb ⟨x, p, hx, hp, hro, hpb, h1, h2⟩
    by_cases e : x = h.next
    · subst e; rw [upd_same] at hp; cases hp; omega
    · rw [upd_ne _ _ e] at hp
      exact ⟨x, p, by have : x < h.next + 1 := hx; omega, hp, hro, hpb, h1, h2⟩
/-- A new row. -/
theorem new_stp {ι : Inj} {h : GH} {w : World} (g : Good ι h (h.next + 1) w) (k : Nat) (rc : Array Value) (el : TypeId) (cs : List Value) (esz : Nat) (hs : cs.length ≤ rc.size)
    (hc : ∀ i v, nth cs i = some v → ∃ r, rc[i]? = some r ∧ VR ι v r) :
    Stp h ι w (h.push (.row ⟨cs, esz, false⟩)) (upd ι h.next (.live ⟨w.heap.size, 0, cs.length, rc.size, esz, false⟩)) ((w.drewN k).alloc (.cells rc el)) :=
  newobj_stp g k (.cells rc el) (.row ⟨cs, esz, false⟩) ⟨w.heap.size, 0, cs.length, rc.size, esz, false⟩ rfl fun ι' hl => ⟨rfl, rfl, rfl, by simpa using hs, fun i v hv => by
        obtain ⟨r, hr, hv'⟩ := hc i v hv
        exact ⟨r, by simpa [cell_new] using hr, hv'.mono hl⟩, fun _ => ⟨fz_new w k rc el, fun i _ h2 => by simp [cell_new]; exact h2⟩⟩
/-- A new map. -/
theorem newmap_stp {ι : Inj} {h : GH} {w : World} (g : Good ι h (h.next + 1) w) :
    Stp h ι w (h.push (.map [])) (upd ι h.next (.live ⟨w.heap.size, 0, 0, 1, 0, false⟩)) (w.alloc (.map #[] 0)) := by
  refine newobj_stp g 0 (.map #[] 0) (.map []) ⟨w.heap.size, 0, 0, 1, 0, false⟩ rfl fun ι' hl => ⟨rfl, rfl, rfl, #[], 0, ?_, .nil⟩
  show (w.heap.push (.map #[] 0))[w.heap.size]? = _
  simp

/-- A block is no more. -/
theorem kill_stp {ι : Inj} {h : GH} {w : World} (hr : HR ι h w) {g : Nat} {p : Pl} (hg : g < h.next) (hp : ι g = .live p) (hro : p.ro = false) : Stp h ι w (h.put g none) (upd ι g .dead) w := by
  have hl := Le.kill ι g
  have hne : ∀ x q, upd ι g .dead x = .live q → x ≠ g ∧ ι x = .live q := fun x q hx => by
    have e : x ≠ g := fun e => by subst e; rw [upd_same] at hx; cases hx
    exact ⟨e, by rwa [upd_ne _ _ e] at hx⟩
  refine ⟨Nat.le_refl _, fun x hx => ?_, fun x hx => upd_ne _ _ (by have : h.next ≤ x := hx; omega), ⟨?_, ?_, ?_, ?_⟩, fun x hx hu => ?_, Fr.refl _ _, ?_⟩
  · by_cases e : x = g
    · subst e; exact .inr ⟨⟨p, hp, hro⟩, upd_same _ _ _⟩
    · exact .inl (upd_ne _ _ e)
  · intro x q hx hq
    obtain ⟨e, hq⟩ := hne x q hq
    have he : (h.put g none).get x = h.get x := get_put_ne h _ e
    rw [he]
    exact (hr.obj x q hx hq).mono hl (fun _ _ _ => rfl) (fun _ => ⟨fun hh => hh, fun _ _ _ hh => hh⟩) (fun _ _ _ _ hh => hh)
  · intro x hx hd
    by_cases e : x = g
    · subst e; exact get_put_same h _ _
    · rw [upd_ne _ _ e] at hd
      have he : (h.put g none).get x = h.get x := get_put_ne h _ e
      rw [he]; exact hr.dead x hx hd
  · intro x y q q' hq hq' hn hb
    exact hr.apart x y q q' (hne x q hq).2 (hne y q' hq').2 hn hb
  · intro x q hq
    exact hr.inb x q (hne x q hq).2
  · have e : x ≠ g := fun e => by subst e; rw [hu] at hp; cases hp
    exact get_put_ne h _ e
  · rintro b i hb ⟨x, q, hx, hq, rest⟩
    exact ⟨x, q, hx, (hne x q hq).2, rest⟩

/-- A store. -/
theorem put_stp {ι : Inj} {h : GH} {w : World} (hr : HR ι h w) {g : Nat} {p : Pl} {b : Blk} (hg : g < h.next) (hp : ι g = .live p) (hb : h.get g = some (.row b)) (hro : b.ro = false)
    (o : Nat) (vs rs : List Value) (hle : o + vs.length ≤ b.cells.length) (hv : All2 (VR ι) vs rs) :
    Stp h ι w (h.put g (some (.row { b with cells := nlay b.cells o vs }))) ι (w.setCells p.blk (p.off + o) rs) := by
  have ok := (hr.obj g p hg hp).row hb
  have hlen := hv.length
  have hpro : p.ro = false := ok.ro ▸ hro
  have hsz := ok.size
  have hext := ok.ext
  have hcov : ∀ i, p.off + o ≤ i → i < p.off + o + rs.length → Cov h.next ι p.blk i := fun i h1 h2 => ⟨g, p, hg, hp, hpro, rfl, by omega, by omega⟩
  have fr : Fr (Cov h.next ι) w (w.setCells p.blk (p.off + o) rs) := by
    by_cases hrs : rs = []
    · subst hrs; exact Fr.refl _ _
    · exact Fr.setCells w _ _ rs hcov hrs
  refine ⟨Nat.le_refl _, fun _ _ => .inl rfl, fun _ _ => rfl, ⟨?_, ?_, hr.apart, fun x q hq => by rw [heap_setCells_size]; exact hr.inb x q hq⟩, fun x hx hu => ?_, fr, fun _ _ _ hh => hh⟩
  · intro x q hx hq
    by_cases e : x = g
    · subst e
      rw [hp] at hq; cases hq
      have : (h.put x (some (.row { b with cells := nlay b.cells o vs }))).get x = some (.row { b with cells := nlay b.cells o vs }) := get_put_same h _ _
      rw [this]
      refine ⟨by simp [nlay_length hle, hsz], ok.esz, ok.ro, ok.ext, fun i v hv' => ?_, fun hr' => ⟨fz_setCells _ _ _ _ _ (ok.room hr').1, fun i h1 h2 => isSome_setCells' _ _ _ _ _ ((ok.room hr').2 i h1 h2)⟩⟩
      · simp only [nth_nlay hle] at hv'
        split at hv'
        · rename_i hi
          obtain ⟨r, hr1, hr2⟩ := hv.get hv'
          have hj : i - o < rs.length := by omega
          refine ⟨r, ?_, hr2⟩
          have hin := World.cell?_setCells_in p.blk rs (p.off + o) w (fun j hj => (ok.room hpro).2 _ (by omega) (by omega)) (i - o) hj
          rw [show p.off + o + (i - o) = p.off + i by omega] at hin
          rw [hin, nth_eq] at *
          rw [← hr1]
          exact (List.getElem?_eq_getElem hj).symm
        · rename_i hi
          obtain ⟨r, hr1, hr2⟩ := ok.cell i v hv'
          refine ⟨r, ?_, hr2⟩
          rw [World.cell?_setCells_out p.blk rs (p.off + o) w _ (fun _ _ => ?_)]
          · exact hr1
          · show p.off + i < p.off + o ∨ p.off + o + rs.length ≤ p.off + i
            omega
    · have he : (h.put g (some (.row { b with cells := nlay b.cells o vs }))).get x = h.get x := get_put_ne h _ e
      rw [he]
      refine (hr.obj x q hx hq).mono (Le.refl _) (fun i h1 h2 => World.cell?_setCells_out _ _ _ _ _ (fun e1 _ => ?_)) (fun _ => ⟨fz_setCells _ _ _ _ _, fun i _ _ hh => isSome_setCells' _ _ _ _ _ hh⟩) (fun _ _ ents c hh => heap_setCells_map _ _ _ _ _ _ _ hh)
      simp at e1
      show i < p.off + o ∨ p.off + o + rs.length ≤ i
      rcases hr.apart x g q p hq hp e e1 with ⟨_, h2⟩ | h2 | h2
      · rw [hpro] at h2; cases h2
      · omega
      · omega
  · intro x hx hd
    have e : x ≠ g := fun e => by subst e; rw [hp] at hd; cases hd
    have he : (h.put g (some (.row { b with cells := nlay b.cells o vs }))).get x = h.get x := get_put_ne h _ e
    rw [he]; exact hr.dead x hx hd
  · have e : x ≠ g := fun e => by subst e; rw [hu] at hp; cases hp
    exact get_put_ne h _ e

/-- A block that is taken on where it lies: the elder one is no more, the new one has its place. -/
theorem grow_stp {ι : Inj} {h : GH} {w : World} (gd : Good ι h (h.next + 1) w) {g : Nat} {p : Pl} {b : Blk} (hg : g < h.next) (hp : ι g = .live p) (hb : h.get g = some (.row b)) (hro : b.ro = false)
    (m0 : Nat) (olds vs rs : List Value) (hm0 : m0 ≤ b.cells.length) (holds : olds = b.cells.take m0) (hv : All2 (VR ι) vs rs) (hfit : p.off + m0 + vs.length ≤ p.ext) (hne : vs ≠ []) :
    Stp h ι w ((h.put g none).push (.row ⟨olds ++ vs, b.esz, false⟩)) (upd (upd ι g .dead) h.next (.live ⟨p.blk, p.off, olds.length + vs.length, p.ext, b.esz, false⟩)) (w.setCells p.blk (p.off + m0) rs) := by
  have hr := gd.hr
  have hu : ι h.next = .unborn := gd.free _ (Nat.le_refl _) (Nat.lt_succ_self _)
  have ok := (hr.obj g p hg hp).row hb
  have hlen := hv.length
  have hpro : p.ro = false := ok.ro ▸ hro
  have hsz := ok.size
  have hol : olds.length = m0 := by rw [holds]; simp; omega
  have hcov : ∀ i, p.off + m0 ≤ i → i < p.off + m0 + rs.length → Cov h.next ι p.blk i := fun i h1 h2 => ⟨g, p, hg, hp, hpro, rfl, by omega, by omega⟩
  have hrs : rs ≠ [] := fun e => by subst e; simp at hlen; exact hne hlen
  have fr : Fr (Cov h.next ι) w (w.setCells p.blk (p.off + m0) rs) := Fr.setCells w _ _ rs hcov hrs
  have hnn : h.next ≠ g := by omega
  have hl : Le ι (upd (upd ι g .dead) h.next (.live ⟨p.blk, p.off, olds.length + vs.length, p.ext, b.esz, false⟩)) := (Le.kill ι g).trans (Le.born _ (by rw [upd_ne _ _ hnn]; exact hu))
  have hcase : ∀ x q, upd (upd ι g .dead) h.next (.live ⟨p.blk, p.off, olds.length + vs.length, p.ext, b.esz, false⟩) x = .live q →
      (x = h.next ∧ q = ⟨p.blk, p.off, olds.length + vs.length, p.ext, b.esz, false⟩) ∨ (x ≠ h.next ∧ x ≠ g ∧ ι x = .live q) := fun x q hx => by
    by_cases e : x = h.next
    · subst e; rw [upd_same] at hx; cases hx; exact .inl ⟨rfl, rfl⟩
    · rw [upd_ne _ _ e] at hx
      have e' : x ≠ g := fun e' => by subst e'; rw [upd_same] at hx; cases hx
      rw [upd_ne _ _ e'] at hx
      exact .inr ⟨e, e', hx⟩
  have hget : ∀ x, x ≠ h.next → x ≠ g → ((h.put g none).push (.row ⟨olds ++ vs, b.esz, false⟩)).get x = h.get x := fun x e e' => by
    rw [get_push_ne (h.put g none) _ e, get_put_ne h _ e']
  refine ⟨Nat.le_succ _, fun x hx => ?_, fun x hx => ?_, ⟨?_, ?_, ?_, ?_⟩, fun x hx hu' => ?_, fr, ?_⟩
  · rw [upd_ne _ _ (by omega : x ≠ h.next)]
    by_cases e : x = g
    · subst e; exact .inr ⟨⟨p, hp, hpro⟩, upd_same _ _ _⟩
    · exact .inl (upd_ne _ _ e)
  · have hx' : h.next + 1 ≤ x := hx
    rw [upd_ne _ _ (by omega : x ≠ h.next), upd_ne _ _ (by omega : x ≠ g)]
  · intro x q hx hq
    rcases hcase x q hq with ⟨rfl, rfl⟩ | ⟨e, e', hq⟩
    · have : ((h.put g none).push (.row ⟨olds ++ vs, b.esz, false⟩)).get h.next = some (.row ⟨olds ++ vs, b.esz, false⟩) := by
        exact get_push_new (h.put g none) _
      rw [this]
      refine ⟨by simp, rfl, rfl, by show p.off + (olds.length + vs.length) ≤ p.ext; omega, fun i v hv' => ?_, fun _ => ⟨fz_setCells _ _ _ _ _ (ok.room hpro).1, fun i h1 h2 => isSome_setCells' _ _ _ _ _ ((ok.room hpro).2 i h1 h2)⟩⟩
      · show ∃ r, (w.setCells p.blk (p.off + m0) rs).cell? ⟨p.blk, p.off + i, none⟩ = some r ∧ _
        simp only [nth_eq] at hv'
        by_cases hi : i < olds.length
        · rw [List.getElem?_append_left hi, holds, List.getElem?_take, if_pos (by omega), ← nth_eq] at hv'
          obtain ⟨r, hr1, hr2⟩ := ok.cell _ v hv'
          refine ⟨r, ?_, hr2.mono hl⟩
          rw [World.cell?_setCells_out _ _ _ _ _ (fun _ _ => .inl (by show p.off + i < p.off + m0; omega))]
          exact hr1
        · rw [List.getElem?_append_right (by omega), ← nth_eq] at hv'
          obtain ⟨r, hr1, hr2⟩ := hv.get hv'
          have hj : i - olds.length < rs.length := by rw [nth_eq] at hr1; exact (List.getElem?_eq_some_iff.1 hr1).1
          have hin := World.cell?_setCells_in p.blk rs (p.off + m0) w (fun j hj => (ok.room hpro).2 _ (by omega) (by omega)) (i - olds.length) hj
          rw [show p.off + m0 + (i - olds.length) = p.off + i by omega] at hin
          refine ⟨r, ?_, hr2.mono hl⟩
          rw [hin, ← hr1, nth_eq]
          exact (List.getElem?_eq_getElem hj).symm
    · rw [hget x e e']
      have hx' : x < h.next + 1 := hx
      refine (hr.obj x q (by omega) hq).mono hl (fun i h1 h2 => World.cell?_setCells_out _ _ _ _ _ (fun e1 _ => ?_)) (fun _ => ⟨fz_setCells _ _ _ _ _, fun i _ _ hh => isSome_setCells' _ _ _ _ _ hh⟩) (fun _ _ ents c hh => heap_setCells_map _ _ _ _ _ _ _ hh)
      simp at e1
      show i < p.off + m0 ∨ p.off + m0 + rs.length ≤ i
      rcases hr.apart x g q p hq hp e' e1 with ⟨_, h2⟩ | h2 | h2
      · rw [hpro] at h2; cases h2
      · omega
      · omega
  · intro x hx hd
    have hx' : x < h.next + 1 := hx
    have e : x ≠ h.next := fun e => by subst e; rw [upd_same] at hd; cases hd
    rw [upd_ne _ _ e] at hd
    by_cases e' : x = g
    · subst e'
      rw [get_push_ne (h.put x none) _ e, get_put_same]
    · rw [upd_ne _ _ e'] at hd
      rw [hget x e e']; exact hr.dead x (by omega) hd
  · intro x y q q' hq hq' hn hbk
    rcases hcase x q hq with ⟨rfl, rfl⟩ | ⟨e, e', hq⟩
    · rcases hcase y q' hq' with ⟨rfl, rfl⟩ | ⟨e2, e2', hq'⟩
      · exact (hn rfl).elim
      · rcases hr.apart g y p q' hp hq' (Ne.symm e2') hbk with ⟨h1, _⟩ | h2 | h2
        · rw [hpro] at h1; cases h1
        · exact .inr (.inl h2)
        · exact .inr (.inr (by show q'.ext ≤ p.off; omega))
    · rcases hcase y q' hq' with ⟨rfl, rfl⟩ | ⟨e2, e2', hq'⟩
      · rcases hr.apart x g q p hq hp e' hbk with ⟨_, h1⟩ | h2 | h2
        · rw [hpro] at h1; cases h1
        · exact .inr (.inl (by show q.ext ≤ p.off; omega))
        · exact .inr (.inr h2)
      · exact hr.apart x y q q' hq hq' hn hbk
  · intro x q hq
    rw [heap_setCells_size]
    rcases hcase x q hq with ⟨rfl, rfl⟩ | ⟨_, _, hq⟩
    · exact hr.inb g p hp
    · exact hr.inb x q hq
  · have e' : x ≠ g := fun e => by subst e; rw [hu'] at hp; cases hp
    exact hget x (by omega) e'
  · rintro bb i hbb ⟨x, q, hx, hq, hqro, hqb, h1, h2⟩
    rcases hcase x q hq with ⟨rfl, rfl⟩ | ⟨e, e', hq⟩
    · exact ⟨g, p, hg, hp, hpro, hqb, h1, h2⟩
    · exact ⟨x, q, by have : x < h.next + 1 := hx; omega, hq, hqro, hqb, h1, h2⟩

/-- A map's entries put anew. -/
theorem putmap_stp {ι : Inj} {h : GH} {w : World} (hr : HR ι h w) {g : Nat} {p : Pl} {es es' : List (Value × Value)} (hg : g < h.next) (hp : ι g = .live p) (hb : h.get g = some (.map es))
    (ents' : Array MapEntry) (c' : Nat) (hv : All2 (MR ι) es' ents'.toList) :
    Stp h ι w (h.put g (some (.map es'))) ι { w with heap := w.heap.setIfInBounds p.blk (.map ents' c') } := by
  have ok : MapOk ι p es w := by have := hr.obj g p hg hp; rw [hb] at this; exact this
  obtain ⟨k1, k2, k3, ents, c, k4, k5⟩ := ok
  have hin := hr.inb g p hp
  have hset : (w.heap.setIfInBounds p.blk (.map ents' c'))[p.blk]? = some (.map ents' c') := by simp [hin]
  have hsame : ∀ b, b ≠ p.blk → (w.heap.setIfInBounds p.blk (.map ents' c'))[b]? = w.heap[b]? := fun b hb => by simp [Ne.symm hb]
  have hcell : ∀ b i, ({ w with heap := w.heap.setIfInBounds p.blk (.map ents' c') } : World).cell? ⟨b, i, none⟩ = w.cell? ⟨b, i, none⟩ ∧ ({ w with heap := w.heap.setIfInBounds p.blk (.map ents' c') } : World).frozen? ⟨b, i, none⟩ = w.frozen? ⟨b, i, none⟩ := fun b i => by
    by_cases e : b = p.blk
    · subst e
      have q1 := cell_of_map k4 i
      have q2 := cell_of_map (w := { w with heap := w.heap.setIfInBounds p.blk (.map ents' c') }) hset i
      exact ⟨q2.1.trans q1.1.symm, q2.2.trans q1.2.symm⟩
    · exact ⟨cell_of_heap (hsame b e) i, frozen_of_heap (hsame b e) i⟩
  have hfz : ∀ b, FzOk w b → FzOk { w with heap := w.heap.setIfInBounds p.blk (.map ents' c') } b := fun b hf => by
    by_cases e : b = p.blk
    · subst e
      obtain ⟨_, _, _, _, h1, _⟩ := hf
      rw [k4] at h1; cases h1
    · exact fz_of_heap (w := w) (w' := { w with heap := w.heap.setIfInBounds p.blk (.map ents' c') }) (hsame b e) hf
  refine ⟨Nat.le_refl _, fun _ _ => .inl rfl, fun _ _ => rfl, ⟨?_, ?_, hr.apart, fun x q hq => by simpa using hr.inb x q hq⟩, fun x hx hu => ?_, ⟨rfl, rfl, rfl, by simp, fun b i _ _ => (hcell b i).1, fun b i _ hh => by rw [(hcell b i).1]; exact hh, fun b _ => hfz b, fun b hbl hn => ?_⟩, fun _ _ _ hh => hh⟩
  · intro x q hx hq
    by_cases e : x = g
    · subst e
      rw [hp] at hq; cases hq
      have : (h.put x (some (.map es'))).get x = some (.map es') := get_put_same h _ _
      rw [this]
      exact ⟨k1, k2, k3, ents', c', hset, hv⟩
    · have he : (h.put g (some (.map es'))).get x = h.get x := get_put_ne h _ e
      rw [he]
      refine (hr.obj x q hx hq).mono (Le.refl _) (fun i _ _ => (hcell _ i).1) (fun _ => ⟨hfz _, fun i _ _ hh => by rw [(hcell _ i).1]; exact hh⟩) (fun es2 he2 ents2 c2 hh => ?_)
      by_cases e2 : q.blk = p.blk
      · exfalso
        have okx := hr.obj x q hx hq
        rw [he2] at okx
        rcases hr.apart x g q p hq hp e e2 with ⟨_, h2⟩ | h2 | h2
        · rw [k1] at h2; cases h2
        · have := okx.ext; omega
        · have := okx.off; omega
      · exact (hsame _ e2).trans hh
  · intro x hx hd
    have e : x ≠ g := fun e => by subst e; rw [hp] at hd; cases hd
    have he : (h.put g (some (.map es'))).get x = h.get x := get_put_ne h _ e
    rw [he]; exact hr.dead x hx hd
  · have e : x ≠ g := fun e => by subst e; rw [hu] at hp; cases hp
    exact get_put_ne h _ e
  · refine hsame b fun e => ?_
    subst e
    exact hn 0 ⟨g, p, hg, hp, k1, rfl, by omega, by omega⟩
end Go.Proofs.Ytibngikhlgmhaaa.Gx
/- The plain machine and the model: the operations that look at no memory. No condition. -/
namespace Go.Proofs.Ytibngikhlgmhaaa.Gx
open Go Go.RowKit
set_option linter.unusedVariables false
set_option linter.unusedSimpArgs false
variable {P : Program} {β : Type} {r : β}

theorem cond_none {b : Bool} {x : Option β} (h : (bif b then x else none) = some r) : b = true ∧ x = some r := by cases b; cases h; exact ⟨rfl, h⟩
theorem cond_none' {b : Bool} {x : Option β} (h : (bif b then none else x) = some r) : b = false ∧ x = some r := by cases b; exact ⟨rfl, h⟩; cases h

theorem gbin_sim {op : BinOp} {x y : Value} {K : Value → Option β} (h : gbin op x y K = some r) (t : TypeId) (hok : eqOk P op t x = true) :
    ∃ v, K v = some r ∧ ∀ ι rx ry, VR ι x rx → VR ι y ry → ∃ rv, VR ι v rv ∧ ∀ ox oy w, (do eqGuard op t ox oy rx ry; binOp op t rx ry : Sem Value).run P w = .ok rv w := by
  unfold gbin at h
  split at h
  · rename_i k a k' b
    cases op
    all_goals simp only [] at h
    case shl =>
      obtain ⟨hb, h⟩ := cond_none' h
      have hb' : ¬ b < 0 := by simpa using hb
      exact ⟨_, h, fun ι rx ry hx hy => ⟨_, .same _ rfl, fun ox oy w => by rw [hx.int, hy.int]; simp [eqGuard_at_int, binOp_shl, Op.shift, shlI, if_neg hb']⟩⟩
    case shr =>
      obtain ⟨hb, h⟩ := cond_none' h
      have hb' : ¬ b < 0 := by simpa using hb
      exact ⟨_, h, fun ι rx ry hx hy => ⟨_, .same _ rfl, fun ox oy w => by rw [hx.int, hy.int]; simp [eqGuard_at_int, binOp_shr, Op.shift, shrI, if_neg hb']⟩⟩
    all_goals
      have h2 := cond_none h
      clear h
      have hk' : k = k' := by simpa using h2.1
      subst hk'
      have h := h2.2
      clear h2
    case quo =>
      obtain ⟨hb, h⟩ := cond_none' h
      have hb' : ¬ b = 0 := by simpa using hb
      exact ⟨_, h, fun ι rx ry hx hy => ⟨_, .same _ rfl, fun ox oy w => by rw [hx.int, hy.int]; simp [eqGuard_at_int, binOp_quo, Op.intDiv, hb']⟩⟩
    case rem =>
      obtain ⟨hb, h⟩ := cond_none' h
      have hb' : ¬ b = 0 := by simpa using hb
      exact ⟨_, h, fun ι rx ry hx hy => ⟨_, .same _ rfl, fun ox oy w => by rw [hx.int, hy.int]; simp [eqGuard_at_int, binOp_rem, Op.intDiv, hb']⟩⟩
    all_goals
      refine ⟨_, h, fun ι rx ry hx hy => ⟨_, .same _ rfl, fun ox oy w => ?_⟩⟩
      rw [hx.int, hy.int]
      simp only [eqGuard_at_int, binOp_add, binOp_sub, binOp_mul, binOp_and, binOp_or, binOp_xor, binOp_andNot, binOp_eql, binOp_neq, binOp_lss, binOp_leq, binOp_gtr, binOp_geq, bne]
      rfl
  · rename_i a b
    cases op <;> simp only [] at h <;> try cases h
    all_goals
      have hu : P.underlying t = some .bool := by
        unfold eqOk at hok; simp only [] at hok; split at hok <;> simp_all
      refine ⟨_, h, fun ι rx ry hx hy => ⟨_, .same _ rfl, fun ox oy w => ?_⟩⟩
      rw [hx.bool, hy.bool]
      simp [eqGuard_at_bool, binOp, run_equal_bool _ t _ _ hu]
  · rename_i a
    cases op <;> simp only [] at h <;> try cases h
    all_goals
      have hu : P.underlying t = some (.pointer (P.pointee t)) := by
        unfold eqOk at hok; simp only [] at hok; split at hok <;> simp_all [Program.pointee]
      refine ⟨_, h, fun ι rx ry hx hy => ?_⟩
      obtain ⟨q, hq, hn⟩ := hx.pointer
      refine ⟨_, .same _ rfl, fun ox oy w => ?_⟩
      rw [hq, hy.nilP]
      simp [eqGuard_at_pointer, binOp, run_equal_pointer_nil w t _ hu, hn]
  · rename_i a n c n' c'
    cases op <;> simp only [] at h <;> try cases h
    all_goals
      obtain ⟨e, hu⟩ : ∃ e, P.underlying t = some (.slice e) := by
        unfold eqOk at hok; simp only [] at hok; split at hok <;> simp_all
      refine ⟨_, h, fun ι rx ry hx hy => ?_⟩
      obtain ⟨q, cc, hq, hn⟩ := hx.slice
      refine ⟨_, .same _ rfl, fun ox oy w => ?_⟩
      rw [hq, hy.nilS]
      have he : ∀ d, (Op.equalIn (d + 1) t (.slice q n cc) (.slice none n' c')).run P w = .ok q.isNone w := fun d => by cases q <;> simp [Op.equalIn, run_underlying hu]
      have he' : (Op.equal t (.slice q n cc) (.slice none n' c')).run P w = .ok q.isNone w := he 9999
      simp [eqGuard_at_slice, binOp, he', hn]
  · cases h
theorem gun_sim {op : UnOp} {x : Value} {K : Value → Option β} (h : gun op x K = some r) :
    ∃ v, K v = some r ∧ ∀ ι rx, VR ι x rx → ∃ rv, VR ι v rv ∧ ∀ w, (Op.unary op rx).run P w = .ok rv w := by
  unfold gun at h
  split at h
  · exact ⟨_, h, fun ι rx hx => ⟨_, .same _ rfl, fun w => by rw [hx.int]; rfl⟩⟩
  · exact ⟨_, h, fun ι rx hx => ⟨_, .same _ rfl, fun w => by rw [hx.int]; rfl⟩⟩
  · exact ⟨_, h, fun ι rx hx => ⟨_, .same _ rfl, fun w => by rw [hx.bool]; rfl⟩⟩
  · cases h
theorem gconv_sim {s d : TypeId} {x : Value} {K : Value → Option β} (h : gconv P s d x K = some r) :
    ∃ v, K v = some r ∧ ∀ ι rx, VR ι x rx → ∃ rv, VR ι v rv ∧ ∀ w, (convert s d rx).run P w = .ok rv w := by
  unfold gconv at h
  split at h
  · rename_i k k' n hd
    split at h
    · rename_i u hs
      exact ⟨_, h, fun ι rx hx => ⟨_, .same _ rfl, fun w => by rw [hx.int]; simp [convert, run_underlying hs, run_underlying hd, Conv.intToInt]⟩⟩
    · cases h
  · rename_i sx hd
    split at h
    · rename_i hs
      exact ⟨_, h, fun ι rx hx => ⟨_, .same _ rfl, fun w => by rw [hx.str]; simp [convert, run_underlying hs, run_underlying hd]⟩⟩
    · cases h
  · cases h
theorem sizeOf_run {t : TypeId} {n : Nat} (h : sizeT P t = some n) (w : World) : (sizeOf t).run P w = .ok n w := by
  unfold sizeT at h
  cases hi : P.info? t with
  | none => simp [hi] at h
  | some i => simp [hi] at h; simp [sizeOf, typeInfo, hi, h]
theorem exA_some {p : Option Addr} {K : Nat → Nat → Option β} (h : exA p K = some r) : ∃ g o, p = some ⟨g, o, none⟩ ∧ K g o = some r := by
  unfold exA at h
  split at h
  · exact ⟨_, _, rfl, h⟩
  · cases h
theorem add_none (b o n : Nat) : (⟨b, o, none⟩ : Addr).add n = ⟨b, o + n, none⟩ := Addr.add_mid b o n
theorem gfieldAddr_sim {s : TypeId} {x : Value} {i : Nat} {K : Value → Option β} (h : gfieldAddr P s x i K = some r) :
    ∃ v, K v = some r ∧ ∀ ι rx, VR ι x rx → ∃ rv, VR ι v rv ∧ ∀ w, (Instr.fieldAt s rx i).run P w = .ok rv w := by
  unfold gfieldAddr at h
  split at h
  · rename_i fs p hs
    split at h
    · rename_i f hf
      split at h
      · rename_i n hn
        obtain ⟨hz, h⟩ := cond_none' h
        obtain ⟨g, o, rfl, h⟩ := exA_some h
        have hz' : ¬ n = 0 := fun e => by subst e; simp at hz
        have hf' : fs[i]? = some f := by rw [nth_eq] at hf; simpa using hf
        refine ⟨_, h, fun ι rx hx => ?_⟩
        rcases hx.someP with ⟨p, hp, rfl⟩ | ⟨hd, q, rfl⟩
        · refine ⟨_, .ptr g (o + f.offset) p hp, fun w => ?_⟩
          simp [Instr.fieldAt, run_underlying hs, hf', Instr.sureAddr, fieldPlace, sizeOf_run hn, hz', add_none, Nat.add_assoc]
        · refine ⟨_, .ptrD ⟨g, o + f.offset, none⟩ (q.add f.offset) hd, fun w => ?_⟩
          simp [Instr.fieldAt, run_underlying hs, hf', Instr.sureAddr, fieldPlace, sizeOf_run hn, hz']
      · cases h
    · cases h
  · cases h
theorem within_some {i : Int} {n : Nat} {K : Option β} (h : within i n K = some r) : 0 ≤ i ∧ i < n ∧ K = some r := by
  unfold within at h
  obtain ⟨h1, h⟩ := cond_none h
  obtain ⟨h2, h⟩ := cond_none h
  exact ⟨by simpa using h1, by simpa using h2, h⟩
theorem gindexAddr_sim {t : TypeId} {x i : Value} {K : Value → Option β} (h : gindexAddr P t x i K = some r) :
    ∃ v, K v = some r ∧ ∀ ι rx ri, VR ι x rx → VR ι i ri → ∃ rv, VR ι v rv ∧ ∀ w, (Instr.indexAt t rx ri).run P w = .ok rv w := by
  unfold gindexAddr at h
  split at h
  · rename_i e a n c k j ht
    split at h
    · rename_i z hz
      obtain ⟨g, o, rfl, h⟩ := exA_some h
      obtain ⟨h0, h1, h⟩ := within_some h
      refine ⟨_, h, fun ι rx ri hx hi => ?_⟩
      rw [hi.int]
      rcases hx.someS with ⟨p, c', hp, rfl, _⟩ | ⟨hd, q, c', rfl, _⟩ | ⟨hn, _⟩
      · refine ⟨_, .ptr g (o + j.toNat * z) p hp, fun w => ?_⟩
        simp [Instr.indexAt, run_underlying ht, asIntOf, h0, h1, sizeOf_run hz, add_none, Nat.add_assoc]
      · refine ⟨_, .ptrD ⟨g, o + j.toNat * z, none⟩ (q.add (j.toNat * z)) hd, fun w => ?_⟩
        simp [Instr.indexAt, run_underlying ht, asIntOf, h0, h1, sizeOf_run hz]
      · omega
    · cases h
  · rename_i n e a k j ht
    split at h
    · rename_i z hz
      obtain ⟨g, o, rfl, h⟩ := exA_some h
      obtain ⟨h0, h1, h⟩ := within_some h
      refine ⟨_, h, fun ι rx ri hx hi => ?_⟩
      rw [hi.int]
      rcases hx.someP with ⟨p, hp, rfl⟩ | ⟨hd, q, rfl⟩
      · refine ⟨_, .ptr g (o + j.toNat * z) p hp, fun w => ?_⟩
        simp [Instr.indexAt, run_underlying ht, asIntOf, h0, h1, sizeOf_run hz, add_none, Nat.add_assoc, Instr.sureAddr]
      · refine ⟨_, .ptrD ⟨g, o + j.toNat * z, none⟩ (q.add (j.toNat * z)) hd, fun w => ?_⟩
        simp [Instr.indexAt, run_underlying ht, asIntOf, h0, h1, sizeOf_run hz, Instr.sureAddr]
    · cases h
  · cases h
theorem gnilCheck_sim {x : Value} {K : Value → Option β} (h : gnilCheck x K = some r) :
    ∃ v, K v = some r ∧ ∀ ι rx, VR ι x rx → VR ι v rx ∧ ∃ q, rx = .pointer (some q) := by
  unfold gnilCheck at h
  split at h
  · obtain ⟨g, o, rfl, h⟩ := exA_some h
    refine ⟨_, h, fun ι rx hx => ?_⟩
    refine ⟨hx, ?_⟩
    rcases hx.someP with ⟨p, hp, rfl⟩ | ⟨hd, q, rfl⟩ <;> exact ⟨_, rfl⟩
  · cases h
theorem gpick_sim {c a b : Value} {K : Value → Option β} (h : gpick c a b K = some r) :
    ∃ v, K v = some r ∧ ∀ ι rc ra rb, VR ι c rc → VR ι a ra → VR ι b rb → ∃ rv, VR ι v rv ∧ ∀ w, (do pure (if ← asBool rc then ra else rb) : Sem Value).run P w = .ok rv w := by
  unfold gpick at h
  split at h
  · rename_i t
    cases t
    · exact ⟨_, h, fun ι rc ra rb hc ha hb => ⟨rb, hb, fun w => by rw [hc.bool]; simp [asBool]⟩⟩
    · exact ⟨_, h, fun ι rc ra rb hc ha hb => ⟨ra, ha, fun w => by rw [hc.bool]; simp [asBool]⟩⟩
  · cases h
theorem glen_sim {t ty : TypeId} {x : Value} {K : Value → Option β} (h : glen P t x K = some r) :
    ∃ v, K v = some r ∧ ∀ ι rx, VR ι x rx → ∃ rv, VR ι v rv ∧ ∀ w, (Builtin.len_ #[t] ty #[rx]).run P w = .ok rv w := by
  unfold glen at h
  split at h
  · rename_i s ht
    exact ⟨_, h, fun ι rx hx => ⟨_, .same _ rfl, fun w => by rw [hx.str]; simp [Builtin.len_, run_underlying ht, goInt]⟩⟩
  · rename_i e a n c ht
    refine ⟨_, h, fun ι rx hx => ?_⟩
    obtain ⟨q, c', rfl, _⟩ := hx.slice
    exact ⟨_, .same _ rfl, fun w => by simp [Builtin.len_, run_underlying ht, goInt]⟩
  · rename_i n e ht
    exact ⟨_, h, fun ι rx hx => ⟨_, .same _ rfl, fun w => by simp [Builtin.len_, run_underlying ht, goInt]⟩⟩
  · cases h
theorem gmx_sim {m : Bool} {x y : Value} {K : Value → Option β} (h : gmx m x y K = some r) :
    ∃ v, K v = some r ∧ ∀ ι rx ry, VR ι x rx → VR ι y ry → ∃ rv, VR ι v rv ∧ ∀ w, (if m then Builtin.max2 rx ry else Builtin.min2 rx ry).run P w = .ok rv w := by
  unfold gmx at h
  split at h
  · obtain ⟨hk, h⟩ := cond_none h
    refine ⟨_, h, fun ι rx ry hx hy => ⟨_, .same _ rfl, fun w => ?_⟩⟩
    rw [hx.int, hy.int]
    cases m <;> simp [Builtin.max2, Builtin.min2]
  · cases h
theorem gmxs_sim {m : Bool} {ys : List Value} : ∀ {x : Value} {K : Value → Option β}, gmxs m ys x K = some r →
    ∃ v, K v = some r ∧ ∀ ι rx rys, VR ι x rx → All2 (VR ι) ys rys → ∃ rv, VR ι v rv ∧ ∀ w, (rys.foldlM (if m then Builtin.max2 else Builtin.min2) rx).run P w = .ok rv w := by
  induction ys with
  | nil => exact fun h => ⟨_, h, fun ι rx rys hx hy => by cases hy; exact ⟨rx, hx, fun w => rfl⟩⟩
  | cons y ys ih =>
    intro x K h
    obtain ⟨v, h, hv⟩ := gmx_sim (P := P) h
    obtain ⟨u, h, hu⟩ := ih h
    refine ⟨u, h, fun ι rx rys hx hy => ?_⟩
    cases hy with
    | cons hy1 hys =>
      obtain ⟨rv, h1, h2⟩ := hv ι _ _ hx hy1
      obtain ⟨ru, h3, h4⟩ := hu ι _ _ h1 hys
      refine ⟨ru, h3, fun w => ?_⟩
      simp only [List.foldlM_cons, Sem.run_bind]
      have := h2 w
      cases m <;> simp_all
end Go.Proofs.Ytibngikhlgmhaaa.Gx
/- The plain machine and the model: parts of values, slices of slices, values that are built. No condition. -/
namespace Go.Proofs.Ytibngikhlgmhaaa.Gx
open Go Go.RowKit
set_option linter.unusedVariables false
set_option linter.unusedSimpArgs false
variable {P : Program} {β : Type} {r : β}

theorem exK_some {k : CK} {o : Option Value} {K : Value → Option β} (h : exK k o K = some r) : ∃ v, o = some v ∧ K v = some r := by
  cases k <;> simp only [exK, exI, exB, exT, exP, exS, exV] at h
  case int k =>
    split at h
    · obtain ⟨hk, h⟩ := cond_none h
      have := of_decide_eq_true hk
      subst this
      exact ⟨_, rfl, h⟩
    · cases h
  all_goals
    split at h
    · exact ⟨_, rfl, h⟩
    · cases h
theorem exN_some {ks : List CK} {f : Nat → Option Value} : ∀ {o : Nat} {K : List Value → Option β}, exN ks f o K = some r → ∃ vs : List Value, vs.length = ks.length ∧ (∀ i, i < vs.length → f (o + i) = nth vs i) ∧ K vs = some r := by
  induction ks with
  | nil => exact fun h => ⟨[], rfl, fun i hi => by simp at hi, h⟩
  | cons k ks ih =>
    intro o K h
    obtain ⟨v, hv, h⟩ := exK_some h
    obtain ⟨vs, hl, hf, h⟩ := ih h
    refine ⟨v :: vs, by simp [hl], fun i hi => ?_, h⟩
    cases i with
    | zero => exact hv
    | succ i => have := hf i (by simpa using hi); rw [show o + (i + 1) = o + 1 + i by omega]; exact this
theorem isAgg_run {t : TypeId} {d : TypeDesc} (h : P.underlying t = some d) (w : World) : (isAgg t).run P w = .ok (aggD d) w := by
  unfold isAgg
  rw [Sem.run_bind, run_underlying h w]
  cases d <;> rfl
theorem eq_of_nth {l vs : List Value} {o n : Nat} (hn : vs.length = n) (hf : ∀ i, i < vs.length → nth l (o + i) = nth vs i) : vs = (l.drop o).take n ∧ o + n ≤ l.length ∨ n = 0 ∧ vs = [] := by
  by_cases h0 : n = 0
  · subst h0; exact .inr ⟨rfl, List.length_eq_zero_iff.1 hn⟩
  · refine .inl ⟨?_, ?_⟩
    · apply List.ext_getElem?
      intro i
      rw [List.getElem?_take, List.getElem?_drop]
      by_cases hi : i < n
      · rw [if_pos hi]; have := hf i (by omega); simp only [nth_eq] at this; exact this.symm
      · rw [if_neg hi]; exact List.getElem?_eq_none (by omega)
    · have := hf (n - 1) (by omega)
      simp only [nth_eq] at this
      have h1 : vs[n - 1]? = some vs[n - 1] := List.getElem?_eq_getElem (by omega)
      rw [h1] at this
      have := (List.getElem?_eq_some_iff.1 this).1
      omega
/-- what a part of a list of cells is, as the model takes it -/
theorem exCells_sim {t : TypeId} {cs : List Value} {o : Nat} {K : Value → Option β} (h : exCells P t cs o K = some r) :
    ∃ v, K v = some r ∧ ∀ ι (rs : Array Value), All2 (VR ι) cs rs.toList → ∃ rv, VR ι v rv ∧ ∀ w, (part t rs o).run P w = .ok rv w := by
  unfold exCells at h
  split at h
  · cases h
  · rename_i d hd
    cases ha : aggD d with
    | true =>
      rw [ha] at h
      simp only [cond_true] at h
      split at h
      · rename_i n hn
        have key : ∃ vs : List Value, K (.agg vs.toArray) = some r ∧ (vs = (cs.drop o).take n) := by
          cases hb : (Nat.ble n small && Nat.beq (flat P 4 t).length n) with
          | true =>
            rw [hb] at h
            simp only [cond_true] at h
            obtain ⟨vs, hl, hf, h⟩ := exN_some h
            simp at hb
            have hl' : vs.length = n := by rw [hl]; exact hb.2
            rcases eq_of_nth hl' hf with ⟨e, _⟩ | ⟨e, e'⟩
            · exact ⟨vs, h, e⟩
            · subst e; exact ⟨vs, h, by simp [e']⟩
          | false =>
            rw [hb] at h
            simp only [cond_false] at h
            unfold exL at h
            split at h
            · rename_i vs hv
              exact ⟨vs, h, (nsub_some hv).2⟩
            · cases h
        obtain ⟨vs, h, e⟩ := key
        refine ⟨_, h, fun ι rs hrs => ?_⟩
        refine ⟨.agg (rs.extract o (o + n)), .mkAgg ?_, fun w => ?_⟩
        · rw [e]
          simp only [Array.toList_extract, List.extract_eq_take_drop, show o + n - o = n by omega]
          exact (hrs.drop o).take n
        · simp [part, isAgg_run hd, ha, sizeOf_run hn]
      · cases h
    | false =>
      rw [ha] at h
      simp only [cond_false] at h
      obtain ⟨v, hv, h⟩ := exK_some h
      refine ⟨v, h, fun ι rs hrs => ?_⟩
      obtain ⟨rv, h1, h2⟩ := hrs.get hv
      refine ⟨rv, h2, fun w => ?_⟩
      have : rs[o]? = some rv := by rw [nth_eq] at h1; simpa using h1
      simp [part, isAgg_run hd, ha, this]
theorem gfield_sim {s : TypeId} {x : Value} {i : Nat} {K : Value → Option β} (h : gfield P s x i K = some r) :
    ∃ v, K v = some r ∧ ∀ ι rx, VR ι x rx → ∃ rv, VR ι v rv ∧ ∀ w, (Instr.field s rx i).run P w = .ok rv w := by
  unfold gfield at h
  split at h
  · rename_i fs cs hs
    split at h
    · rename_i f hf
      have hf' : fs[i]? = some f := by rw [nth_eq] at hf; simpa using hf
      obtain ⟨v, h, hv⟩ := exCells_sim h
      refine ⟨v, h, fun ι rx hx => ?_⟩
      obtain ⟨rs, rfl, ha⟩ := hx.aggL
      obtain ⟨rv, h1, h2⟩ := hv ι rs ha
      exact ⟨rv, h1, fun w => by simp [Instr.field, run_underlying hs, hf', asAgg, h2]⟩
    · cases h
  · cases h
theorem gindex_sim {t : TypeId} {x i : Value} {K : Value → Option β} (h : gindex P t x i K = some r) :
    ∃ v, K v = some r ∧ ∀ ι rx ri, VR ι x rx → VR ι i ri → ∃ rv, VR ι v rv ∧ ∀ w, (Instr.index t rx ri).run P w = .ok rv w := by
  unfold gindex at h
  split at h
  · rename_i n e cs k j ht
    split at h
    · rename_i z hz
      obtain ⟨h0, h1, h⟩ := within_some h
      obtain ⟨v, h, hv⟩ := exCells_sim h
      refine ⟨v, h, fun ι rx ri hx hi => ?_⟩
      obtain ⟨rs, rfl, ha⟩ := hx.aggL
      obtain ⟨rv, h2, h3⟩ := hv ι rs ha
      exact ⟨rv, h2, fun w => by rw [hi.int]; simp [Instr.index, run_underlying ht, asIntOf, h0, h1, sizeOf_run hz, h3]⟩
    · cases h
  · rename_i s k j ht
    unfold byteAt at h
    split at h
    · rename_i b hb
      refine ⟨_, h, fun ι rx ri hx hi => ⟨_, .same _ rfl, fun w => ?_⟩⟩
      rw [hx.str, hi.int]
      simp only [Instr.index, Sem.run_bind, asIntOf, Sem.run_pure, Result.andThen_ok, run_underlying ht, hb]
    · cases h
  · cases h
theorem gextract_sim {x : Value} {i : Nat} {K : Value → Option β} (h : gextract x i K = some r) :
    ∃ v, K v = some r ∧ ∀ ι rx, VR ι x rx → ∃ rv, VR ι v rv ∧ ∀ w, (Instr.extract rx i).run P w = .ok rv w := by
  unfold gextract at h
  split at h
  · rename_i vs
    have h2 := Nat.le_of_ble_eq_true (cond_none h).1
    replace h := (cond_none h).2
    split at h
    · rename_i v hv
      refine ⟨v, h, fun ι rx hx => ?_⟩
      rcases hx.tupL with (rfl | rfl) | ⟨rs, rfl, ha⟩
      · simp [nth] at hv
      · simp at h2
      · obtain ⟨c, hc, h'⟩ := ha.get hv
        refine ⟨c, h', fun w => ?_⟩
        have : rs[i]? = some c := by rw [nth_eq] at hc; simpa using hc
        simp [Instr.extract, this]
    · cases h
  · cases h
end Go.Proofs.Ytibngikhlgmhaaa.Gx
/- The plain machine and the model: '==' of values that are made of parts; strings. No condition. -/
namespace Go.Proofs.Ytibngikhlgmhaaa.Gx
open Go Go.RowKit
set_option linter.unusedVariables false
set_option linter.unusedSimpArgs false
variable {P : Program} {β : Type} {r : β}
theorem info_underlying {t : TypeId} {n : Nat} (h : sizeT P t = some n) : ∃ i, P.info? t = some i ∧ P.cellsOf t = n := by
  unfold sizeT at h
  cases hi : P.info? t with
  | none => simp [hi] at h
  | some i => simp [hi] at h; exact ⟨i, rfl, by simp [Program.cellsOf, hi, h]⟩
def EqS (P : Program) (D : Nat) (t : TypeId) (x y : Value) (b : Bool) : Prop := ∀ ι rx ry, VR ι x rx → VR ι y ry → ∀ w, (Op.equalIn D t rx ry).run P w = .ok b w
theorem geqFs_sim {E : TypeId → Value → Value → (Bool → Option β) → Option β} {d : Nat} (hE : ∀ t x y K, E t x y K = some r → ∃ b, K b = some r ∧ ∀ D, EqS P (D + d) t x y b) {xs ys : List Value} : ∀ (fs : List Field) {K : Bool → Option β}, geqFs P E xs ys fs K = some r →
    ∃ b, K b = some r ∧ ∀ D ι (rx ry : Array Value), All2 (VR ι) xs rx.toList → All2 (VR ι) ys ry.toList → ∀ w, (Op.eqFields (D + d) rx ry fs).run P w = .ok b w
  | [], K, h => ⟨true, h, fun D ι rx ry _ _ w => by simp [Op.eqFields]⟩
  | f :: fs, K, h => by
    unfold geqFs at h
    obtain ⟨hn, h⟩ := cond_none' h
    obtain ⟨a, h, ha⟩ := exCells_sim h
    obtain ⟨b, h, hb⟩ := exCells_sim h
    obtain ⟨p, h, hp⟩ := hE _ _ _ _ h
    obtain ⟨q, h, hq⟩ := geqFs_sim hE fs h
    refine ⟨_, h, fun D ι rx ry hx hy w => ?_⟩
    obtain ⟨ra, va, pa⟩ := ha ι rx hx
    obtain ⟨rb, vb, pb⟩ := hb ι ry hy
    have hn' : f.name ≠ "_" := by simpa using hn
    simp only [Op.eqFields, hn', ne_eq, not_false_eq_true, if_true, Sem.run_bind, pa w, pb w, hp D ι _ _ va vb w, Result.andThen_ok]
    cases p
    · simp
    · simpa using hq D ι rx ry hx hy w
theorem geqIs_sim {E : Value → Value → (Bool → Option β) → Option β} {d : Nat} {e : TypeId} (hE : ∀ x y K, E x y K = some r → ∃ b, K b = some r ∧ ∀ D, EqS P (D + d) e x y b) {z : Nat} {xs ys : List Value} : ∀ (n i : Nat) {K : Bool → Option β}, geqIs P E e z xs ys n i K = some r →
    ∃ b, K b = some r ∧ ∀ D ι (rx ry : Array Value), All2 (VR ι) xs rx.toList → All2 (VR ι) ys ry.toList → ∀ w, (Op.eqItems (D + d) e z rx ry (List.range' i n)).run P w = .ok b w
  | 0, i, K, h => ⟨true, h, fun D ι rx ry _ _ w => by simp [Op.eqItems]⟩
  | n + 1, i, K, h => by
    unfold geqIs at h
    obtain ⟨a, h, ha⟩ := exCells_sim h
    obtain ⟨b, h, hb⟩ := exCells_sim h
    obtain ⟨p, h, hp⟩ := hE _ _ _ h
    obtain ⟨q, h, hq⟩ := geqIs_sim hE n (i + 1) h
    refine ⟨_, h, fun D ι rx ry hx hy w => ?_⟩
    obtain ⟨ra, va, pa⟩ := ha ι rx hx
    obtain ⟨rb, vb, pb⟩ := hb ι ry hy
    simp only [List.range'_succ, Op.eqItems, Sem.run_bind, pa w, pb w, hp D ι _ _ va vb w, Result.andThen_ok]
    cases p
    · simp
    · simpa using hq D ι rx ry hx hy w
theorem beqS_eq (a b : ByteArray) : beqS a b = (a.toList == b.toList) := by rw [ByteArray.toList_eq, ByteArray.toList_eq]; rfl
theorem geqC_sim : ∀ (d : Nat) {t : TypeId} {x y : Value} {K : Bool → Option β}, geqC P d t x y K = some r → ∃ b, K b = some r ∧ ∀ D, EqS P (D + d) t x y b
  | 0, t, x, y, K, h => by cases h
  | d + 1, t, x, y, K, h => by
    unfold geqC at h
    split at h
    · rename_i a b hu
      exact ⟨_, h, fun D ι rx ry hx hy w => by rw [hx.bool, hy.bool]; exact run_equalIn_bool w (D + d) t a b hu⟩
    · rename_i q k a k' b hu
      obtain ⟨hk, h'⟩ := cond_none h
      have hk' : k = k' := by simpa using hk
      subst hk'
      exact ⟨_, h', fun D ι rx ry hx hy w => by rw [hx.int, hy.int]; exact run_equalIn_int w (D + d) t k q a b hu⟩
    · rename_i a b hu
      exact ⟨_, h, fun D ι rx ry hx hy w => by rw [hx.str, hy.str, beqS_eq]; exact run_equalIn_string w (D + d) t a b hu⟩
    · rename_i fs xs ys hu
      obtain ⟨hs, h'⟩ := cond_none' h
      have hfs : P.fieldsOf t = fs := by simp [Program.fieldsOf, hu]
      obtain ⟨b, h', hb⟩ := geqFs_sim (P := P) (d := d) (fun t x y K h => geqC_sim d h) fs.toList h'
      refine ⟨b, h', fun D ι rx ry hx hy w => ?_⟩
      obtain ⟨rxs, rfl, h1⟩ := hx.aggL
      obtain ⟨rys, rfl, h2⟩ := hy.aggL
      rw [show D + (d + 1) = (D + d) + 1 from rfl, run_equalIn_struct w (D + d) t rxs rys (by rw [hfs]; exact hu) hs, hfs]
      exact hb D ι rxs rys h1 h2 w
    · rename_i n e xs ys hu
      split at h
      · rename_i z hz
        obtain ⟨i, hi, hc⟩ := info_underlying hz
        obtain ⟨b, h', hb⟩ := geqIs_sim (P := P) (d := d) (fun x y K h => geqC_sim d h) n 0 h
        refine ⟨b, h', fun D ι rx ry hx hy w => ?_⟩
        obtain ⟨rxs, rfl, h1⟩ := hx.aggL
        obtain ⟨rys, rfl, h2⟩ := hy.aggL
        rw [show D + (d + 1) = (D + d) + 1 from rfl, run_equalIn_array w (D + d) rxs rys hu hi, hc, List.range_eq_range']
        exact hb D ι rxs rys h1 h2 w
      · cases h
    · cases h
theorem ltS_eq : ∀ a b : List UInt8, ltS a b = Op.bytesLess a b
  | _, [] => by unfold ltS Op.bytesLess; rfl
  | [], _ :: _ => by unfold ltS Op.bytesLess; rfl
  | a :: x, b :: y => by unfold ltS Op.bytesLess; rw [ltS_eq x y]
theorem gstr_sim {op : BinOp} {a b : ByteArray} {K : Value → Option β} (h : gstr op a b K = some r) (t : TypeId) :
    ∃ v, K v = some r ∧ plain1 v = true ∧ ∀ ox oy w, (do eqGuard op t ox oy (.string a) (.string b); binOp op t (.string a) (.string b) : Sem Value).run P w = .ok v w := by
  unfold gstr at h
  have m : IntKind.i64.max = 9223372036854775807 := by decide +kernel
  split at h
  · exact ⟨_, h, rfl, fun ox oy w => by rw [beqS_eq]; simp [eqGuard_at_string, binOp, Op.stringOp]⟩
  · exact ⟨_, h, rfl, fun ox oy w => by rw [beqS_eq]; simp [eqGuard_at_string, binOp, Op.stringOp]⟩
  · exact ⟨_, h, rfl, fun ox oy w => by rw [ltS_eq]; simp [eqGuard_at_string, binOp, Op.stringOp, ByteArray.toList_eq]⟩
  · obtain ⟨hk, h'⟩ := cond_none h
    have hk' : ¬ ((a.size + b.size : Nat) : Int) > 9223372036854775807 := by have := of_decide_eq_true hk; omega
    exact ⟨_, h', rfl, fun ox oy w => by simp only [eqGuard_at_string, binOp, Op.stringOp, m, hk', if_false]; simp⟩
  · cases h
theorem gbinX_sim {op : BinOp} {t : TypeId} {x y : Value} {K : Value → Option β} (h : gbinX P op t x y K = some r) :
    ∃ v, K v = some r ∧ ∀ ι rx ry, VR ι x rx → VR ι y ry → ∃ rv, VR ι v rv ∧ ∀ ox oy w, (do eqGuard op t ox oy rx ry; binOp op t rx ry : Sem Value).run P w = .ok rv w := by
  unfold gbinX at h
  split at h
  · rename_i xs ys
    cases op <;> simp only [] at h <;> first | (cases h; done) | skip
    · obtain ⟨hg, h⟩ := cond_none' h
      obtain ⟨b, h, hb⟩ := geqC_sim 16 h
      refine ⟨_, h, fun ι rx ry hx hy => ⟨_, .same _ rfl, fun ox oy w => ?_⟩⟩
      obtain ⟨rxs, rfl, h1⟩ := hx.aggL
      obtain ⟨rys, rfl, h2⟩ := hy.aggL
      simp only [Sem.run_bind, run_eqGuard_agg w .eql t ox oy rxs rys hg, Result.andThen_ok, run_eql_struct]
      rw [hb 9984 ι _ _ hx hy w]; rfl
    · obtain ⟨hg, h⟩ := cond_none' h
      obtain ⟨b, h, hb⟩ := geqC_sim 16 h
      refine ⟨_, h, fun ι rx ry hx hy => ⟨_, .same _ rfl, fun ox oy w => ?_⟩⟩
      obtain ⟨rxs, rfl, h1⟩ := hx.aggL
      obtain ⟨rys, rfl, h2⟩ := hy.aggL
      simp only [Sem.run_bind, run_eqGuard_agg w .neq t ox oy rxs rys hg, Result.andThen_ok, run_neq_struct]
      rw [hb 9984 ι _ _ hx hy w]; rfl
  · obtain ⟨v, h, hp, hv⟩ := gstr_sim (P := P) h t
    exact ⟨v, h, fun ι rx ry hx hy => ⟨v, .same _ hp, fun ox oy w => by rw [hx.str, hy.str]; exact hv ox oy w⟩⟩
  · obtain ⟨h1, h⟩ := cond_none h
    exact gbin_sim h t h1
end Go.Proofs.Ytibngikhlgmhaaa.Gx
/- The plain machine and the model: slices of slices, values that are built. No condition. -/
namespace Go.Proofs.Ytibngikhlgmhaaa.Gx
open Go Go.RowKit
set_option linter.unusedVariables false
set_option linter.unusedSimpArgs false
variable {P : Program} {β : Type} {r : β}

def OV (ι : Inj) : Option Value → Option Value → Prop
  | none, none => True
  | some v, some r => VR ι v r
  | _, _ => False
theorem gbound_some {v : Option Value} {d le : Nat} {K : Nat → Option β} (h : gbound v d le K = some r) : ∃ k, K k = some r ∧ ((v = none ∧ k = d) ∨ ∃ kd i, v = some (.int kd i) ∧ 0 ≤ i ∧ i ≤ le ∧ k = i.toNat) := by
  unfold gbound at h
  split at h
  · exact ⟨_, h, .inl ⟨rfl, rfl⟩⟩
  · rename_i kd i
    unfold bnd at h
    obtain ⟨h1, h⟩ := cond_none h
    obtain ⟨h2, h⟩ := cond_none h
    exact ⟨_, h, .inr ⟨kd, i, rfl, by simpa using h1, by simpa using h2, rfl⟩⟩
  · cases h
theorem OV.int {ι : Inj} {k : IntKind} {i : Int} {o : Option Value} (h : OV ι (some (.int k i)) o) : o = some (.int k i) := by
  cases o with
  | none => exact h.elim
  | some v => rw [VR.int h]
theorem OV.none' {ι : Inj} {o : Option Value} (h : OV ι none o) : o = none := by cases o with | none => rfl | some v => exact h.elim
theorem sliceBound_run (k : IntKind) (i : Int) (y : Nat) (code : BoundsCode) (h0 : 0 ≤ i) (h1 : i ≤ y) (w : World) : (Instr.sliceBound (.int k i) y code).run P w = .ok i.toNat w := by
  simp [Instr.sliceBound, asIntOf, h0, h1]
theorem gslice_sim {t : TypeId} {x : Value} {lo hi mx : Option Value} {K : Value → Option β} (h : gslice P t x lo hi mx K = some r) :
    ∃ v, K v = some r ∧ ∀ ι rx rlo rhi rmx, VR ι x rx → OV ι lo rlo → OV ι hi rhi → OV ι mx rmx → ∃ rv, VR ι v rv ∧ ∀ w, (Instr.sliceAt t rx rlo rhi rmx).run P w = .ok rv w := by
  unfold gslice at h
  have hmh := (cond_none' h).1
  replace h := (cond_none' h).2
  split at h
  · rename_i e a n c ht
    split at h
    · rename_i z hz
      have hz0 := (cond_none' h).1
      replace h := (cond_none' h).2
      have hz0' : z ≠ 0 := fun e => by subst e; simp at hz0
      obtain ⟨m, h, hm⟩ := gbound_some h
      obtain ⟨hh, h, hhh⟩ := gbound_some h
      obtain ⟨l, h, hl⟩ := gbound_some h
      refine ⟨_, h, fun ι rx rlo rhi rmx hx hlo hhi hmx => ?_⟩
      obtain ⟨q, c', rfl, hn⟩ := hx.slice
      have hcc : c ≤ c' := by
        cases hx with
        | same => exact Nat.le_refl _
        | sl _ _ _ _ _ p _ hc _ => rcases hc with rfl | ⟨_, h, _⟩ <;> omega
        | slE => exact Nat.zero_le _
        | slD _ _ _ _ _ _ h => exact h
      -- the bounds, as the model has them
      obtain ⟨m', hm', hrun⟩ : ∃ m', m ≤ m' ∧ (m' = m ∨ (m = c ∧ m' = c')) ∧ ∀ w, (Instr.sliceBounds true n c' rlo rhi rmx).run P w = .ok (l, hh, m') w := by
        rcases hm with ⟨hm1, hm2⟩ | ⟨km, im, hm1, hm2, hm3, hm4⟩
        · subst hm1; have := hmx.none'; subst this
          refine ⟨c', by omega, .inr ⟨hm2, rfl⟩, fun w => ?_⟩
          rcases hhh with ⟨hh1, hh2⟩ | ⟨kh, ih, hh1, hh2, hh3, hh4⟩
          · subst hh1; have := hhi.none'; subst this
            rcases hl with ⟨hl1, hl2⟩ | ⟨kl, il, hl1, hl2, hl3, hl4⟩
            · subst hl1; have := hlo.none'; subst this
              simp [Instr.sliceBounds, hh2, hl2]
            · subst hl1; have := hlo.int; subst this
              simp only [Instr.sliceBounds, Sem.run_bind, Sem.run_pure, Result.andThen_ok, sliceBound_run kl il n _ hl2 (by omega), hh2, hl4]
          · subst hh1; have := hhi.int; subst this
            rcases hl with ⟨hl1, hl2⟩ | ⟨kl, il, hl1, hl2, hl3, hl4⟩
            · subst hl1; have := hlo.none'; subst this
              simp only [Instr.sliceBounds, Sem.run_bind, Sem.run_pure, Result.andThen_ok, sliceBound_run kh ih c' _ hh2 (by omega), hh4, hl2]
            · subst hl1; have := hlo.int; subst this
              simp only [Instr.sliceBounds, Sem.run_bind, Sem.run_pure, Result.andThen_ok, sliceBound_run kh ih c' _ hh2 (by omega), sliceBound_run kl il ih.toNat _ hl2 (by omega), hh4, hl4]
        · subst hm1; have := hmx.int; subst this
          refine ⟨m, Nat.le_refl _, .inl rfl, fun w => ?_⟩
          rcases hhh with ⟨hh1, hh2⟩ | ⟨kh, ih, hh1, hh2, hh3, hh4⟩
          · subst hh1; simp at hmh
          · subst hh1; have := hhi.int; subst this
            rcases hl with ⟨hl1, hl2⟩ | ⟨kl, il, hl1, hl2, hl3, hl4⟩
            · subst hl1; have := hlo.none'; subst this
              simp only [Instr.sliceBounds, Sem.run_bind, Sem.run_pure, Result.andThen_ok, sliceBound_run km im c' _ hm2 (by omega), sliceBound_run kh ih im.toNat _ hh2 (by omega), hh4, hl2, hm4]
            · subst hl1; have := hlo.int; subst this
              simp only [Instr.sliceBounds, Sem.run_bind, Sem.run_pure, Result.andThen_ok, sliceBound_run km im c' _ hm2 (by omega), sliceBound_run kh ih im.toNat _ hh2 (by omega), sliceBound_run kl il ih.toNat _ hl2 (by omega), hh4, hl4, hm4]
      obtain ⟨hmm, hrun⟩ := hrun
      have hl_h : l ≤ hh := by
        rcases hl with ⟨_, h⟩ | ⟨_, il, _, h1, h2, h3⟩ <;> omega
      have hreal : ∀ w, (Instr.sliceAt t (.slice q n c') rlo rhi rmx).run P w = .ok (.slice (if m' = l then q else q.map (·.add (l * z))) (hh - l) (m' - l)) w := fun w => by
        simp only [Instr.sliceAt, Sem.run_bind, run_underlying ht, Result.andThen_ok, Instr.slice, hrun, sizeOf_run hz, Sem.run_pure]
      refine ⟨_, ?_, hreal⟩
      cases hx with
      | same _ hp =>
        cases a with
        | some a => cases hp
        | none =>
          have hm2 : m' = m := by rcases hmm with h | ⟨h1, h2⟩ <;> omega
          subst hm2
          have : (if m' = l then (none : Option Addr) else (none : Option Addr).map (·.add (l * z))) = none := by split <;> rfl
          rw [this]
          exact .same _ rfl
      | sl g o _ _ _ p hp hc hnc =>
        have hh_m : hh ≤ m := by
          rcases hhh with ⟨hi1, h⟩ | ⟨_, ih, _, h1, h2, h3⟩
          · rcases hm with ⟨hm1, hm2⟩ | ⟨km, im, hm1, hm2, hm3, hm4⟩
            · omega
            · subst hm1; subst hi1; simp at hmh
          · omega
        by_cases hml : m' = l
        · rw [if_pos hml]
          by_cases hl0 : l = 0
          · subst hl0
            rw [show addO (some ⟨g, o, none⟩) (0 * z) = some ⟨g, o, none⟩ by simp [addO]]
            refine .sl g o _ _ _ p hp ?_ (by omega)
            have : m = 0 := by omega
            rcases hc with rfl | ⟨h1, h2, h3⟩
            · exact .inl (by rcases hmm with h | ⟨h4, h5⟩ <;> omega)
            · exact .inl (by omega)
          · have h1 : hh - l = 0 ∧ m - l = 0 := ⟨by omega, by omega⟩
            rw [h1.1, h1.2, hml, Nat.sub_self]
            exact .slE ⟨g, o + l * z, none⟩ _ 0 (by have := Nat.mul_pos (Nat.pos_of_ne_zero hl0) (Nat.pos_of_ne_zero hz0'); show o + l * z ≠ 0; omega)
        · rw [if_neg hml]
          show VR ι (.slice (some ⟨g, o + l * z, none⟩) (hh - l) (m - l)) (.slice (some ((⟨p.blk, p.off + o, none⟩ : Addr).add (l * z))) (hh - l) (m' - l))
          rw [add_none, Nat.add_assoc]
          refine .sl g (o + l * z) _ _ _ p hp ?_ (by omega)
          rcases hmm with rfl | ⟨rfl, rfl⟩
          · exact .inl rfl
          · rcases hc with rfl | ⟨h1, h2, h3⟩
            · exact .inl rfl
            · refine .inr ⟨h1, by omega, fun h0 => ?_⟩
              have : l = 0 := by
                rcases Nat.eq_zero_or_pos l with h | h
                · exact h
                · have := Nat.mul_pos h (Nat.pos_of_ne_zero hz0'); omega
              subst this
              have := h3 (by omega)
              simpa using this
      | slE a r c' ho =>
        have e1 : hh - l = 0 ∧ m - l = 0 := by
          rcases hm with ⟨hm1, hm2⟩ | ⟨km, im, hm1, hm2, hm3, hm4⟩ <;> rcases hhh with ⟨_, h⟩ | ⟨_, ih, _, h1, h2, h3⟩ <;> omega
        rw [e1.1, e1.2]
        have : ∃ q', (if m' = l then some r else (some r).map (·.add (l * z))) = some q' := by split <;> exact ⟨_, rfl⟩
        obtain ⟨q', hq⟩ := this
        rw [hq]
        exact .slE _ q' _ (Nat.ne_of_gt (Nat.lt_of_lt_of_le (Nat.pos_of_ne_zero ho) (Nat.le_add_right _ _)))
      | slD a _ _ c' r hd hc =>
        have : ∃ q', (if m' = l then some r else (some r).map (·.add (l * z))) = some q' := by split <;> exact ⟨_, rfl⟩
        obtain ⟨q', hq⟩ := this
        rw [hq]
        exact .slD ⟨a.block, a.off + l * z, a.spot⟩ _ _ _ q' hd (by omega)
    · cases h
  · rename_i n e a ht
    split at h
    · rename_i z hz
      obtain ⟨g, o, rfl, h2⟩ := exA_some h
      clear h
      obtain ⟨m, h, hm⟩ := gbound_some h2
      obtain ⟨hh, h, hhh⟩ := gbound_some h
      obtain ⟨l, h, hl⟩ := gbound_some h
      refine ⟨_, h, fun ι rx rlo rhi rmx hx hlo hhi hmx => ?_⟩
      have hrun : ∀ w, (Instr.sliceBounds false n n rlo rhi rmx).run P w = .ok (l, hh, m) w := fun w => by
        rcases hm with ⟨hm1, hm2⟩ | ⟨km, im, hm1, hm2, hm3, hm4⟩
        · subst hm1; have := hmx.none'; subst this
          rcases hhh with ⟨hh1, hh2⟩ | ⟨kh, ih, hh1, hh2, hh3, hh4⟩
          · subst hh1; have := hhi.none'; subst this
            rcases hl with ⟨hl1, hl2⟩ | ⟨kl, il, hl1, hl2, hl3, hl4⟩
            · subst hl1; have := hlo.none'; subst this
              simp [Instr.sliceBounds, hh2, hl2, hm2]
            · subst hl1; have := hlo.int; subst this
              simp only [Instr.sliceBounds, Sem.run_bind, Sem.run_pure, Result.andThen_ok, sliceBound_run kl il n _ hl2 (by omega), hh2, hl4, hm2]
          · subst hh1; have := hhi.int; subst this
            rcases hl with ⟨hl1, hl2⟩ | ⟨kl, il, hl1, hl2, hl3, hl4⟩
            · subst hl1; have := hlo.none'; subst this
              simp only [Instr.sliceBounds, Sem.run_bind, Sem.run_pure, Result.andThen_ok, Bool.false_eq_true, if_false, sliceBound_run kh ih n _ hh2 (by omega), hh4, hl2, hm2]
            · subst hl1; have := hlo.int; subst this
              simp only [Instr.sliceBounds, Sem.run_bind, Sem.run_pure, Result.andThen_ok, Bool.false_eq_true, if_false, sliceBound_run kh ih n _ hh2 (by omega), sliceBound_run kl il ih.toNat _ hl2 (by omega), hh4, hl4, hm2]
        · subst hm1; have := hmx.int; subst this
          rcases hhh with ⟨hh1, hh2⟩ | ⟨kh, ih, hh1, hh2, hh3, hh4⟩
          · subst hh1; simp at hmh
          · subst hh1; have := hhi.int; subst this
            rcases hl with ⟨hl1, hl2⟩ | ⟨kl, il, hl1, hl2, hl3, hl4⟩
            · subst hl1; have := hlo.none'; subst this
              simp only [Instr.sliceBounds, Sem.run_bind, Sem.run_pure, Result.andThen_ok, Bool.false_eq_true, if_false, sliceBound_run km im n _ hm2 (by omega), sliceBound_run kh ih im.toNat _ hh2 (by omega), hh4, hl2, hm4]
            · subst hl1; have := hlo.int; subst this
              simp only [Instr.sliceBounds, Sem.run_bind, Sem.run_pure, Result.andThen_ok, Bool.false_eq_true, if_false, sliceBound_run km im n _ hm2 (by omega), sliceBound_run kh ih im.toNat _ hh2 (by omega), sliceBound_run kl il ih.toNat _ hl2 (by omega), hh4, hl4, hm4]
      have hreal : ∀ q w, (Instr.sliceAt t (.pointer (some q)) rlo rhi rmx).run P w = .ok (.slice (some (if m = l then q else q.add (l * z))) (hh - l) (m - l)) w := fun q w => by
        simp only [Instr.sliceAt, Sem.run_bind, run_underlying ht, Result.andThen_ok, Instr.sureAddr, hrun, sizeOf_run hz, Sem.run_pure]
      have hh_m : hh ≤ m := by
        rcases hhh with ⟨hi1, h⟩ | ⟨_, ih, _, h1, h2, h3⟩
        · rcases hm with ⟨hm1, hm2⟩ | ⟨km, im, hm1, hm2, hm3, hm4⟩
          · omega
          · subst hm1; subst hi1; simp at hmh
        · omega
      rcases hx.someP with ⟨p, hp, rfl⟩ | ⟨hd, q, rfl⟩
      · refine ⟨_, ?_, hreal _⟩
        by_cases hml : m = l
        · rw [if_pos hml, hml, beq_self]
          exact .sl g o _ _ _ p hp (.inl rfl) (by omega)
        · rw [if_neg hml, beq_ne hml, add_none, Nat.add_assoc]
          exact .sl g (o + l * z) _ _ _ p hp (.inl rfl) (by omega)
      · exact ⟨_, .slD ⟨g, _, none⟩ _ _ _ _ hd (Nat.le_refl _), hreal _⟩
    · cases h
  · rename_i s ht
    split at h
    · cases h
    · obtain ⟨hh, h, hhh⟩ := gbound_some h
      obtain ⟨l, h, hl⟩ := gbound_some h
      refine ⟨_, h, fun ι rx rlo rhi rmx hx hlo hhi hmx => ⟨_, .same _ rfl, fun w => ?_⟩⟩
      rw [hx.str, hmx.none']
      have hrun : (Instr.sliceBounds false s.size s.size rlo rhi none).run P w = .ok (l, hh, s.size) w := by
        rcases hhh with ⟨hh1, hh2⟩ | ⟨kh, ih, hh1, hh2, hh3, hh4⟩
        · subst hh1; have := hhi.none'; subst this
          rcases hl with ⟨hl1, hl2⟩ | ⟨kl, il, hl1, hl2, hl3, hl4⟩
          · subst hl1; have := hlo.none'; subst this
            simp [Instr.sliceBounds, hh2, hl2]
          · subst hl1; have := hlo.int; subst this
            simp only [Instr.sliceBounds, Sem.run_bind, Sem.run_pure, Result.andThen_ok, sliceBound_run kl il s.size _ hl2 (by omega), hh2, hl4]
        · subst hh1; have := hhi.int; subst this
          rcases hl with ⟨hl1, hl2⟩ | ⟨kl, il, hl1, hl2, hl3, hl4⟩
          · subst hl1; have := hlo.none'; subst this
            simp only [Instr.sliceBounds, Sem.run_bind, Sem.run_pure, Result.andThen_ok, Bool.false_eq_true, if_false, sliceBound_run kh ih s.size _ hh2 (by omega), hh4, hl2]
          · subst hl1; have := hlo.int; subst this
            simp only [Instr.sliceBounds, Sem.run_bind, Sem.run_pure, Result.andThen_ok, Bool.false_eq_true, if_false, sliceBound_run kh ih s.size _ hh2 (by omega), sliceBound_run kl il ih.toNat _ hl2 (by omega), hh4, hl4]
      simp only [Instr.sliceAt, Sem.run_bind, run_underlying ht, Result.andThen_ok, Instr.slice, Option.isSome_none, Bool.false_eq_true, if_false, hrun, Sem.run_pure]
  · cases h
end Go.Proofs.Ytibngikhlgmhaaa.Gx
/- The plain machine and the model: values that are built, loads, new blocks. No condition. -/
namespace Go.Proofs.Ytibngikhlgmhaaa.Gx
open Go Go.RowKit
set_option linter.unusedVariables false
set_option linter.unusedSimpArgs false
variable {P : Program} {β : Type} {r : β}

theorem fold_lay (l : List Value) : ∀ (k o : Nat) (cs : Array Value), o + k + l.length ≤ cs.size →
    ((l.zipIdx k).foldl (fun (cs : Array Value) (x : Value × Nat) => cs.setIfInBounds (o + x.2) x.1) cs).toList = nlay cs.toList (o + k) l := by
  induction l with
  | nil => intro k o cs h; simp [nlay_eq]
  | cons v l ih =>
    intro k o cs h
    simp only [List.zipIdx_cons, List.foldl_cons]
    simp only [List.length_cons] at h
    rw [ih (k + 1) o _ (by simp; omega)]
    apply List.ext_getElem?
    intro i
    rw [← nth_eq, ← nth_eq, nth_nlay (by simp; omega), nth_nlay (by simp; omega)]
    simp only [List.length_cons]
    by_cases h1 : i = o + k
    · subst h1
      rw [if_neg (by omega), if_pos (by omega), Nat.sub_self, nth_eq]
      have : o + k < cs.size := by omega
      simp [nth, this]
    · by_cases h2 : o + (k + 1) ≤ i ∧ i < o + (k + 1) + l.length
      · rw [if_pos h2, if_pos (by omega), show i - (o + k) = (i - (o + (k + 1))) + 1 by omega]
        rfl
      · rw [if_neg h2, if_neg (by omega), nth_eq, nth_eq]
        simp [List.getElem?_set, Ne.symm h1]
theorem vcells_rel {ι : Inj} {v rv : Value} (h : VR ι v rv) (hc : allCells (vcells v) = true) : All2 (VR ι) (vcells v) rv.cells.toList := by
  cases h with
  | un => simp [vcells, allCells, isCell] at hc
  | sk => simp [vcells, allCells, isCell] at hc
  | same _ hp => cases v <;> first | exact .cons (.same _ hp) .nil | cases hp
  | agg cs rs hl h => exact .of hl fun i a c ha hc => h i a c ha hc
  | tup => simp [vcells, allCells, isCell] at hc
  | ptr g o p h => exact .cons (.ptr g o p h) .nil
  | ptrD a r h => exact .cons (.ptrD a r h) .nil
  | sl g o n c c' p h h1 h2 => exact .cons (.sl g o n c c' p h h1 h2) .nil
  | slE a r c' h => exact .cons (.slE a r c' h) .nil
  | slD a n c c' r h h' => exact .cons (.slD a n c c' r h h') .nil
  | map g p h => exact .cons (.map g p h) .nil
  | mapD g r h => exact .cons (.mapD g r h) .nil
  | func fn fs fs' cs cs' hf h hc' h' => exact .cons (.func fn fs fs' cs cs' hf h hc' h') .nil
theorem All2.lay {α γ : Type} {R : α → γ → Prop} {as m : List α} {cs m' : List γ} (h : All2 R as cs) (o : Nat) (hm : All2 R m m') : All2 R (nlay as o m) (nlay cs o m') := by
  rw [nlay_eq, nlay_eq, hm.length]
  exact ((h.take o).append hm).append (h.drop _)
def PR (ι : Inj) (a b : Nat × Value) : Prop := a.1 = b.1 ∧ VR ι a.2 b.2
theorem gfill_sim {place : Nat → Option (Nat × Nat)} {parts : List (Nat × Value)} : ∀ {cs : List Value} {K : List Value → Option β}, gfill place parts cs K = some r →
    ∃ cs', K cs' = some r ∧ ∀ ι rparts (rcs : Array Value), All2 (PR ι) parts rparts → All2 (VR ι) cs rcs.toList → ∃ rcs', Instr.fill place rcs rparts = some rcs' ∧ All2 (VR ι) cs' rcs'.toList := by
  induction parts with
  | nil => exact fun h => ⟨_, h, fun ι rparts rcs hp hc => by cases hp; exact ⟨rcs, rfl, hc⟩⟩
  | cons p parts ih =>
    intro cs K h
    obtain ⟨i, v⟩ := p
    simp only [gfill] at h
    split at h
    · cases h
    · rename_i o n hpl
      have hb := (cond_none h).1
      replace h := (cond_none h).2
      simp only [Bool.and_eq_true] at hb
      obtain ⟨⟨h1, h2⟩, h3⟩ := hb
      have h1' : (vcells v).length = n := Nat.eq_of_beq_eq_true h1
      have h2' := Nat.le_of_ble_eq_true h2
      obtain ⟨cs', h, hcs⟩ := ih h
      refine ⟨cs', h, fun ι rparts rcs hp hc => ?_⟩
      cases hp with
      | cons hp1 hps =>
        rename_i rp rps
        obtain ⟨ri, rv⟩ := rp
        obtain ⟨e1, e2⟩ := hp1
        simp only at e1 e2
        subst e1
        have hvc := vcells_rel e2 h3
        have hl := hvc.length
        have hlc := hc.length
        simp only [Array.length_toList] at hl hlc
        have hlay : ((rv.cells.zipIdx.foldl (fun cs (c, j) => cs.setIfInBounds (o + j) c) rcs)).toList = nlay rcs.toList o rv.cells.toList := by
          have := fold_lay rv.cells.toList 0 o rcs (by simp; omega)
          rw [← Array.foldl_toList, Array.toList_zipIdx]
          exact this
        obtain ⟨rcs', h4, h5⟩ := hcs ι rps (rv.cells.zipIdx.foldl (fun cs (c, j) => cs.setIfInBounds (o + j) c) rcs) hps (by rw [hlay]; exact hc.lay o hvc)
        refine ⟨rcs', ?_, h5⟩
        rw [Instr.fill, hpl]
        simp only []
        rw [if_neg (by simp; omega)]
        exact h4
theorem fill_congr {p p' : Nat → Option (Nat × Nat)} (h : ∀ i, p i = p' i) : ∀ (parts : List (Nat × Value)) (cs : Array Value), Instr.fill p cs parts = Instr.fill p' cs parts
  | [], _ => rfl
  | (i, v) :: r, cs => by
    rw [Instr.fill, Instr.fill, h i]
    split
    · rfl
    · split
      · rfl
      · exact fill_congr h r _
theorem info_of {t : TypeId} {n : Nat} (h : sizeT P t = some n) : ∃ i, P.info? t = some i ∧ i.size = n := by
  unfold sizeT at h
  cases hi : P.info? t with
  | none => simp [hi] at h
  | some i => exact ⟨i, rfl, by simpa [hi] using h⟩
theorem zero_of {t : TypeId} {z : Value} (h : zeroT P t = some z) : ∃ i, P.info? t = some i ∧ i.zero = some z := by
  unfold zeroT at h
  split at h
  · exact ⟨_, by assumption, h⟩
  · cases h
theorem cells_eq (v : Value) : v.cells.toList = vcells v := by cases v <;> rfl
theorem gbuild_sim {t : TypeId} {parts : List (Nat × Value)} {K : Value → Option β} (h : gbuild P t parts K = some r) :
    ∃ v, K v = some r ∧ ∀ ι (rparts : Array (Nat × Value)), All2 (PR ι) parts rparts.toList → ∃ rv, VR ι v rv ∧ ∀ w, (Instr.build t rparts).run P w = .ok rv w := by
  unfold gbuild at h
  split at h
  · rename_i fs z hu hz
    have hb := (cond_none h).1
    replace h := (cond_none h).2
    simp only [Bool.and_eq_true] at hb
    obtain ⟨cs', h, hf⟩ := gfill_sim h
    refine ⟨_, h, fun ι rparts hp => ?_⟩
    obtain ⟨i, hi, hiz⟩ := zero_of hz
    have hzc : All2 (VR ι) (vcells z) z.cells.toList := by rw [cells_eq]; cases z <;> first | exact plains_all hb.1 ι | exact .cons (.same _ hb.1) .nil
    obtain ⟨rcs, h1, h2⟩ := hf ι rparts.toList z.cells hp hzc
    have hm : ∃ pl, fs.toList.mapM (fun f => (P.info? f.type).map fun i => (f.offset, i.size)) = some pl ∧ ∀ i, (pl.toArray[i]? : Option (Nat × Nat)) = places P fs.toList i := by
      have := hb.2
      revert this
      generalize fs.toList = l
      induction l with
      | nil => exact fun _ => ⟨[], rfl, fun i => by simp [places, nth]⟩
      | cons f l ih =>
        intro hall
        simp only [List.all_cons, Bool.and_eq_true] at hall
        obtain ⟨pl, e1, e2⟩ := ih hall.2
        obtain ⟨n, hn⟩ := Option.isSome_iff_exists.1 hall.1
        obtain ⟨inf, hinf, hsz⟩ := info_of hn
        refine ⟨(f.offset, n) :: pl, by simp [List.mapM_cons, hinf, hsz, e1], fun i => ?_⟩
        cases i with
        | zero => simp [places, nth, hn]
        | succ i => have := e2 i; simp [places, nth] at this ⊢; exact this
    obtain ⟨pl, hpl, hpe⟩ := hm
    refine ⟨.agg rcs, .mkAgg (by simpa using h2), fun w => run_build w t rparts rcs ?_⟩
    unfold Program.built
    simp only [hi, hu, hiz, hpl]
    rw [fill_congr hpe]
    exact h1
  · rename_i n e z hu hz
    split at h
    · rename_i k hk
      have hb := (cond_none h).1
      replace h := (cond_none h).2
      obtain ⟨cs', h, hf⟩ := gfill_sim h
      refine ⟨_, h, fun ι rparts hp => ?_⟩
      obtain ⟨i, hi, hiz⟩ := zero_of hz
      obtain ⟨ie, hie, hsz⟩ := info_of hk
      have hzc : All2 (VR ι) (vcells z) z.cells.toList := by rw [cells_eq]; cases z <;> first | exact plains_all hb ι | exact .cons (.same _ hb) .nil
      obtain ⟨rcs, h1, h2⟩ := hf ι rparts.toList z.cells hp hzc
      refine ⟨.agg rcs, .mkAgg (by simpa using h2), fun w => run_build w t rparts rcs ?_⟩
      unfold Program.built
      simp only [hi, hu, hiz, hie, hsz]
      exact h1
    · cases h
  · cases h

/-! ### loads -/
theorem look_get {h : GH} {g : Nat} {o : GObj} (hl : h.look g = some o) : g < h.next ∧ h.get g = some o := by
  unfold GH.look at hl
  cases hb : Nat.blt g h.next with
  | false => rw [hb] at hl; cases hl
  | true => rw [hb] at hl; exact ⟨Nat.le_of_ble_eq_true hb, hl⟩
theorem look_of {h : GH} {g : Nat} (hg : g < h.next) : h.look g = h.get g := by
  unfold GH.look
  have : Nat.blt g h.next = true := Nat.ble_eq_true_of_le hg
  rw [this]; rfl
theorem cell_row {h : GH} {g o : Nat} {v : Value} (hc : h.cell ⟨g, o, none⟩ = some v) : ∃ b, h.look g = some (.row b) ∧ nth b.cells o = some v := by
  unfold GH.cell at hc
  simp only [] at hc
  unfold rowCell at hc
  split at hc
  · rename_i b hb; exact ⟨b, hb, hc⟩
  · cases hc
/-- cells of a block that is there, as the model loads them -/
theorem loads_run {ι : Inj} {p : Pl} {b : Blk} {w : World} (ok : RowOk ι p b w) {o n : Nat} (hle : o + n ≤ b.cells.length) :
    ∃ rs : List Value, rs.length = n ∧ All2 (VR ι) ((b.cells.drop o).take n) rs ∧ (∀ j v, rs[j]? = some v → w.cell? ⟨p.blk, p.off + o + j, none⟩ = some v) := by
  induction n with
  | zero => exact ⟨[], rfl, by simp; exact .nil, fun j v h => by simp at h⟩
  | succ n ih =>
    obtain ⟨rs, h1, h2, h3⟩ := ih (by omega)
    have hv : nth b.cells (o + n) = some (b.cells[o + n]'(by omega)) := by rw [nth_eq]; exact List.getElem?_eq_getElem _
    obtain ⟨rv, h4, h5⟩ := ok.cell _ _ hv
    refine ⟨rs ++ [rv], by simp [h1], ?_, fun j v hj => ?_⟩
    · have e : (b.cells.drop o).take (n + 1) = (b.cells.drop o).take n ++ [b.cells[o + n]'(by omega)] := by
        rw [List.take_add_one]
        congr 1
        rw [List.getElem?_drop, List.getElem?_eq_getElem (by omega)]
        rfl
      rw [e]
      exact h2.append (.cons h5 .nil)
    · by_cases hj' : j < rs.length
      · rw [List.getElem?_append_left hj'] at hj; exact h3 j v hj
      · rw [List.getElem?_append_right (by omega)] at hj
        have : j - rs.length = 0 := by
          rcases Nat.eq_zero_or_pos (j - rs.length) with h | h
          · exact h
          · rw [List.getElem?_eq_none (by simp; omega)] at hj; cases hj
        rw [this] at hj
        simp at hj
        subst hj
        rw [show p.off + o + j = p.off + (o + n) by omega]
        exact h4
/-- the cells that a load of type t reads -/
def loadN (P : Program) (t : TypeId) : Nat := match P.underlying t with | some d => (bif aggD d then (match sizeT P t with | some n => n | none => 0) else 1) | none => 0
theorem gload_sim {t : TypeId} {g o : Nat} {h : GH} {K : Value → Option β} (hh : gload P t g o h K = some r) :
    ∃ v b, K v = some r ∧ 0 < loadN P t ∧ h.look g = some (.row b) ∧ o + loadN P t ≤ b.cells.length ∧
      (∀ (b' : Blk), o + loadN P t ≤ b'.cells.length → (∀ i, i < loadN P t → nth b'.cells (o + i) = nth b.cells (o + i)) → ∀ ι p w, RowOk ι p b' w → ∃ rv, VR ι v rv ∧ (Instr.loadAt t (.pointer (some ⟨p.blk, p.off + o, none⟩))).run P w = .ok rv w) := by
  unfold gload at hh
  split at hh
  · cases hh
  · rename_i d hd
    cases ha : aggD d with
    | true =>
      rw [ha] at hh
      simp only [cond_true] at hh
      split at hh
      · rename_i n hn
        have hN : loadN P t = n := by simp [loadN, hd, ha, hn]
        rw [hN]
        have hn0 := (cond_none' hh).1
        replace hh := (cond_none' hh).2
        have hn0' : n ≠ 0 := fun e => by subst e; simp at hn0
        have key : ∃ (vs : List Value) (b : Blk), K (.agg vs.toArray) = some r ∧ h.look g = some (.row b) ∧ o + n ≤ b.cells.length ∧ vs = (b.cells.drop o).take n := by
          cases hb : (Nat.ble n small && Nat.beq (flat P 4 t).length n) with
          | true =>
            rw [hb] at hh
            simp only [cond_true] at hh
            obtain ⟨vs, hl, hf, hh⟩ := exN_some hh
            simp only [Bool.and_eq_true] at hb
            have hl' : vs.length = n := hl.trans (Nat.eq_of_beq_eq_true hb.2)
            have h0 := hf 0 (by omega)
            obtain ⟨b, hb1, hb2⟩ := cell_row (h0.trans (by rw [nth_eq, List.getElem?_eq_getElem (by omega)]))
            have hf' : ∀ i, i < vs.length → nth b.cells (o + i) = nth vs i := fun i hi => by
              have := hf i hi
              obtain ⟨b', hb1', hb2'⟩ := cell_row (this.trans (by rw [nth_eq, List.getElem?_eq_getElem hi]))
              rw [hb1] at hb1'; cases hb1'
              rw [hb2', nth_eq, List.getElem?_eq_getElem hi]
            rcases eq_of_nth hl' hf' with ⟨e1, e2⟩ | ⟨e1, _⟩
            · exact ⟨vs, b, hh, hb1, e2, e1⟩
            · exact (hn0' e1).elim
          | false =>
            rw [hb] at hh
            simp only [cond_false] at hh
            unfold exL at hh
            split at hh
            · rename_i vs hv
              obtain ⟨e1, e2⟩ := nsub_some hv
              unfold rowCells at e1 e2
              split at e1
              · rename_i b hb'
                rw [hb'] at e2
                exact ⟨vs, b, hh, hb', e1, e2⟩
              · simp at e1; omega
            · cases hh
        obtain ⟨vs, b, hh, hb, hle, e⟩ := key
        refine ⟨_, b, hh, Nat.pos_of_ne_zero hn0', hb, hle, fun b' hle' hs ι p w ok => ?_⟩
        obtain ⟨rs, h1, h2, h3⟩ := loads_run ok hle'
        have e' : (b'.cells.drop o).take n = vs := by
          rw [e]
          apply List.ext_getElem?
          intro i
          rw [List.getElem?_take, List.getElem?_take, List.getElem?_drop, List.getElem?_drop]
          split
          · rename_i hi; have := hs i hi; simpa [nth_eq] using this
          · rfl
        rw [e'] at h2
        obtain ⟨inf, hinf, hsz⟩ := info_of hn
        refine ⟨.agg rs.toArray, .mkAgg (by simpa using h2), run_loadAt_mid w p.blk (p.off + o) t rs d h3 hd (by cases d <;> first | rfl | cases ha) (by simp [hinf, hsz, h1])⟩
      · cases hh
    | false =>
      rw [ha] at hh
      simp only [cond_false] at hh
      have hN : loadN P t = 1 := by simp [loadN, hd, ha]
      rw [hN]
      obtain ⟨v, hv, hh⟩ := exK_some hh
      obtain ⟨b, hb, hn⟩ := cell_row hv
      have hlt : o < b.cells.length := by rw [nth_eq] at hn; exact (List.getElem?_eq_some_iff.1 hn).1
      refine ⟨v, b, hh, Nat.one_pos, hb, hlt, fun b' _ hs ι p w ok => ?_⟩
      have := hs 0 (by omega)
      simp only [Nat.add_zero] at this
      obtain ⟨rv, h1, h2⟩ := ok.cell o v (this.trans hn)
      refine ⟨rv, h2, ?_⟩
      simp [Instr.loadAt, Instr.sureAddr, loadVar, isAgg_run hd, ha, h1]
end Go.Proofs.Ytibngikhlgmhaaa.Gx

