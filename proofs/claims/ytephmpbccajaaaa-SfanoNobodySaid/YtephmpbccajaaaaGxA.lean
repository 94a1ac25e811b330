/- A plain machine for the translated code: one order (the text's), memory as a list of named blocks, no draws; in the form of continuations. Definitions alone. No condition. -/
import Derived.Calls
import Derived.Orders
import Derived.KernelRfl
namespace Go.Proofs.Ytephmpbccajaaaa.Gx
open Go
set_option linter.unusedVariables false

/-- A value without any address in it. -/
def plain1 : Value → Bool
  | .bool _ | .int _ _ | .float _ _ | .complex _ _ _ | .string _ | .nilFunc | .nilIface => true
  | .pointer none | .map none | .chan none => true
  | .slice none _ _ => true
  | _ => false
def plains : List Value → Bool
  | [] => true
  | v :: r => plain1 v && plains r
/-- A value that one cell can hold. -/
def isCell : Value → Bool
  | .agg _ | .tuple _ => false
  | _ => true
def allCells : List Value → Bool
  | [] => true
  | v :: r => isCell v && allCells r
def nth {α : Type} : List α → Nat → Option α
  | [], _ => none
  | x :: _, 0 => some x
  | _ :: r, n + 1 => nth r n
def nset {α : Type} : List α → Nat → α → List α
  | [], _, _ => []
  | _ :: r, 0, y => y :: r
  | x :: r, n + 1, y => x :: nset r n y
def ndrop {α : Type} : List α → Nat → List α
  | l, 0 => l
  | [], _ + 1 => []
  | _ :: r, n + 1 => ndrop r n
def ntake {α : Type} : Nat → List α → List α
  | 0, _ => []
  | _ + 1, [] => []
  | n + 1, x :: r => x :: ntake n r
def nlen {α : Type} (l : List α) : Nat := l.length
/-- n things from o on, if they are there -/
def nsub {α : Type} (l : List α) (o n : Nat) : Option (List α) := bif Nat.ble (o + n) l.length then some (ntake n (ndrop l o)) else none
/-- a list laid over another one from o on -/
def nlay {α : Type} (l : List α) (o : Nat) (m : List α) : List α := ntake o l ++ m ++ ndrop l (o + m.length)

/-! ### memory -/
structure Blk where
  cells : List Value
  /-- cells of an element, where the block may be appended to; 0: never -/
  esz : Nat
  /-- never written -/
  ro : Bool
inductive GObj
  | row (b : Blk)
  | map (es : List (Value × Value))
structure GH where
  next : Nat
  get : Nat → Option GObj
def GH.look (h : GH) (g : Nat) : Option GObj := bif Nat.blt g h.next then h.get g else none
def GH.push (h : GH) (o : GObj) : GH := ⟨h.next + 1, fun g => bif Nat.beq g h.next then some o else h.get g⟩
def GH.put (h : GH) (g : Nat) (o : Option GObj) : GH := ⟨h.next, fun g' => bif Nat.beq g' g then o else h.get g'⟩
def GH.empty : GH := ⟨0, fun _ => none⟩
def GH.row (h : GH) (g : Nat) : Option Blk := match h.look g with | some (.row b) => some b | _ => none
def rowCell : Option GObj → Nat → Option Value
  | some (.row b), o => nth b.cells o
  | _, _ => none
def GH.cell (h : GH) (a : Addr) : Option Value := match a.spot with | none => rowCell (h.look a.block) a.off | some _ => none

structure Sl where
  a : Option Addr
  n : Nat
  c : Nat

/-! ### what is in one cell, by its kind -/
inductive CK | int (k : IntKind) | bool | str | ptr | sl | raw
section
variable {β : Type}
def exI (k : IntKind) (v : Option Value) (K : Int → Option β) : Option β := match v with | some (.int k' n) => (bif decide (k' = k) then K n else none) | _ => none
def exB (v : Option Value) (K : Bool → Option β) : Option β := match v with | some (.bool b) => K b | _ => none
def exT (v : Option Value) (K : ByteArray → Option β) : Option β := match v with | some (.string s) => K s | _ => none
def exP (v : Option Value) (K : Option Addr → Option β) : Option β := match v with | some (.pointer p) => K p | _ => none
def exS (v : Option Value) (K : Sl → Option β) : Option β := match v with | some (.slice a n c) => K ⟨a, n, c⟩ | _ => none
/-- an address: a block's name and a place in it -/
def exA (p : Option Addr) (K : Nat → Nat → Option β) : Option β := match p with | some ⟨g, o, none⟩ => K g o | _ => none
/-- cells in a row, if they are there -/
def exL (v : Option (List Value)) (K : List Value → Option β) : Option β := match v with | some x => K x | none => none
/-- an aggregate's cells -/
def exAg (v : Value) (K : List Value → Option β) : Option β := match v with | .agg cs => K cs.toList | _ => none
/-- a bound of a slice expression -/
def bnd (i : Int) (le : Nat) (K : Nat → Option β) : Option β := bif decide (0 ≤ i) then (bif decide (i ≤ le) then K i.toNat else none) else none
def exV (v : Option Value) (K : Value → Option β) : Option β := match v with | some x => K x | none => none
def exK (k : CK) (v : Option Value) (K : Value → Option β) : Option β := match k with
  | .int k => exI k v fun n => K (.int k n)
  | .bool => exB v fun b => K (.bool b)
  | .str => exT v fun b => K (.string b)
  | .ptr => exP v fun b => K (.pointer b)
  | .sl => exS v fun s => K (.slice s.a s.n s.c)
  | .raw => exV v K
/-- cells one behind the other, each by its kind -/
def exN : List CK → (Nat → Option Value) → Nat → (List Value → Option β) → Option β
  | [], _, _, K => K []
  | k :: r, f, o, K => exK k (f o) fun v => exN r f (o + 1) fun vs => K (v :: vs)
end

/-! ### types -/
def ckD : TypeDesc → CK
  | .int k => .int k | .bool => .bool | .string => .str | .pointer _ => .ptr | .slice _ => .sl | _ => .raw
def aggD : TypeDesc → Bool
  | .struct _ | .array _ _ => true
  | _ => false
def reps {α : Type} : Nat → List α → List α
  | 0, _ => []
  | n + 1, l => l ++ reps n l
def flat (P : Program) : Nat → TypeId → List CK
  | 0, _ => [.raw]
  | d + 1, t => match P.underlying t with
    | some (.struct fs) => fs.toList.foldr (fun f acc => flat P d f.type ++ acc) []
    | some (.array n e) => reps n (flat P d e)
    | some d => [ckD d]
    | none => []
def sizeT (P : Program) (t : TypeId) : Option Nat := (P.info? t).map (·.size)
def bytesT (P : Program) (t : TypeId) : Option Nat := (P.info? t).map (·.bytes)
def zeroT (P : Program) (t : TypeId) : Option Value := match P.info? t with | some i => i.zero | none => none
def vcells : Value → List Value
  | .agg cs => cs.toList
  | v => [v]
/-- the greatest aggregate that is told cell by cell -/
def small : Nat := 18

section
variable {β : Type} (P : Program)
/-- a value of type t out of a list's cells: small aggregates cell by cell, the others whole -/
def exCells (t : TypeId) (cs : List Value) (o : Nat) (K : Value → Option β) : Option β := match P.underlying t with
  | none => none
  | some d => bif aggD d then (match sizeT P t with
    | some n => (bif Nat.ble n small && Nat.beq (flat P 4 t).length n then exN (flat P 4 t) (nth cs) o fun vs => K (.agg vs.toArray)
      else exL (nsub cs o n) fun vs => K (.agg vs.toArray))
    | none => none)
  else exK (ckD d) (nth cs o) K
def rowCells (ob : Option GObj) : List Value := match ob with | some (.row b) => b.cells | _ => []
def gload (t : TypeId) (g o : Nat) (h : GH) (K : Value → Option β) : Option β := match P.underlying t with
  | none => none
  | some d => bif aggD d then (match sizeT P t with
    | some n => (bif Nat.beq n 0 then none else bif Nat.ble n small && Nat.beq (flat P 4 t).length n then exN (flat P 4 t) (fun o => h.cell ⟨g, o, none⟩) o fun vs => K (.agg vs.toArray)
      else exL (nsub (rowCells (h.look g)) o n) fun vs => K (.agg vs.toArray))
    | none => none)
  else exK (ckD d) (h.cell ⟨g, o, none⟩) K
/-- writes cells into a block that is there -/
def gput (g o : Nat) (vs : List Value) (h : GH) (K : GH → Option β) : Option β := match h.look g with
    | some (.row b) => (bif b.ro || !allCells vs then none else bif Nat.ble (o + vs.length) b.cells.length then K (h.put g (some (.row { b with cells := nlay b.cells o vs }))) else none)
    | _ => none
/-- a new block -/
def gnew (cs : List Value) (esz : Nat) (h : GH) (K : Nat → GH → Option β) : Option β := bif allCells cs then K h.next (h.push (.row ⟨cs, esz, false⟩)) else none
end

/-! ### slots -/
/-- what stands in a slot whose operation was passed over -/
def skipV : Value := .tuple #[.tuple #[]]
def isSkip : Value → Bool
  | .tuple vs => (match vs.toList with | [] => false | _ => true)
  | _ => false
abbrev Env := List (Nat × Value)
def Env.get : Env → Nat → Value
  | [], _ => undef
  | (d, v) :: r, t => bif Nat.beq d t then v else Env.get r t
def Env.put (e : Env) (d : Option Tmp) (v : Value) : Env := match d with | some d => (d, v) :: e | none => e
def Env.only (e : Env) : List Nat → Env
  | [] => []
  | t :: r => (t, e.get t) :: Env.only e r
def plainC : Value → Bool
  | .agg cs => plains cs.toList
  | v => plain1 v
def Env.eval (e : Env) : Operand → Value
  | .tmp t => e.get t
  | .const v => bif plainC v then v else undef
  | .global _ => undef
  | .func f => .func (.func f) #[] #[]

/-! ### operations -/
def most : Nat := 1099511627776
abbrev Orc (β : Type) := FuncId → List Value → GH → (Value → GH → Option β) → Option β
inductive Kd0 | pure | alloc | read | eff
def opKind (P : Program) : Op → Kd0
  | .convert s d _ => (match P.underlying s, P.underlying d with | some (.int _), _ => .pure | some .string, some .string => .pure | _, _ => .eff)
  | .alloc _ | .box .. | .buildSlice .. | .makeSlice .. => .alloc
  | .load .. => .read
  | .store .. => .eff
  | .makeMap .. | .lookup .. | .mapUpdate .. | .insert .. => .eff
  | .call { callee := .builtin .len, .. } | .call { callee := .builtin .max, .. } | .call { callee := .builtin .min, .. } => .pure
  | .call _ => .eff
  | _ => .pure

section
variable {β : Type} (P : Program)
def gcmp (op : BinOp) (x y : Int) : Option Bool := match op with
  | .eql => some (x == y) | .neq => some (x != y) | .lss => some (decide (x < y)) | .leq => some (decide (x ≤ y)) | .gtr => some (decide (x > y)) | .geq => some (decide (x ≥ y)) | _ => none
def gbits (op : BinOp) (k : IntKind) (x y : Int) : Option Int := match op with
  | .and => some (k.wrap (BitVec.ofInt k.bits x &&& BitVec.ofInt k.bits y).toNat)
  | .or => some (k.wrap (BitVec.ofInt k.bits x ||| BitVec.ofInt k.bits y).toNat)
  | .xor => some (k.wrap (BitVec.ofInt k.bits x ^^^ BitVec.ofInt k.bits y).toNat)
  | .andNot => some (k.wrap (BitVec.ofInt k.bits x &&& ~~~ BitVec.ofInt k.bits y).toNat)
  | _ => none
def shlI (k : IntKind) (x y : Int) : Int := k.wrap (x * 2 ^ min y.toNat k.bits)
def shrI (k : IntKind) (x y : Int) : Int := x.fdiv (2 ^ min y.toNat k.bits)
def gbin (op : BinOp) (x y : Value) (K : Value → Option β) : Option β := match x, y with
  | .int k a, .int k' b => (match op with
    | .shl => bif decide (b < 0) then none else K (.int k (shlI k a b))
    | .shr => bif decide (b < 0) then none else K (.int k (shrI k a b))
    | .add => bif decide (k = k') then K (.int k (k.wrap (a + b))) else none
    | .sub => bif decide (k = k') then K (.int k (k.wrap (a - b))) else none
    | .mul => bif decide (k = k') then K (.int k (k.wrap (a * b))) else none
    | .quo => bif decide (k = k') then (bif decide (b = 0) then none else K (.int k (k.wrap (a.tdiv b)))) else none
    | .rem => bif decide (k = k') then (bif decide (b = 0) then none else K (.int k (a.tmod b))) else none
    | .and | .or | .xor | .andNot => bif decide (k = k') then (match gbits op k a b with | some n => K (.int k n) | none => none) else none
    | _ => bif decide (k = k') then (match gcmp op a b with | some r => K (.bool r) | none => none) else none)
  | .bool a, .bool b => (match op with | .eql => K (.bool (a == b)) | .neq => K (.bool (!(a == b))) | _ => none)
  | .pointer a, .pointer none => (match op with | .eql => K (.bool a.isNone) | .neq => K (.bool (!a.isNone)) | _ => none)
  | .slice a _ _, .slice none _ _ => (match op with | .eql => K (.bool a.isNone) | .neq => K (.bool (!a.isNone)) | _ => none)
  | _, _ => none
/-- the types of operands that '==' may meet here -/
def eqOk (op : BinOp) (t : TypeId) (x : Value) : Bool := match op with
  | .eql | .neq => (match P.underlying t, x with
    | some (.int _), .int _ _ => true | some .bool, .bool _ => true | some (.pointer _), .pointer _ => true | some (.slice _), .slice _ _ _ => true | _, _ => false)
  | _ => true
/-- bytes compared, and which are ahead -/
def beqS (a b : ByteArray) : Bool := a.data.toList == b.data.toList
def ltS : List UInt8 → List UInt8 → Bool
  | _, [] => false
  | [], _ :: _ => true
  | a :: x, b :: y => decide (a < b) || (a == b && ltS x y)
/-- '==' of values of a type, part by part -/
def geqFs (E : TypeId → Value → Value → (Bool → Option β) → Option β) (xs ys : List Value) : List Field → (Bool → Option β) → Option β
  | [], K => K true
  | f :: r, K => bif f.name == "_" then none else exCells P f.type xs f.offset fun a => exCells P f.type ys f.offset fun b => E f.type a b fun p => geqFs E xs ys r fun q => K (p && q)
def geqIs (E : Value → Value → (Bool → Option β) → Option β) (e : TypeId) (z : Nat) (xs ys : List Value) : Nat → Nat → (Bool → Option β) → Option β
  | 0, _, K => K true
  | n + 1, i, K => exCells P e xs (i * z) fun a => exCells P e ys (i * z) fun b => E a b fun p => geqIs E e z xs ys n (i + 1) fun q => K (p && q)
def geqC : Nat → TypeId → Value → Value → (Bool → Option β) → Option β
  | 0, _, _, _, _ => none
  | d + 1, t, x, y, K => match P.underlying t, x, y with
    | some .bool, .bool a, .bool b => K (a == b)
    | some (.int _), .int k a, .int k' b => bif decide (k = k') then K (a == b) else none
    | some .string, .string a, .string b => K (beqS a b)
    | some (.struct fs), .agg xs, .agg ys => bif P.stoodInHeld t then none else geqFs P (geqC d) xs.toList ys.toList fs.toList K
    | some (.array n e), .agg xs, .agg ys => (match sizeT P e with | some z => geqIs P (geqC d e) e z xs.toList ys.toList n 0 K | none => none)
    | _, _, _ => none
/-- a key that may be one -/
def gkeyFs (E : TypeId → Value → Option β → Option β) (xs : List Value) : List Field → Option β → Option β
  | [], K => K
  | f :: r, K => bif f.name == "_" then none else exCells P f.type xs f.offset fun a => E f.type a (gkeyFs E xs r K)
def gkeyIs (E : Value → Option β → Option β) (e : TypeId) (z : Nat) (xs : List Value) : Nat → Nat → Option β → Option β
  | 0, _, K => K
  | n + 1, i, K => exCells P e xs (i * z) fun a => E a (gkeyIs E e z xs n (i + 1) K)
def gkeyC : Nat → TypeId → Value → Option β → Option β
  | 0, _, _, _ => none
  | d + 1, t, x, K => match P.underlying t, x with
    | some .bool, _ | some (.int _), _ | some .string, _ => K
    | some (.struct fs), .agg xs => gkeyFs P (gkeyC d) xs.toList fs.toList K
    | some (.array n e), .agg xs => (match sizeT P e with | some z => gkeyIs P (gkeyC d e) e z xs.toList n 0 K | none => none)
    | _, _ => none
/-- the entry of a key -/
def gfind (t : TypeId) (k : Value) : List (Value × Value) → Nat → (Option (Nat × Value) → Option β) → Option β
  | [], _, K => K none
  | (k', v) :: r, i, K => geqC P 16 t k k' fun b => bif b then K (some (i, v)) else gfind t k r (i + 1) K
def leafB : Value → Value → Bool
  | .bool a, .bool b => a == b
  | .int k a, .int k' b => decide (k = k') && (a == b)
  | .string a, .string b => beqS a b
  | _, _ => false
def leafsB : List Value → List Value → Bool
  | [], [] => true
  | a :: x, b :: y => leafB a b && leafsB x y
  | _, _ => false
/-- the same key, bit by bit -/
def sameG : Value → Value → Bool
  | .agg xs, .agg ys => leafsB xs.toList ys.toList
  | a, b => leafB a b
def gmapOf (x : Value) (h : GH) (K : List (Value × Value) → Option β) : Option β := match x with
  | .map none => K []
  | .map (some g) => (match h.look g with | some (.map es) => K es | _ => none)
  | _ => none
def gstr (op : BinOp) (a b : ByteArray) (K : Value → Option β) : Option β := match op with
  | .eql => K (.bool (beqS a b))
  | .neq => K (.bool (!(beqS a b)))
  | .lss => K (.bool (ltS a.data.toList b.data.toList))
  | .add => bif decide (((a.size + b.size : Nat) : Int) ≤ 9223372036854775807) then K (.string (a ++ b)) else none
  | _ => none
def gbinX (op : BinOp) (t : TypeId) (x y : Value) (K : Value → Option β) : Option β := match x, y with
  | .agg _, .agg _ => (match op with
    | .eql => bif P.eqGuardType P.depth t then none else geqC P 16 t x y fun b => K (.bool b)
    | .neq => bif P.eqGuardType P.depth t then none else geqC P 16 t x y fun b => K (.bool (!b))
    | _ => none)
  | .string a, .string b => gstr op a b K
  | _, _ => bif eqOk P op t x then gbin op x y K else none
def gun (op : UnOp) (x : Value) (K : Value → Option β) : Option β := match op, x with
  | .neg, .int k n => K (.int k (k.wrap (0 - n)))
  | .xor, .int k n => (match gbits .xor k (if k.signed then -1 else k.max) n with | some m => K (.int k m) | none => none)
  | .not, .bool b => K (.bool !b)
  | _, _ => none
def gconv (src dst : TypeId) (x : Value) (K : Value → Option β) : Option β := match P.underlying dst, x with
  | some (.int k), .int _ n => (match P.underlying src with | some _ => K (.int k (k.wrap n)) | none => none)
  | some .string, .string s => (match P.underlying src with | some .string => K (.string s) | _ => none)
  | _, _ => none
/-- bytes of a text, as cells -/
def bcells (s : ByteArray) : List Value := s.data.toList.map fun b => .int .u8 b.toNat
def exBs : List Value → (List Int → Option β) → Option β
  | [], K => K []
  | .int .u8 n :: r, K => exBs r fun l => K (n :: l)
  | _ :: _, _ => none
def bytesB (xs : List Int) : ByteArray := ⟨(xs.map fun n => UInt8.ofNat n.toNat).toArray⟩
def gfieldAddr (s : TypeId) (x : Value) (i : Nat) (K : Value → Option β) : Option β := match P.underlying s, x with
  | some (.struct fs), .pointer p => (match nth fs.toList i with
    | some f => (match sizeT P f.type with
      | some n => (bif Nat.beq n 0 then none else exA p fun g o => K (.pointer (some ⟨g, o + f.offset, none⟩)))
      | none => none)
    | _ => none)
  | _, _ => none
def gfield (s : TypeId) (x : Value) (i : Nat) (K : Value → Option β) : Option β := match P.underlying s, x with
  | some (.struct fs), .agg cs => (match nth fs.toList i with
    | some f => exCells P f.type cs.toList f.offset K
    | none => none)
  | _, _ => none
/-- an index that lies within -/
def within (i : Int) (n : Nat) (K : Option β) : Option β := bif decide (0 ≤ i) then (bif decide (i < n) then K else none) else none
def gindexAddr (t : TypeId) (x i : Value) (K : Value → Option β) : Option β := match P.underlying t, x, i with
  | some (.slice e), .slice a n _, .int _ j => (match sizeT P e with
    | some z => exA a fun g o => within j n (K (.pointer (some ⟨g, o + j.toNat * z, none⟩)))
    | _ => none)
  | some (.array n e), .pointer a, .int _ j => (match sizeT P e with
    | some z => exA a fun g o => within j n (K (.pointer (some ⟨g, o + j.toNat * z, none⟩)))
    | _ => none)
  | _, _, _ => none
def byteAt (s : ByteArray) (i : Int) (K : Int → Option β) : Option β := match (if 0 ≤ i then s[i.toNat]? else none) with | some b => K b.toNat | none => none
def gindex (t : TypeId) (x i : Value) (K : Value → Option β) : Option β := match P.underlying t, x, i with
  | some (.array n e), .agg cs, .int _ j => (match sizeT P e with
    | some z => within j n (exCells P e cs.toList (j.toNat * z) K)
    | none => none)
  | some .string, .string s, .int _ j => byteAt s j fun c => K (.int .u8 c)
  | _, _, _ => none
/-- the bounds of x[lo:hi:mx] over n things of at most c -/
def gbound (v : Option Value) (dflt : Nat) (le : Nat) (K : Nat → Option β) : Option β := match v with
  | none => K dflt
  | some (.int _ i) => bnd i le K
  | some _ => none
def addO (a : Option Addr) (k : Nat) : Option Addr := match a with | none => none | some a => some ⟨a.block, a.off + k, a.spot⟩
def gslice (t : TypeId) (x : Value) (lo hi mx : Option Value) (K : Value → Option β) : Option β := bif mx.isSome && hi.isNone then none else match P.underlying t, x with
  | some (.slice e), .slice a n c => (match sizeT P e with
    | some z => bif Nat.beq z 0 then none else gbound mx c c fun m => gbound hi n m fun h => gbound lo 0 h fun l => K (.slice (addO a (l * z)) (h - l) (m - l))
    | none => none)
  | some (.array n e), .pointer a => (match sizeT P e with
    | some z => exA a fun g o => gbound mx n n fun m => gbound hi n m fun h => gbound lo 0 h fun l =>
        K (.slice (some ⟨g, bif Nat.beq m l then o else o + l * z, none⟩) (h - l) (m - l))
    | _ => none)
  | some .string, .string s => (match mx with
    | some _ => none
    | none => gbound hi s.size s.size fun h => gbound lo 0 h fun l => K (.string (s.extract l h)))
  | _, _ => none
def gextract (x : Value) (i : Nat) (K : Value → Option β) : Option β := match x with
  | .tuple vs => (bif Nat.ble 2 vs.toList.length then (match nth vs.toList i with | some v => K v | none => none) else none)
  | _ => none
def gnilCheck (x : Value) (K : Value → Option β) : Option β := match x with
  | .pointer p => exA p fun g o => K (.pointer (some ⟨g, o, none⟩))
  | _ => none
def gpick (c a b : Value) (K : Value → Option β) : Option β := match c with
  | .bool t => bif t then K a else K b
  | _ => none
def glen (t : TypeId) (x : Value) (K : Value → Option β) : Option β := match P.underlying t, x with
  | some .string, .string s => K (.int .i64 s.size)
  | some (.slice _), .slice _ n _ => K (.int .i64 n)
  | some (.array n _), _ => K (.int .i64 n)
  | _, _ => none
def gmx (mxx : Bool) (x y : Value) (K : Value → Option β) : Option β := match x, y with
  | .int k a, .int k' b => bif decide (k = k') then K (.int k (if (if mxx then b > a else b < a) then b else a)) else none
  | _, _ => none
def gmxs (mxx : Bool) : List Value → Value → (Value → Option β) → Option β
  | [], x, K => K x
  | y :: r, x, K => gmx mxx x y fun z => gmxs mxx r z K
/-- cells laid over the zero -/
def gfill (place : Nat → Option (Nat × Nat)) : List (Nat × Value) → List Value → (List Value → Option β) → Option β
  | [], cs, K => K cs
  | (i, v) :: r, cs, K => match place i with
    | none => none
    | some (o, n) => (bif Nat.beq (vcells v).length n && Nat.ble (o + n) cs.length && allCells (vcells v) then gfill place r (nlay cs o (vcells v)) K else none)
def places (P : Program) (fs : List Field) (i : Nat) : Option (Nat × Nat) := match nth fs i with
  | some f => (match sizeT P f.type with | some n => some (f.offset, n) | none => none)
  | none => none
def gbuild (t : TypeId) (parts : List (Nat × Value)) (K : Value → Option β) : Option β := match P.underlying t, zeroT P t with
  | some (.struct fs), some z => (bif plainC z && fs.toList.all (fun f => (sizeT P f.type).isSome) then gfill (places P fs.toList) parts (vcells z) fun cs => K (.agg cs.toArray) else none)
  | some (.array _ e), some z => (match sizeT P e with
    | some n => (bif plainC z then gfill (fun i => some (i * n, n)) parts (vcells z) fun cs => K (.agg cs.toArray) else none)
    | none => none)
  | _, _ => none
/-- a value by its type (as castV; here ahead of it) -/
def castV0 (t : TypeId) (v : Value) (K : Value → Option β) : Option β := match P.underlying t with
  | none => none
  | some d => bif aggD d then none else exK (ckD d) (some v) K
def glookup (xT : TypeId) (x k : Value) (ok : Bool) (h : GH) (K : Value → Option β) : Option β := match P.underlying xT with
  | some (.map kt et) => gmapOf x h fun es => gkeyC P 16 kt k (gfind P kt k es 0 fun o => match o with
    | some (_, v) => castV0 P et v fun v => K (bif ok then .tuple #[v, .bool true] else v)
    | none => (match zeroT P et with | some z => (bif plainC z then K (bif ok then .tuple #[z, .bool false] else z) else none) | none => none))
  | _ => none
def gmapPut (mT : TypeId) (x k v : Value) (h : GH) (K : GH → Option β) : Option β := match P.underlying mT, x with
  | some (.map kt _), .map (some g) => (match h.look g with
    | some (.map es) => gkeyC P 16 kt k (gfind P kt k es 0 fun o => match o with
      | none => K (h.put g (some (.map (es ++ [(k, v)]))))
      | some (i, _) => (match nth es i with
        | some (k', _) => bif sameG k' k then K (h.put g (some (.map (nset es i (k, v))))) else none
        | none => none))
    | _ => none)
  | _, _ => none
def evParts (e : Env) : List (Nat × Operand) → List (Nat × Value)
  | [] => []
  | (i, x) :: r => (i, e.eval x) :: evParts e r
def evs (e : Env) : List Operand → List Value
  | [] => []
  | x :: r => e.eval x :: evs e r
def gmake (z b : Nat) (v : Value) (l c : Int) (h : GH) (K : Sl → GH → Option β) : Option β :=
    bif decide (0 ≤ l) then (bif decide (l ≤ c) then (bif decide (((b : Int) + 1) * c ≤ most) then
      gnew (reps c.toNat (vcells v)) z h fun g h' => K ⟨some ⟨g, 0, none⟩, l.toNat, c.toNat⟩ h' else none) else none) else none
/-- the things that a slice holds -/
def slCells (s : Sl) (z : Nat) (h : GH) (K : List Value → Option β) : Option β := match s.a with
  | none => bif Nat.beq s.n 0 then K [] else none
  | some _ => exA s.a fun g o => (match nsub (rowCells (h.look g)) o (s.n * z) with | some vs => K vs | none => none)
/-- append: within what the slice holds, or into a new block, and then the elder one is no more if it may have been taken on -/
def gapp (z by_ : Nat) (s : Sl) (news : List Value) (m : Nat) (h : GH) (K : Sl → GH → Option β) : Option β :=
      bif Nat.ble (s.n + m) s.c then (bif Nat.beq m 0 then K s h else
        exA s.a fun g o => gput g (o + s.n * z) news h fun h' => K ⟨s.a, s.n + m, s.c⟩ h')
      else bif Nat.ble ((s.n + m) * (by_ + 1)) most then
        slCells s z h fun olds => (match s.a with
          | none => bif Nat.beq s.c 0 then gnew (olds ++ news) z h fun g h' => K ⟨some ⟨g, 0, none⟩, s.n + m, s.n + m⟩ h' else none
          | some _ => exA s.a fun g o => (match h.look g with
            | some (.row b) => (bif Nat.beq s.c 0 && !Nat.beq o 0 then none else bif Nat.beq b.esz 0 then gnew (olds ++ news) z h fun g h' => K ⟨some ⟨g, 0, none⟩, s.n + m, s.n + m⟩ h'
                else bif b.ro || !Nat.beq b.esz z || !Nat.beq o 0 then none
                else gnew (olds ++ news) z (h.put g none) fun g h' => K ⟨some ⟨g, 0, none⟩, s.n + m, s.n + m⟩ h')
            | _ => none))
      else none
/-- a slice appended to a slice -/
def gappS (z by_ : Nat) (s x : Sl) (h : GH) (K : Sl → GH → Option β) : Option β := slCells x z h fun news => gapp z by_ s news x.n h K
def gcopy (z : Nat) (d s : Sl) (h : GH) (K : Int → GH → Option β) : Option β := slCells s z h fun cs =>
  bif Nat.beq (min s.n d.n) 0 then K 0 h else exA d.a fun g o => gput g o (ntake (min s.n d.n * z) cs) h fun h' => K (min s.n d.n : Nat) h'
/-- a row marked as a text's -/
def gfrz (g n : Nat) (h : GH) (K : Option β) : Option β := match h.look g with
  | some (.row b) => bif !b.ro && Nat.blt 0 b.cells.length && Nat.blt 0 n then K else none
  | _ => none
/-- conversions: those of texts and rows of bytes make, read -/
def gconvX (s d : TypeId) (x : Value) (h : GH) (K : Value → GH → Option β) : Option β := match P.underlying s, P.underlying d, x with
  | some (.slice _), some (.slice e), .slice (some a) n c => (match P.underlying e with
    | some (.int .u8) => bif Nat.beq s d then gfrz a.block n h (K (.slice (some a) n c) h) else none
    | _ => none)
  | some .string, some (.slice e), .string t => (match P.underlying e, sizeT P e with
    | some (.int .u8), some 1 => bif Nat.ble (t.size * 2) most then gnew (bcells t) 1 h fun g h' => K (.slice (some ⟨g, 0, none⟩) t.size t.size) h' else none
    | _, _ => none)
  | some (.slice e), some .string, .slice a n c => (match P.underlying e with
    | some (.int .u8) => slCells ⟨a, n, c⟩ 1 h fun vs => exBs vs fun xs => K (.string (bytesB xs)) h
    | _ => none)
  | _, _, _ => gconv P s d x fun v => K v h
def gcall (C : Orc β) (f : Value) (args : List Value) (h : GH) (K : Value → GH → Option β) : Option β := match f with
  | .func (.func f) first captured => C f (first.toList ++ args ++ captured.toList) h K
  | _ => none
def elemT (P : Program) (t : TypeId) : Option TypeId := match P.underlying t with | some (.slice e) => some e | _ => none

def gop (C : Orc β) (o : Oper) (e : Env) (h : GH) (K : Value → GH → Option β) : Option β := match o.op with
  | .move x | .assign x => K (e.eval x) h
  | .pick c a b => gpick (e.eval c) (e.eval a) (e.eval b) fun v => K v h
  | .binOp op t x y _ => gbinX P op t (e.eval x) (e.eval y) (fun v => K v h)
  | .unOp op _ x => gun op (e.eval x) fun v => K v h
  | .convert s d x => gconvX P s d (e.eval x) h K
  | .fieldAddr s x i => gfieldAddr P s (e.eval x) i fun v => K v h
  | .field s x i => gfield P s (e.eval x) i fun v => K v h
  | .indexAddr t x i => gindexAddr P t (e.eval x) (e.eval i) fun v => K v h
  | .index t x i => gindex P t (e.eval x) (e.eval i) fun v => K v h
  | .slice t x lo hi mx => gslice P t (e.eval x) (lo.map e.eval) (hi.map e.eval) (mx.map e.eval) fun v => K v h
  | .extract t i => gextract (e.eval t) i fun v => K v h
  | .nilCheck x => gnilCheck (e.eval x) fun v => K v h
  | .build t ps => gbuild P t (evParts e ps.toList) fun v => K v h
  | .makeFunc fn fs cs => K (.func fn (evs e fs.toList).toArray (evs e cs.toList).toArray) h
  | .alloc t => (match zeroT P t with | some z => (bif plainC z then gnew (vcells z) 0 h fun g h' => K (.pointer (some ⟨g, 0, none⟩)) h' else none) | none => none)
  | .box _ x => gnew (vcells (e.eval x)) 0 h fun g h' => K (.pointer (some ⟨g, 0, none⟩)) h'
  | .buildSlice t n ps => (match elemT P t with
    | some el => (match sizeT P el, zeroT P el with
      | some z, some v => (bif plainC v && Nat.beq (vcells v).length z && Nat.blt 0 z && Nat.ble (n * z) 65536 then gfill (fun i => some (i * z, z)) (evParts e ps.toList) (reps n (vcells v)) fun cs => gnew cs z h fun g h' => K (.slice (some ⟨g, 0, none⟩) n n) h' else none)
      | _, _ => none)
    | none => none)
  | .makeSlice t l c => (match elemT P t with
    | some el => (match e.eval l, e.eval c, sizeT P el, zeroT P el, bytesT P el with
      | .int _ l, .int _ c, some z, some v, some b => (bif plainC v && Nat.beq (vcells v).length z && Nat.blt 0 z then gmake z b v l c h fun s h' => K (.slice s.a s.n s.c) h' else none)
      | _, _, _, _, _ => none)
    | none => none)
  | .makeMap t rs => (match P.underlying t, rs.map e.eval with
    | some (.map _ _), none | some (.map _ _), some (.int _ _) => K (.map (some h.next)) (h.push (.map []))
    | _, _ => none)
  | .lookup t x k ok => glookup P t (e.eval x) (e.eval k) ok h fun v => K v h
  | .mapUpdate t m k v | .insert t m k v => gmapPut P t (e.eval m) (e.eval k) (e.eval v) h fun h' => K undef h'
  | .load t x => (match e.eval x with | .pointer p => exA p fun g o => gload P t g o h fun v => K v h | _ => none)
  | .store t x v => (match e.eval x, sizeT P t with
    | .pointer p, some n => (bif Nat.beq (vcells (e.eval v)).length n then exA p fun g o => gput g o (vcells (e.eval v)) h fun h' => K undef h' else none)
    | _, _ => none)
  | .call c => (match c.callee with
    | .value f => gcall C (e.eval f) (evs e c.args.toList) h K
    | .builtin .len => (match evs e c.args.toList, c.argTypes.toList with | [x], [t] => glen P t x fun v => K v h | _, _ => none)
    | .builtin .max => (match evs e c.args.toList with | x :: r => gmxs true r x fun v => K v h | _ => none)
    | .builtin .min => (match evs e c.args.toList with | x :: r => gmxs false r x fun v => K v h | _ => none)
    | .builtin .append => (match evs e c.args.toList, c.argTypes.toList with
      | [.slice a n c, .slice a' n' c'], [t, u] => (match elemT P t with
        | some el => (match sizeT P el, bytesT P el, zeroT P el with
          | some z, some b, some v => (bif Nat.beq t u && Nat.beq (vcells v).length z && Nat.blt 0 z then gappS z b ⟨a, n, c⟩ ⟨a', n', c'⟩ h fun s h' => K (.slice s.a s.n s.c) h' else none)
          | _, _, _ => none)
        | _ => none)
      | _, _ => none)
    | .builtin .copy => (match evs e c.args.toList, c.argTypes.toList with
      | [.slice a n c, .slice a' n' c'], t :: _ => (match elemT P t with
        | some el => (match sizeT P el with | some z => (bif Nat.blt 0 z then gcopy z ⟨a, n, c⟩ ⟨a', n', c'⟩ h fun m h' => K (.int .i64 m) h' else none) | none => none)
        | none => none)
      | _, _ => none)
    | _ => none)
  | _ => none

/-! ### regions -/
def dstOf (ops : List Oper) (j : Nat) : Option Tmp := match nth ops j with | some o => o.dst | none => none
def dstOk (N : Nat) (o : Oper) : Bool := match o.dst with | some d => Nat.blt d N | none => true
def gops (C : Orc β) (N : Nat) (all : List Oper) : List Oper → Env → GH → (Env → GH → Option β) → Option β
  | [], e, h, K => K e h
  | o :: r, e, h, K => bif dstOk N o then (match o.guard with
    | none => gop P C o e h fun v h' => gops C N all r (e.put o.dst v) h' K
    | some (j, want) => (match dstOf all j with
      | none => none
      | some t => (match e.get t with
        | .bool b => bif b then (bif want then gop P C o ((t, .bool true) :: e) h fun v h' => gops C N all r (Env.put ((t, .bool true) :: e) o.dst v) h' K
              else gops C N all r (Env.put ((t, .bool true) :: e) o.dst skipV) h K)
            else (bif want then gops C N all r (Env.put ((t, .bool false) :: e) o.dst skipV) h K
              else gop P C o ((t, .bool false) :: e) h fun v h' => gops C N all r (Env.put ((t, .bool false) :: e) o.dst v) h' K)
        | v => bif isSkip v then gops C N all r (e.put o.dst skipV) h K else none))) else none
end
end Go.Proofs.Ytephmpbccajaaaa.Gx

