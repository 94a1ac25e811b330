/- The plain machine, continued: regions that draw their order, code, functions. Definitions alone. No condition. -/
import Derived.Test.YtephmpbccajaaaaGxA
namespace Go.Proofs.Ytephmpbccajaaaa.Gx
open Go
set_option linter.unusedVariables false

/-! ### what an operation waits for, as bits -/
def bindE (e : Edge) : Bool := Region.binds .any e
def ancOne (acc : List Nat) : List Edge → Nat
  | [] => 0
  | e :: r => bif bindE e then (2 ^ e.on ||| (match nth acc e.on with | some b => b | none => 0) ||| ancOne acc r) else ancOne acc r
/-- bits of the operations ahead are in acc, in order -/
def ancs : List Oper → List Nat → List Nat
  | [], acc => acc
  | o :: r, acc => ancs r (acc ++ [ancOne acc o.after.toList])
def waits (bits : List Nat) (j i : Nat) : Bool := match nth bits j with | some b => b.testBit i | none => false
def tmpsOf : List Operand → List Tmp
  | [] => []
  | .tmp t :: r => t :: tmpsOf r
  | _ :: r => tmpsOf r
def namesOf (all : List Oper) (o : Oper) : List Tmp :=
  (match o.dst with | some d => [d] | none => []) ++ (match o.guard with | some (j, _) => (match dstOf all j with | some t => [t] | none => []) | none => []) ++ tmpsOf o.op.operands.toList
def memN (t : Nat) : List Nat → Bool
  | [] => false
  | x :: r => Nat.beq x t || memN t r
/-- whoever writes a slot that operation j names comes before it or behind it for certain -/
def tmpsOkAt (bits : List Nat) (names : List Tmp) (j : Nat) : List Oper → Nat → Bool
  | [], _ => true
  | o :: r, i => (match o.dst with
      | some d => !memN d names || Nat.beq i j || waits bits (max i j) (min i j)
      | none => true) && tmpsOkAt bits names j r (i + 1)
def tmpsOk (bits : List Nat) (all : List Oper) : List Oper → Nat → Bool
  | [], _ => true
  | o :: r, j => tmpsOkAt bits (namesOf all o) j all 0 && tmpsOk bits all r (j + 1)
def edgesOk : List Oper → Nat → Bool
  | [], _ => true
  | o :: r, j => (o.after.toList.all fun e => !bindE e || Nat.blt e.on j) && (match o.guard with | some (g, _) => o.after.toList.any fun e => bindE e && Nat.beq e.on g | none => true) && edgesOk r (j + 1)
def isEff (P : Program) (o : Oper) : Bool := match opKind P o.op with | .eff => true | _ => false
/-- those that act wait for each other in the text's order -/
def effsOk (P : Program) (bits : List Nat) : List Oper → Nat → List Nat → Bool
  | [], _, _ => true
  | o :: r, j, seen => bif isEff P o then seen.all (fun i => waits bits j i) && effsOk P bits r (j + 1) (j :: seen) else effsOk P bits r (j + 1) seen
def noSelect (ops : List Oper) : Bool := ops.all fun o => match o.op with | .select .. => false | _ => true
def drawOk (P : Program) (ops : List Oper) : Bool :=
  let bits := ancs ops []
  edgesOk ops 0 && tmpsOk bits ops ops 0 && effsOk P bits ops 0 [] && noSelect ops
def apartB (bits : List Nat) (i j : Nat) : Bool := !(waits bits (max i j) (min i j))

/-! ### a cell that reads the same in two memories -/
def veq : Value → Value → Bool
  | .bool a, .bool b => a == b
  | .int k a, .int k' b => decide (k = k') && decide (a = b)
  | .string a, .string b => decide (a = b)
  | .pointer a, .pointer b => decide (a = b)
  | .slice a n c, .slice a' n' c' => decide (a = a') && Nat.beq n n' && Nat.beq c c'
  | .nilFunc, .nilFunc => true
  | .nilIface, .nilIface => true
  | .map a, .map b => decide (a = b)
  | _, _ => false
def veqO : Option Value → Option Value → Bool
  | some a, some b => veq a b
  | _, _ => false
def sameAt (g : Nat) : Nat → Nat → GH → GH → Bool
  | _, 0, _, _ => true
  | o, n + 1, h, h' => veqO (h.cell ⟨g, o, none⟩) (h'.cell ⟨g, o, none⟩) && sameAt g (o + 1) n h h'

section
variable {β : Type} (P : Program)
abbrev Rds := List (Nat × Option Addr × Nat)
abbrev Efs := List (Nat × GH × GH)
def loadLen (t : TypeId) : Nat := match P.underlying t with | some d => (bif aggD d then (match sizeT P t with | some n => n | none => 0) else 1) | none => 0
def rdOf (i : Nat) (o : Oper) (e : Env) (rd : Rds) : Rds := match o.op with
  | .load t x => (match e.eval x with | .pointer p => (i, p, loadLen P t) :: rd | _ => rd)
  | _ => rd
def efOf (i : Nat) (o : Oper) (h h' : GH) (ef : Efs) : Efs := bif isEff P o then (i, h, h') :: ef else ef
def gopsD (C : Orc β) (N : Nat) (all : List Oper) : List Oper → Nat → Env → GH → Rds → Efs → (Env → GH → Rds → Efs → Option β) → Option β
  | [], _, e, h, rd, ef, K => K e h rd ef
  | o :: r, i, e, h, rd, ef, K => bif dstOk N o then (match o.guard with
    | none => gop P C o e h fun v h' => gopsD C N all r (i + 1) (e.put o.dst v) h' (rdOf P i o e rd) (efOf P i o h h' ef) K
    | some (j, want) => (match dstOf all j with
      | none => none
      | some t => (match e.get t with
        | .bool b => bif b then (bif want then gop P C o ((t, .bool true) :: e) h fun v h' => gopsD C N all r (i + 1) (Env.put ((t, .bool true) :: e) o.dst v) h' (rdOf P i o ((t, .bool true) :: e) rd) (efOf P i o h h' ef) K
              else gopsD C N all r (i + 1) (Env.put ((t, .bool true) :: e) o.dst skipV) h rd ef K)
            else (bif want then gopsD C N all r (i + 1) (Env.put ((t, .bool false) :: e) o.dst skipV) h rd ef K
              else gop P C o ((t, .bool false) :: e) h fun v h' => gopsD C N all r (i + 1) (Env.put ((t, .bool false) :: e) o.dst v) h' (rdOf P i o ((t, .bool false) :: e) rd) (efOf P i o h h' ef) K)
        | v => bif isSkip v then gopsD C N all r (i + 1) (e.put o.dst skipV) h rd ef K else none))) else none
def chkOne (bits : List Nat) (i : Nat) (p : Option Addr) (n : Nat) : Efs → Option β → Option β
  | [], K => K
  | (j, h, h') :: r, K => bif apartB bits i j then (exA p fun g o => bif sameAt g o n h h' then chkOne bits i p n r K else none) else chkOne bits i p n r K
def chkAll (bits : List Nat) (ef : Efs) : Rds → Option β → Option β
  | [], K => K
  | (i, p, n) :: r, K => chkOne bits i p n ef (chkAll bits ef r K)
def isDefer : Op → Bool
  | .defer _ => true
  | _ => false
def noDefer : List Oper → Bool
  | [] => true
  | o :: r => bif isDefer o.op then false else noDefer r
def gregion (C : Orc β) (N : Nat) (ops : List Oper) (d : Bool) (e : Env) (h : GH) (K : Env → GH → Option β) : Option β :=
  bif noDefer ops then (bif d then (bif drawOk P ops then gopsD P C N ops ops 0 e h [] [] (fun e h rd ef => chkAll (ancs ops []) ef rd (K e h)) else none)
  else gops P C N ops ops e h K) else none

/-! ### code -/
/-- what a slot holds: a value of a type; a function value of a known form -/
inductive CT | ty (t : TypeId) | fn (f : Nat) (fs cs : List CK) | nilf
/-- loops: the region at the head; the slots that live there; those that live behind each way out, with their types (the last: behind a return) · joins: the region at the head, the slots that live there -/
structure Hints where
  loops : List (Nat × List Nat × List (Nat × List (Nat × CT)) × Option (List (Nat × CT)))
  joins : List (Nat × List Nat)
  back : List Nat
/-- a loop over slices.Backward: through the slice s from its end; what it goes through stays -/
def gback (s : Sl) (gB oB : Nat) (rnd : Int → Int → GH → (GH → Option β) → Option β) : Nat → GH → (GH → Option β) → Option β
  | 0, h, K => K h
  | i + 1, h, K => exA s.a fun g o => exI .i64 (h.cell ⟨g, o + i, none⟩) fun z => rnd ((i : Nat) : Int) z h fun h' => bif sameAt gB oB 1 h h' && sameAt g o s.n h h' then gback s gB oB rnd i h' K else none
def grange (bk : List Nat) (N : Nat) (v : Value) (ps : List Nat) (rnd : Env → GH → (GH → Option β) → Option β) (e : Env) (h : GH) (K : GH → Option β) : Option β := match v, ps with
  | .func (.func f) fs cs, [p0, p1] => (match fs.toList, cs.toList with
    | [], [.pointer p] => bif memN f bk && Nat.blt p0 N && Nat.blt p1 N then exA p fun g o => exS (h.cell ⟨g, o, none⟩) fun s => bif Nat.ble s.n 4611686018427387904 then gback s g o (fun i z h K => rnd ((p1, .int .i64 z) :: (p0, .int .i64 i) :: e) h K) s.n h K else none else none
    | _, _ => none)
  | _, _ => none
def hasRange : Code → Bool
  | .seq a b => hasRange a || hasRange b
  | .cond _ a b => hasRange a || hasRange b
  | .block _ b => hasRange b
  | .loop b => hasRange b
  | .rangeFunc .. => true
  | _ => false
def lead : Code → Option Nat
  | .region id _ _ => some id
  | .seq a b => (match lead a with | some k => some k | none => lead b)
  | .cond _ a b => (match lead a with | some k => some k | none => lead b)
  | .block _ b => lead b
  | .loop b => lead b
  | _ => none
def asc {α : Type} : List (Nat × α) → Nat → Option α
  | [], _ => none
  | (k, v) :: r, t => bif Nat.beq k t then some v else asc r t
def joinE (H : Hints) (b : Code) (e : Env) : Env := match lead b with
  | none => e
  | some k => (match asc H.joins k with | some l => e.only l | none => e)
/-- a slot's value by its type -/
def castV (t : TypeId) (v : Value) (K : Value → Option β) : Option β := match P.underlying t with
  | none => none
  | some d => bif aggD d then (match sizeT P t with
    | some n => exAg v fun cs => (bif Nat.beq cs.length n then (bif Nat.ble n small && Nat.beq (flat P 4 t).length n then exN (flat P 4 t) (nth cs) 0 fun vs => K (.agg vs.toArray) else K (.agg cs.toArray)) else none)
    | none => none)
  else exK (ckD d) (some v) K
def exKs : List CK → List Value → (List Value → Option β) → Option β
  | [], l, K => (match l with | [] => K [] | _ => none)
  | k :: r, l, K => (match l with | v :: vs => exK k (some v) fun v' => exKs r vs fun vs' => K (v' :: vs') | [] => none)
/-- a function value of a known form -/
def exF (f : Nat) (fs cs : List CK) (v : Value) (K : List Value → List Value → Option β) : Option β := match v with
  | .func (.func f') a c => (bif Nat.beq f' f then exKs fs a.toList fun a' => exKs cs c.toList fun c' => K a' c' else none)
  | _ => none
def castC : CT → Value → (Value → Option β) → Option β
  | .ty t, v, K => castV P t v K
  | .nilf, v, K => (match v with | .nilFunc => K .nilFunc | _ => none)
  | .fn f fs cs, v, K => exF f fs cs v fun a c => K (.func (.func f) a.toArray c.toArray)
def castE : List (Nat × CT) → Env → (Env → Option β) → Option β
  | [], _, K => K []
  | (t, ty) :: r, e, K => castC P ty (e.get t) fun v => castE r e fun e' => K ((t, v) :: e')
def exitsK : List (Nat × List (Nat × CT)) → (Nat → Env → GH → Option β) → Nat → Env → GH → Option β
  | [], _, _, _, _ => none
  | (id, ts) :: r, K, i, e, h => bif Nat.beq i id then castE P ts e fun e' => K id e' h else exitsK r K i e h
def retK : Option (List (Nat × CT)) → (Env → GH → Option β) → Env → GH → Option β
  | none, _, _, _ => none
  | some ts, K, e, h => castE P ts e fun e' => K e' h
def gloop (body : Env → GH → (Env → GH → Option β) → (Nat → Env → GH → Option β) → (Env → GH → Option β) → Option β) (live : List Nat) : Nat → Env → GH → (Nat → Env → GH → Option β) → (Env → GH → Option β) → Option β
  | 0, _, _, _, _ => none
  | n + 1, e, h, Kx, Kr => body e h (fun e' h' => gloop body live n (e'.only live) h' Kx Kr) Kx Kr
def rounds : Nat := 9223372036854775808
def loopH (H : Hints) (b : Code) : List Nat × List (Nat × List (Nat × CT)) × Option (List (Nat × CT)) := match lead b with
  | none => ([], [], none)
  | some k => (match asc H.loops k with | some r => r | none => ([], [], none))
def gcode (C : Orc β) (N : Nat) (H : Hints) (R : Nat) : Code → Env → GH → (Env → GH → Option β) → (Nat → Env → GH → Option β) → (Env → GH → Option β) → Option β
  | .skip, e, h, Kn, _, _ => Kn e h
  | .label _, e, h, Kn, _, _ => Kn e h
  | .region _ ops d, e, h, Kn, _, _ => gregion P C N ops.toList d e h Kn
  | .seq a b, e, h, Kn, Kx, Kr => gcode C N H R a e h (fun e' h' => gcode C N H R b (joinE H b e') h' Kn Kx Kr) Kx Kr
  | .cond c a b, e, h, Kn, Kx, Kr => (match e.eval c with
    | .bool t => bif t then gcode C N H R a e h Kn Kx Kr else gcode C N H R b e h Kn Kx Kr
    | _ => none)
  | .block id b, e, h, Kn, Kx, Kr => gcode C N H R b e h Kn (fun i e' h' => bif Nat.beq i id then Kn e' h' else Kx i e' h') Kr
  | .loop b, e, h, _, Kx, Kr => gloop (gcode C N H R b) (loopH H b).1 R (e.only (loopH H b).1) h (exitsK P (loopH H b).2.1 Kx) (retK P (loopH H b).2.2 Kr)
  | .exit id, e, h, _, Kx, _ => Kx id e h
  | .ret, e, h, _, _, Kr => Kr e h
  | .rangeFunc g ps a b, e, h, Kn, _, _ => bif hasRange a || hasRange b then none else grange H.back N (e.eval g) ps.toList (fun e h K => gcode C N H R a e h (fun e h => gcode C N H R b e h (fun _ h => K h) (fun _ _ _ => none) (fun _ _ => none)) (fun _ _ _ => none) (fun _ _ => none)) e h (fun h => Kn e h)
  | _, _, _, _, _, _ => none

/-! ### functions -/
def parE : List Value → Nat → Env
  | [], _ => []
  | v :: r, i => (i, v) :: parE r (i + 1)
def gress (e : Env) (h : GH) : List ResultVar → (List Value → Option β) → Option β
  | [], K => K []
  | .tmp t :: r, K => gress e h r fun vs => K (e.get t :: vs)
  | .cell a t :: r, K => (match e.get a with
    | .pointer p => exA p fun g o => gload P t g o h fun v => gress e h r fun vs => K (v :: vs)
    | _ => none)
def oneOf : List Value → Value
  | [v] => v
  | vs => .tuple vs.toArray
def gend (fn : Func) (K : Value → GH → Option β) (e : Env) (h : GH) : Option β := gress P e h fn.results.toList fun vs => K (oneOf vs) h
def gfun (C : Orc β) (H : Hints) (R : Nat) (fn : Func) (args : List Value) (h : GH) (K : Value → GH → Option β) : Option β := match fn.body with
  | none => none
  | some c => bif Nat.ble args.length fn.ntmps then gcode P C fn.ntmps H R c (parE args 0) h (gend P fn K) (fun _ _ _ => none) (gend P fn K) else none
end
/-! ### results by their kinds -/
section
variable {β : Type}
def asI (k : IntKind) (K : Int → GH → Option β) (v : Value) (h : GH) : Option β := exI k (some v) fun n => K n h
def asB (K : Bool → GH → Option β) (v : Value) (h : GH) : Option β := exB (some v) fun n => K n h
def asP (K : Option Addr → GH → Option β) (v : Value) (h : GH) : Option β := exP (some v) fun n => K n h
def asS (K : Sl → GH → Option β) (v : Value) (h : GH) : Option β := exS (some v) fun n => K n h
end
/-- a part of a body: false: the first of two, or what stands within -/
def at_ : List Bool → Code → Code
  | [], c => c
  | b :: r, .seq x y => at_ r (if b then y else x)
  | b :: r, .cond _ x y => at_ r (if b then y else x)
  | _ :: r, .block _ x => at_ r x
  | _ :: r, .loop x => at_ r x
  | _, c => c
end Go.Proofs.Ytephmpbccajaaaa.Gx

