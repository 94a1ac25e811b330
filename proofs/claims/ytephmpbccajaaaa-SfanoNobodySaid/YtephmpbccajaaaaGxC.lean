/- The plain machine and the model: how the two memories stand to each other, and that this lasts. No condition. -/
import Derived.Test.YtephmpbccajaaaaGxB
import Derived.Below
import Derived.Deep.MidRow
import Derived.Deep.Draws
import Derived.Laws.Entries
import Derived.ArgAppend
namespace Go.Proofs.Ytephmpbccajaaaa.Gx
open Go Go.RowKit
set_option linter.unusedVariables false

/-! ### lists -/
inductive All2 {α γ : Type} (R : α → γ → Prop) : List α → List γ → Prop
  | nil : All2 R [] []
  | cons {a : α} {c : γ} {as : List α} {cs : List γ} (h : R a c) (t : All2 R as cs) : All2 R (a :: as) (c :: cs)
section
variable {α γ : Type} {R : α → γ → Prop}
theorem nth_eq (l : List α) : ∀ n, nth l n = l[n]? := by
  induction l with
  | nil => intro n; rfl
  | cons x r ih => intro n; cases n with | zero => rfl | succ n => simp [nth, ih]
theorem ntake_eq (l : List α) : ∀ n, ntake n l = l.take n := by
  induction l with
  | nil => intro n; cases n <;> rfl
  | cons x r ih => intro n; cases n with | zero => rfl | succ n => simp [ntake, ih]
theorem ndrop_eq (l : List α) : ∀ n, ndrop l n = l.drop n := by
  induction l with
  | nil => intro n; cases n <;> rfl
  | cons x r ih => intro n; cases n with | zero => rfl | succ n => simp [ndrop, ih]
theorem nsub_some {l m : List α} {o n : Nat} (h : nsub l o n = some m) : o + n ≤ l.length ∧ m = (l.drop o).take n := by
  unfold nsub at h
  cases hb : Nat.ble (o + n) l.length with
  | false => simp [hb] at h
  | true => simp [hb] at h; exact ⟨Nat.le_of_ble_eq_true hb, by rw [← h, ntake_eq, ndrop_eq]⟩
theorem nlay_eq (l : List α) (o : Nat) (m : List α) : nlay l o m = l.take o ++ m ++ l.drop (o + m.length) := by simp [nlay, ntake_eq, ndrop_eq]
theorem nlay_length {l : List α} {o : Nat} {m : List α} (h : o + m.length ≤ l.length) : (nlay l o m).length = l.length := by
  simp [nlay_eq]; omega
theorem nth_nlay {l m : List α} {o : Nat} (h : o + m.length ≤ l.length) (i : Nat) : nth (nlay l o m) i = if o ≤ i ∧ i < o + m.length then nth m (i - o) else nth l i := by
  have e1 : nth (nlay l o m) i = (l.take o ++ m ++ l.drop (o + m.length))[i]? := by rw [nth_eq, nlay_eq]
  rw [e1, nth_eq, nth_eq]
  have ho : (l.take o).length = o := by simp; omega
  by_cases h1 : i < o
  · rw [if_neg (by omega), List.append_assoc, List.getElem?_append_left (by omega), List.getElem?_take, if_pos h1]
  · by_cases h2 : i < o + m.length
    · rw [if_pos ⟨by omega, h2⟩, List.append_assoc, List.getElem?_append_right (by omega), ho, List.getElem?_append_left (by omega)]
    · rw [if_neg (by omega), List.getElem?_append_right (by simp; omega), List.getElem?_drop]
      congr 1
      simp
      omega
theorem All2.length {as : List α} {cs : List γ} (h : All2 R as cs) : as.length = cs.length := by induction h with | nil => rfl | cons _ _ ih => simp [ih]
theorem All2.get {as : List α} {cs : List γ} (h : All2 R as cs) : ∀ {i : Nat} {a : α}, nth as i = some a → ∃ c, nth cs i = some c ∧ R a c := by
  induction h with
  | nil => intro i a h; cases h
  | cons h _ ih => intro i a hi; cases i with
    | zero => cases hi; exact ⟨_, rfl, h⟩
    | succ i => exact ih hi
theorem All2.of {as : List α} : ∀ {cs : List γ}, as.length = cs.length → (∀ i a c, nth as i = some a → nth cs i = some c → R a c) → All2 R as cs := by
  induction as with
  | nil => intro cs hl _; cases cs with | nil => exact .nil | cons _ _ => cases hl
  | cons a as ih => intro cs hl h; cases cs with
    | nil => cases hl
    | cons c cs => exact .cons (h 0 a c rfl rfl) (ih (by simpa using hl) fun i a' c' ha hc => h (i + 1) a' c' ha hc)
theorem All2.mono {R' : α → γ → Prop} (hr : ∀ a c, R a c → R' a c) {as : List α} {cs : List γ} (h : All2 R as cs) : All2 R' as cs := by induction h with | nil => exact .nil | cons h _ ih => exact .cons (hr _ _ h) ih
theorem All2.append {as as' : List α} {cs cs' : List γ} (h : All2 R as cs) (h' : All2 R as' cs') : All2 R (as ++ as') (cs ++ cs') := by induction h with | nil => exact h' | cons h _ ih => exact .cons h ih
theorem All2.take {as : List α} {cs : List γ} (h : All2 R as cs) : ∀ n, All2 R (as.take n) (cs.take n) := by
  induction h with
  | nil => intro n; simp; exact .nil
  | cons h _ ih => intro n; cases n with | zero => exact .nil | succ n => exact .cons h (ih n)
theorem All2.drop {as : List α} {cs : List γ} (h : All2 R as cs) : ∀ n, All2 R (as.drop n) (cs.drop n) := by
  induction h with
  | nil => intro n; simp; exact .nil
  | cons h t ih => intro n; cases n with | zero => exact .cons h t | succ n => exact ih n
end

/-! ### where a named block lies -/
structure Pl where
  blk : Nat
  off : Nat
  size : Nat
  /-- the cells up to here are the block's own -/
  ext : Nat
  esz : Nat
  ro : Bool
inductive St | unborn | live (p : Pl) | dead
abbrev Inj := Nat → St

inductive VR (ι : Inj) : Value → Value → Prop
  | un (r : Value) : VR ι (.tuple #[]) r
  | sk : VR ι (.tuple #[.tuple #[]]) (.tuple #[])
  | same (v : Value) (h : plain1 v = true) : VR ι v v
  | ptr (g o : Nat) (p : Pl) (h : ι g = .live p) : VR ι (.pointer (some ⟨g, o, none⟩)) (.pointer (some ⟨p.blk, p.off + o, none⟩))
  | ptrD (a : Addr) (r : Addr) (h : ι a.block = .dead) : VR ι (.pointer (some a)) (.pointer (some r))
  | sl (g o n c c' : Nat) (p : Pl) (h : ι g = .live p) (hc : c' = c ∨ (0 < p.esz ∧ c ≤ c' ∧ (o = 0 → p.off + c' * p.esz ≤ p.ext))) (hn : n ≤ c) : VR ι (.slice (some ⟨g, o, none⟩) n c) (.slice (some ⟨p.blk, p.off + o, none⟩) n c')
  | slE (a r : Addr) (c' : Nat) (h : a.off ≠ 0) : VR ι (.slice (some a) 0 0) (.slice (some r) 0 c')
  | slD (a : Addr) (n c c' : Nat) (r : Addr) (h : ι a.block = .dead) (hc : c ≤ c') : VR ι (.slice (some a) n c) (.slice (some r) n c')
  | map (g : Nat) (p : Pl) (h : ι g = .live p) : VR ι (.map (some g)) (.map (some p.blk))
  | mapD (g r : Nat) (h : ι g = .dead) : VR ι (.map (some g)) (.map (some r))
  | agg (cs rs : Array Value) (hl : cs.toList.length = rs.toList.length) (h : ∀ i v r, nth cs.toList i = some v → nth rs.toList i = some r → VR ι v r) : VR ι (.agg cs) (.agg rs)
  | tup (cs rs : Array Value) (hl : cs.toList.length = rs.toList.length) (h : ∀ i v r, nth cs.toList i = some v → nth rs.toList i = some r → VR ι v r) : VR ι (.tuple cs) (.tuple rs)
  | func (fn : Fn) (fs fs' cs cs' : Array Value) (hf : fs.toList.length = fs'.toList.length) (h : ∀ i v r, nth fs.toList i = some v → nth fs'.toList i = some r → VR ι v r)
      (hc : cs.toList.length = cs'.toList.length) (h' : ∀ i v r, nth cs.toList i = some v → nth cs'.toList i = some r → VR ι v r) : VR ι (.func fn fs cs) (.func fn fs' cs')

def Le (ι ι' : Inj) : Prop := ∀ g, ι g = .unborn ∨ ι' g = ι g ∨ ι' g = .dead
theorem VR.mono {ι ι' : Inj} (hl : Le ι ι') {v r : Value} (h : VR ι v r) : VR ι' v r := by
  induction h with
  | un r => exact .un r
  | sk => exact .sk
  | same v h => exact .same v h
  | ptr g o p h => rcases hl g with e | e | e
                   · rw [h] at e; cases e
                   · exact .ptr g o p (e.trans h)
                   · exact .ptrD ⟨g, o, none⟩ _ e
  | ptrD a r h => rcases hl a.block with e | e | e
                  · rw [h] at e; cases e
                  · exact .ptrD a r (e.trans h)
                  · exact .ptrD a r e
  | sl g o n c c' p h hc hn =>
    rcases hl g with e | e | e
    · rw [h] at e; cases e
    · exact .sl g o n c c' p (e.trans h) hc hn
    · exact .slD ⟨g, o, none⟩ n c c' _ e (by rcases hc with rfl | h <;> omega)
  | slE a r c' h => exact .slE a r c' h
  | slD a n c c' r h hc =>
    rcases hl a.block with e | e | e
    · rw [h] at e; cases e
    · exact .slD a n c c' r (e.trans h) hc
    · exact .slD a n c c' r e hc
  | map g p h => rcases hl g with e | e | e
                 · rw [h] at e; cases e
                 · exact .map g p (e.trans h)
                 · exact .mapD g _ e
  | mapD g r h => rcases hl g with e | e | e
                  · rw [h] at e; cases e
                  · exact .mapD g r (e.trans h)
                  · exact .mapD g r e
  | agg cs rs hl' _ ih => exact .agg cs rs hl' ih
  | tup cs rs hl' _ ih => exact .tup cs rs hl' ih
  | func fn fs fs' cs cs' hf _ hc _ ih ih' => exact .func fn fs fs' cs cs' hf ih hc ih'
theorem Le.refl (ι : Inj) : Le ι ι := fun _ => .inr (.inl rfl)

/-! ### what stands against a value, by its form -/
section
variable {ι : Inj} {r : Value}
theorem VR.int {k : IntKind} {n : Int} (h : VR ι (.int k n) r) : r = .int k n := by cases h; rfl
theorem VR.bool {b : Bool} (h : VR ι (.bool b) r) : r = .bool b := by cases h; rfl
theorem VR.str {s : ByteArray} (h : VR ι (.string s) r) : r = .string s := by cases h; rfl
theorem VR.nilP (h : VR ι (.pointer none) r) : r = .pointer none := by cases h; rfl
theorem VR.pointer {p : Option Addr} (h : VR ι (.pointer p) r) : ∃ q, r = .pointer q ∧ q.isNone = p.isNone := by cases h <;> exact ⟨_, rfl, rfl⟩
theorem VR.slice {a : Option Addr} {n c : Nat} (h : VR ι (.slice a n c) r) : ∃ q c', r = .slice q n c' ∧ q.isNone = a.isNone := by cases h <;> exact ⟨_, _, rfl, rfl⟩
theorem VR.someP {g o : Nat} (h : VR ι (.pointer (some ⟨g, o, none⟩)) r) : (∃ p, ι g = .live p ∧ r = .pointer (some ⟨p.blk, p.off + o, none⟩)) ∨ (ι g = .dead ∧ ∃ q, r = .pointer (some q)) := by
  cases h with
  | same _ h => cases h
  | ptr _ _ p h => exact .inl ⟨p, h, rfl⟩
  | ptrD _ q h => exact .inr ⟨h, q, rfl⟩
theorem VR.someS {g o n c : Nat} (h : VR ι (.slice (some ⟨g, o, none⟩) n c) r) :
    (∃ p c', ι g = .live p ∧ r = .slice (some ⟨p.blk, p.off + o, none⟩) n c' ∧ (c' = c ∨ (0 < p.esz ∧ c ≤ c' ∧ (o = 0 → p.off + c' * p.esz ≤ p.ext))) ∧ n ≤ c) ∨ (ι g = .dead ∧ ∃ q c', r = .slice (some q) n c' ∧ c ≤ c') ∨ (n = 0 ∧ c = 0 ∧ o ≠ 0 ∧ ∃ q c', r = .slice (some q) 0 c') := by
  cases h with
  | same _ h => cases h
  | slE _ q c' h => exact .inr (.inr ⟨rfl, rfl, h, q, c', rfl⟩)
  | sl _ _ _ _ c' p h hc hn => exact .inl ⟨p, c', h, rfl, hc, hn⟩
  | slD _ _ _ c' q h hc => exact .inr (.inl ⟨h, q, c', rfl, hc⟩)
theorem VR.nilS {n c : Nat} (h : VR ι (.slice none n c) r) : r = .slice none n c := by cases h; rfl
theorem VR.cell {v : Value} (h : VR ι v r) (hv : isCell v = true) : r.oneCell' = true := by
  cases h with
  | un => cases hv
  | sk => cases hv
  | same _ h => cases r <;> first | rfl | cases hv
  | agg => cases hv
  | tup => cases hv
  | _ => rfl
theorem VR.aggL {cs : Array Value} (h : VR ι (.agg cs) r) : ∃ rs : Array Value, r = .agg rs ∧ All2 (VR ι) cs.toList rs.toList := by
  cases h with
  | same _ h => cases h
  | agg _ rs hl h => exact ⟨rs, rfl, .of hl fun i a c ha hc => h i a c ha hc⟩
theorem VR.tupL {cs : Array Value} (h : VR ι (.tuple cs) r) : (cs = #[] ∨ cs = #[.tuple #[]]) ∨ ∃ rs : Array Value, r = .tuple rs ∧ All2 (VR ι) cs.toList rs.toList := by
  cases h with
  | un => exact .inl (.inl rfl)
  | sk => exact .inl (.inr rfl)
  | same _ h => cases h
  | tup _ rs hl h => exact .inr ⟨rs, rfl, .of hl fun i a c ha hc => h i a c ha hc⟩
theorem VR.funcL {fn : Fn} {fs cs : Array Value} (h : VR ι (.func fn fs cs) r) : ∃ fs' cs' : Array Value, r = .func fn fs' cs' ∧ All2 (VR ι) fs.toList fs'.toList ∧ All2 (VR ι) cs.toList cs'.toList := by
  cases h with
  | same _ h => cases h
  | func _ _ fs' _ cs' hf h hc h' => exact ⟨fs', cs', rfl, .of hf fun i a c ha hc => h i a c ha hc, .of hc fun i a c ha hc => h' i a c ha hc⟩
theorem VR.mkAgg {cs rs : Array Value} (h : All2 (VR ι) cs.toList rs.toList) : VR ι (.agg cs) (.agg rs) :=
  .agg cs rs h.length fun i v r hv hr => by obtain ⟨c, hc, h'⟩ := h.get hv; rw [hr] at hc; cases hc; exact h'
theorem VR.mkTup {cs rs : Array Value} (h : All2 (VR ι) cs.toList rs.toList) : VR ι (.tuple cs) (.tuple rs) :=
  .tup cs rs h.length fun i v r hv hr => by obtain ⟨c, hc, h'⟩ := h.get hv; rw [hr] at hc; cases hc; exact h'
theorem VR.mkFunc {fn : Fn} {fs fs' cs cs' : Array Value} (h : All2 (VR ι) fs.toList fs'.toList) (h' : All2 (VR ι) cs.toList cs'.toList) : VR ι (.func fn fs cs) (.func fn fs' cs') :=
  .func fn fs fs' cs cs' h.length (fun i v r hv hr => by obtain ⟨c, hc, h''⟩ := h.get hv; rw [hr] at hc; cases hc; exact h'') h'.length (fun i v r hv hr => by obtain ⟨c, hc, h''⟩ := h'.get hv; rw [hr] at hc; cases hc; exact h'')
theorem VR.skip {v : Value} (hs : isSkip v = true) (h : VR ι v r) : ∃ rs, r = .tuple rs := by
  cases h with
  | un => cases hs
  | sk => exact ⟨_, rfl⟩
  | same _ h => cases r <;> first | exact ⟨_, rfl⟩ | cases hs
  | tup => exact ⟨_, rfl⟩
  | _ => cases hs
theorem VR.skipV : VR ι skipV undef := .sk
end
theorem plains_all {l : List Value} (h : plains l = true) (ι : Inj) : All2 (VR ι) l l := by
  induction l with
  | nil => exact .nil
  | cons v r ih => simp [plains] at h; exact .cons (.same v h.1) (ih h.2)
theorem VR.plainC {v : Value} (h : plainC v = true) (ι : Inj) : VR ι v v := by
  cases v <;> first | exact .same _ h | exact .mkAgg (plains_all h ι)

/-! ### the two memories -/
/-- a block of which no cell is barred -/
def FzOk (w : World) (b : Nat) : Prop := ∃ c e lo hi, w.heap[b]? = some (.cells c e (lo, hi)) ∧ (lo = hi ∨ c.size ≤ lo)
theorem FzOk.cell {w : World} {b i : Nat} (h : FzOk w b) (hc : (w.cell? ⟨b, i, none⟩).isSome = true) : w.frozen? ⟨b, i, none⟩ = false := by
  obtain ⟨c, e, lo, hi, h1, h2⟩ := h
  simp only [World.cell?, World.frozen?, h1, Option.isSome_none, Bool.false_eq_true, if_false] at hc ⊢
  have hi' : i < c.size := by
    rcases Nat.lt_or_ge i c.size with h | h
    · exact h
    · rw [Array.getElem?_eq_none h] at hc; cases hc
  simp only [Bool.and_eq_false_iff, decide_eq_false_iff_not]
  rcases h2 with h | h <;> omega
structure RowOk (ι : Inj) (p : Pl) (b : Blk) (w : World) : Prop where
  size : b.cells.length = p.size
  esz : b.esz = p.esz
  ro : b.ro = p.ro
  ext : p.off + p.size ≤ p.ext
  cell : ∀ i v, nth b.cells i = some v → ∃ r, w.cell? ⟨p.blk, p.off + i, none⟩ = some r ∧ VR ι v r
  room : p.ro = false → FzOk w p.blk ∧ ∀ i, p.off ≤ i → i < p.ext → (w.cell? ⟨p.blk, i, none⟩).isSome = true
def MR (ι : Inj) (kv : Value × Value) (e : MapEntry) : Prop := VR ι kv.1 e.key ∧ VR ι kv.2 e.val
structure MapOk (ι : Inj) (p : Pl) (es : List (Value × Value)) (w : World) : Prop where
  ro : p.ro = false
  off : p.off = 0
  ext : p.ext = 1
  obj : ∃ ents clock, w.heap[p.blk]? = some (.map ents clock) ∧ All2 (MR ι) es ents.toList
def ObjOk (ι : Inj) (p : Pl) (o : Option GObj) (w : World) : Prop := match o with
  | some (.row b) => RowOk ι p b w
  | some (.map es) => MapOk ι p es w
  | none => False
structure HR (ι : Inj) (h : GH) (w : World) : Prop where
  obj : ∀ g p, g < h.next → ι g = .live p → ObjOk ι p (h.get g) w
  dead : ∀ g, g < h.next → ι g = .dead → h.get g = none
  apart : ∀ g g' p p', ι g = .live p → ι g' = .live p' → g ≠ g' → p.blk = p'.blk → (p.ro = true ∧ p'.ro = true) ∨ p.ext ≤ p'.off ∨ p'.ext ≤ p.off
  inb : ∀ g p, ι g = .live p → p.blk < w.heap.size
/-- no name from the memory's end up to n is taken -/
structure Good (ι : Inj) (h : GH) (n : Nat) (w : World) : Prop where
  hr : HR ι h w
  free : ∀ g, h.next ≤ g → g < n → ι g = .unborn
def Cov (n : Nat) (ι : Inj) (b i : Nat) : Prop := ∃ g p, g < n ∧ ι g = .live p ∧ p.ro = false ∧ p.blk = b ∧ p.off ≤ i ∧ i < p.ext
/-- outside of D the world is as it was -/
structure Fr (D : Nat → Nat → Prop) (w w' : World) : Prop where
  os : w'.os = w.os
  tape : w'.tape = w.tape
  output : w'.output = w.output
  size : w.heap.size ≤ w'.heap.size
  cell : ∀ b i, b < w.heap.size → ¬ D b i → w'.cell? ⟨b, i, none⟩ = w.cell? ⟨b, i, none⟩
  some : ∀ b i, b < w.heap.size → (w.cell? ⟨b, i, none⟩).isSome = true → (w'.cell? ⟨b, i, none⟩).isSome = true
  fz : ∀ b, b < w.heap.size → FzOk w b → FzOk w' b
  block : ∀ b, b < w.heap.size → (∀ i, ¬ D b i) → w'.heap[b]? = w.heap[b]?
theorem Fr.refl (D : Nat → Nat → Prop) (w : World) : Fr D w w := ⟨rfl, rfl, rfl, Nat.le_refl _, fun _ _ _ _ => rfl, fun _ _ _ h => h, fun _ _ h => h, fun _ _ _ => rfl⟩
theorem Fr.trans {D D' : Nat → Nat → Prop} {a b c : World} (h : Fr D a b) (k : Fr D' b c) (hd : ∀ x i, x < a.heap.size → D' x i → D x i) : Fr D a c :=
  ⟨k.os.trans h.os, k.tape.trans h.tape, k.output.trans h.output, Nat.le_trans h.size k.size,
   fun x i hx hn => (k.cell x i (Nat.lt_of_lt_of_le hx h.size) (fun hh => hn (hd x i hx hh))).trans (h.cell x i hx hn),
   fun x i hx hs => k.some x i (Nat.lt_of_lt_of_le hx h.size) (h.some x i hx hs),
   fun x hx hf => k.fz x (Nat.lt_of_lt_of_le hx h.size) (h.fz x hx hf),
   fun x hx hn => (k.block x (Nat.lt_of_lt_of_le hx h.size) (fun i hh => hn i (hd x i hx hh))).trans (h.block x hx hn)⟩
structure Stp (h : GH) (ι : Inj) (w : World) (h' : GH) (ι' : Inj) (w' : World) : Prop where
  next : h.next ≤ h'.next
  old : ∀ g, g < h.next → ι' g = ι g ∨ ((∃ p, ι g = .live p ∧ p.ro = false) ∧ ι' g = .dead)
  far : ∀ g, h'.next ≤ g → ι' g = ι g
  hr : HR ι' h' w'
  same : ∀ g, g < h.next → ι g = .unborn → h'.get g = h.get g
  fr : Fr (Cov h.next ι) w w'
  cov : ∀ b i, b < w.heap.size → Cov h'.next ι' b i → Cov h.next ι b i
theorem Stp.le {h h' : GH} {ι ι' : Inj} {w w' : World} (s : Stp h ι w h' ι' w') (hf : ∀ g, h.next ≤ g → g < h'.next → ι g = .unborn) : Le ι ι' := fun g => by
  by_cases h1 : g < h.next
  · rcases s.old g h1 with e | ⟨_, e⟩
    · exact .inr (.inl e)
    · exact .inr (.inr e)
  · by_cases h2 : g < h'.next
    · exact .inl (hf g (by omega) h2)
    · exact .inr (.inl (s.far g (by omega)))
theorem Stp.refl {h : GH} {ι : Inj} {w : World} (hr : HR ι h w) : Stp h ι w h ι w := ⟨Nat.le_refl _, fun _ _ => .inl rfl, fun _ _ => rfl, hr, fun _ _ _ => rfl, Fr.refl _ _, fun _ _ _ h => h⟩
theorem Stp.trans {h h1 h2 : GH} {ι ι1 ι2 : Inj} {w w1 w2 : World} (s : Stp h ι w h1 ι1 w1) (k : Stp h1 ι1 w1 h2 ι2 w2) : Stp h ι w h2 ι2 w2 where
  next := Nat.le_trans s.next k.next
  old g hg := by
    have hg1 := Nat.lt_of_lt_of_le hg s.next
    rcases s.old g hg with e | ⟨hp, e⟩
    · rcases k.old g hg1 with e' | ⟨hp', e'⟩
      · exact .inl (e'.trans e)
      · exact .inr ⟨e ▸ hp', e'⟩
    · rcases k.old g hg1 with e' | ⟨hp', e'⟩
      · exact .inr ⟨hp, e'.trans e⟩
      · exact .inr ⟨hp, e'⟩
  far g hg := (k.far g hg).trans (s.far g (Nat.le_trans k.next hg))
  hr := k.hr
  same g hg hu := by
    rcases s.old g hg with e | ⟨⟨p, hp, _⟩, _⟩
    · exact (k.same g (Nat.lt_of_lt_of_le hg s.next) (e.trans hu)).trans (s.same g hg hu)
    · rw [hu] at hp; cases hp
  fr := s.fr.trans k.fr fun x i hx hc => s.cov x i hx hc
  cov b i hb hc := s.cov b i hb (k.cov b i (Nat.lt_of_lt_of_le hb s.fr.size) hc)
theorem Good.step {h h1 : GH} {ι ι1 : Inj} {w w1 : World} {n : Nat} (g : Good ι h n w) (s : Stp h ι w h1 ι1 w1) : Good ι1 h1 n w1 :=
  ⟨s.hr, fun x hx hn => (s.far x hx).trans (g.free x (Nat.le_trans s.next hx) hn)⟩
theorem Good.less {h : GH} {ι : Inj} {w : World} {n m : Nat} (g : Good ι h n w) (hm : m ≤ n) : Good ι h m w := ⟨g.hr, fun x hx hn => g.free x hx (Nat.lt_of_lt_of_le hn hm)⟩
/-- A world that differs by draws alone. -/
theorem HR.drew {ι : Inj} {h : GH} {w : World} (hr : HR ι h w) (n : Nat) : HR ι h (w.drewN n) where
  obj g p hg hl := by
    have := hr.obj g p hg hl
    unfold ObjOk at *
    split at this
    · exact ⟨this.size, this.esz, this.ro, this.ext, this.cell, this.room⟩
    · exact ⟨this.ro, this.off, this.ext, this.obj⟩
    · exact this.elim
  dead := hr.dead
  apart := hr.apart
  inb := hr.inb
end Go.Proofs.Ytephmpbccajaaaa.Gx

