/- The plain machine and the model: calls that stand alone, and what a law's run leaves. No condition. -/
import Derived.Test.YtephmpbccajaaaaGxU
namespace Go.Proofs.Ytephmpbccajaaaa.Gx
open Go Go.RowKit
set_option linter.unusedVariables false
variable {P : Program}

/-- a value that nobody asks for -/
theorem CallSim.unit {f : FuncId} {args : List Value} {h h' : GH} {v : Value} (s : CallSim P f args h v h') : CallSim P f args h (.tuple #[]) h' :=
  ⟨s.1, s.2.1, fun ι w ra gd ha => (s.2.2 ι w ra gd ha).mono fun e w' ⟨rv, ι', h1, h2, h3⟩ => ⟨rv, ι', h1, h2, .un _⟩⟩
def noneBorn : Inj := fun _ => .unborn
theorem good_empty (n : Nat) (w : World) : Good noneBorn GH.empty n w :=
  ⟨⟨fun g p hg => by simp [GH.empty] at hg, fun g hg => by simp [GH.empty] at hg, fun g g' p p' h => (nomatch h), fun g p h => (nomatch h)⟩, fun _ _ _ => rfl⟩
/-- what a call that was handed no memory comes to, it comes to beside any memory -/
theorem CallSim.alone {f : FuncId} {b : Bool} {hE h : GH} (s : CallSim P f [] GH.empty (.bool b) hE) : CallSim P f [] h (.bool b) h := by
  refine ⟨s.1, Nat.le_refl _, fun ι w ra gd ha => ?_⟩
  cases ha
  refine (s.2.2 noneBorn w [] (good_empty _ w) .nil).mono ?_
  rintro e w' ⟨rv, ι', rfl, st, hvr⟩
  have hn : ∀ b i, ¬ Cov GH.empty.next noneBorn b i := by rintro b i ⟨g, p, h1, _⟩; simp [GH.empty] at h1
  have hrv := hvr.bool
  refine ⟨rv, ι, rfl, ⟨Nat.le_refl _, fun _ _ => .inl rfl, fun _ _ => rfl, ⟨fun g p hg hp => ?_, gd.hr.dead, gd.hr.apart, fun g p hp => Nat.lt_of_lt_of_le (gd.hr.inb g p hp) st.fr.size⟩, fun _ _ _ => rfl, ?_, fun _ _ _ h => h⟩, ?_⟩
  · have hin := gd.hr.inb g p hp
    exact (gd.hr.obj g p hg hp).mono (Le.refl ι) (fun i _ _ => st.fr.cell _ _ hin (hn _ _)) (fun _ => ⟨st.fr.fz _ hin, fun i _ _ => st.fr.some _ _ hin⟩) (fun _ _ ents c hh => (st.fr.block _ hin (hn _)).trans hh)
  · exact ⟨st.fr.os, st.fr.tape, st.fr.output, st.fr.size, fun b i hb _ => st.fr.cell b i hb (hn b i), st.fr.some, st.fr.fz, fun b hb _ => st.fr.block b hb (hn b)⟩
  · rw [hrv]; exact .same _ rfl

/-! ### a law's arguments -/
theorem of_blt {a b : Nat} (h : Nat.blt a b = true) : a < b := by rw [Nat.blt_eq] at h; exact h
theorem blt_of {a b : Nat} (h : a < b) : Nat.blt a b = true := by rw [Nat.blt_eq]; exact h
/-- a slice that came in: its block is read alone -/
structure ArgRow (W : World) (a : Option Addr) (len cap : Nat) (cells : List Value) : Prop where
  lenc : cells.length = len
  le : len ≤ cap
  nil : a = none → len = 0 ∧ cap = 0
  spot : ∀ q, a = some q → 0 < len → q.spot = none ∧ q.block < W.heap.size ∧ ∀ i v, nth cells i = some v → W.cell? ⟨q.block, q.off + i, none⟩ = some v
  plain : plains cells = true
def argBlk (cells : List Value) : GObj := .row ⟨cells, 1, true⟩
def argSl (g : Nat) (a : Option Addr) (len : Nat) : Sl := match a with | none => ⟨none, 0, 0⟩ | some _ => (match len with | 0 => ⟨some ⟨g, 1, none⟩, 0, 0⟩ | n + 1 => ⟨some ⟨g, 0, none⟩, n + 1, n + 1⟩)
/-- the memory of a law whose arguments hold these slices -/
def argGH : List (List Value) → GH
  | l => ⟨l.length, fun g => match nth l g with | some cs => some (argBlk cs) | none => none⟩
structure Arg where
  a : Option Addr
  len : Nat
  cap : Nat
  cells : List Value
def argInj : List Arg → Inj := fun l g => match nth l g with
  | some x => (match x.a with | some q => (bif Nat.blt 0 x.len then .live ⟨q.block, q.off, x.cells.length, q.off + x.cap, 1, true⟩ else .unborn) | none => .unborn)
  | none => .unborn
theorem plains_get {l : List Value} (h : plains l = true) {i : Nat} {v : Value} (hv : nth l i = some v) : plain1 v = true := by
  induction l generalizing i with
  | nil => cases hv
  | cons x r ih =>
    simp only [plains, Bool.and_eq_true] at h
    cases i with
    | zero => cases hv; exact h.1
    | succ i => exact ih h.2 hv
theorem nth_map {α γ : Type} (f : α → γ) (l : List α) (i : Nat) : nth (l.map f) i = (nth l i).map f := by rw [nth_eq, nth_eq, List.getElem?_map]
theorem arg_good {W : World} {l : List Arg} (h : ∀ x ∈ l, ArgRow W x.a x.len x.cap x.cells) (n : Nat) : Good (argInj l) (argGH (l.map (·.cells))) n W := by
  have hlive : ∀ g p, argInj l g = .live p → ∃ x q, nth l g = some x ∧ x ∈ l ∧ x.a = some q ∧ 0 < x.len ∧ p = ⟨q.block, q.off, x.cells.length, q.off + x.cap, 1, true⟩ := fun g p hp => by
    unfold argInj at hp
    split at hp
    · rename_i x hx
      split at hp
      · rename_i q hq
        cases hb : Nat.blt 0 x.len with
        | false => rw [hb] at hp; cases hp
        | true =>
          rw [hb] at hp
          cases hp
          exact ⟨x, q, hx, by rw [nth_eq] at hx; exact List.mem_of_getElem? hx, hq, of_blt hb, rfl⟩
      · cases hp
    · cases hp
  refine ⟨⟨fun g p hg hp => ?_, fun g hg hd => ?_, fun g g' p p' hp hp' _ _ => ?_, fun g p hp => ?_⟩, fun g hg _ => ?_⟩
  · obtain ⟨x, q, hx, hm, hq, hlen, rfl⟩ := hlive g p hp
    have hr := h x hm
    obtain ⟨s1, s2, s3⟩ := hr.spot q hq hlen
    have : (argGH (l.map (·.cells))).get g = some (argBlk x.cells) := by
      show (match nth (l.map (·.cells)) g with | some cs => some (argBlk cs) | none => none) = _
      rw [nth_map, hx]; rfl
    rw [this]
    refine ⟨rfl, rfl, rfl, ?_, fun i v hv => ⟨v, s3 i v hv, .same v (plains_get hr.plain hv)⟩, fun h => by cases h⟩
    show q.off + x.cells.length ≤ q.off + x.cap
    have := hr.lenc; have := hr.le; omega
  · exfalso
    unfold argInj at hd
    split at hd
    · split at hd
      · rename_i x _ _ _ _
        cases hb : Nat.blt 0 x.len <;> rw [hb] at hd <;> cases hd
      · cases hd
    · cases hd
  · obtain ⟨x, q, _, _, _, _, rfl⟩ := hlive g p hp
    obtain ⟨x', q', _, _, _, _, rfl⟩ := hlive g' p' hp'
    exact .inl ⟨rfl, rfl⟩
  · obtain ⟨x, q, hx, hm, hq, hlen, rfl⟩ := hlive g p hp
    exact ((h x hm).spot q hq hlen).2.1
  · unfold argInj
    split
    · rename_i x hx
      have hlt := nth_lt hx
      have : (argGH (l.map (·.cells))).next = l.length := by simp [argGH]
      omega
    · rfl
theorem arg_vr {W : World} {l : List Arg} (h : ∀ x ∈ l, ArgRow W x.a x.len x.cap x.cells) {g : Nat} {x : Arg} (hx : nth l g = some x) : VR (argInj l) (.slice (argSl g x.a x.len).a (argSl g x.a x.len).n (argSl g x.a x.len).c) (.slice x.a x.len x.cap) := by
  have hr := h x (by rw [nth_eq] at hx; exact List.mem_of_getElem? hx)
  cases ha : x.a with
  | none =>
    obtain ⟨h1, h2⟩ := hr.nil ha
    rw [h1, h2]
    exact .same _ rfl
  | some q =>
    obtain ⟨b, o, sp⟩ := q
    cases hn : x.len with
    | zero => exact VR.slE _ _ _ (by simp)
    | succ n =>
    obtain ⟨s1, s2, s3⟩ := hr.spot _ ha (by omega)
    simp only at s1
    subst s1
    have hp : argInj l g = .live ⟨b, o, x.cells.length, o + x.cap, 1, true⟩ := by
      have hb : Nat.blt 0 x.len = true := blt_of (by omega)
      unfold argInj; rw [hx]; simp only [ha, hb, cond_true]
    rw [← hn]
    have hv : (.slice (argSl g (some ⟨b, o, none⟩) x.len).a (argSl g (some ⟨b, o, none⟩) x.len).n (argSl g (some ⟨b, o, none⟩) x.len).c : Value) = .slice (some ⟨g, 0, none⟩) x.len x.len := by rw [hn]; rfl
    rw [hv]
    exact VR.sl g 0 x.len x.len x.cap _ hp (.inr ⟨Nat.one_pos, hr.le, fun _ => by show o + x.cap * 1 ≤ o + x.cap; omega⟩) (Nat.le_refl _)
/-- a law's run: it answers true, and nothing that was there has turned -/
theorem law_calls {f : FuncId} {args rargs : List Value} {W : World} {l : List Arg} {h1 : GH} (hl : ∀ x ∈ l, ArgRow W x.a x.len x.cap x.cells) (s : CallSim P f args (argGH (l.map (·.cells))) (.bool true) h1)
    (ha : All2 (VR (argInj l)) args rargs) : Calls P f rargs.toArray W fun e W' => e = .returned (.bool true) ∧ Below W.heap.size W W' := by
  refine (s.2.2 _ W rargs (arg_good hl _) ha).mono ?_
  rintro e w' ⟨rv, ι', rfl, st, hvr⟩
  refine ⟨by rw [hvr.bool], ⟨st.fr.os, st.fr.tape, st.fr.output, st.fr.size, fun k hk => st.fr.block k hk ?_⟩⟩
  rintro i ⟨g, p, h1, h2, h3, _⟩
  unfold argInj at h2
  split at h2
  · split at h2
    · rename_i x _ _ _ _
      cases hb : Nat.blt 0 x.len <;> rw [hb] at h2 <;> cases h2
      cases h3
    · cases h2
  · cases h2
end Go.Proofs.Ytephmpbccajaaaa.Gx

