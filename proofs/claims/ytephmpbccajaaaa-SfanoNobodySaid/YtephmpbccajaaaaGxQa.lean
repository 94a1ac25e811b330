/- The plain machine and the model: what runs outside of a round runs within one too; the marks that loops over functions leave. No condition. -/
import Derived.Test.YtephmpbccajaaaaGxQ
import Derived.OrdersIn
import Derived.RangeFuncFrom
import Derived.RangeFuncLeaves
import Derived.DefersIn
namespace Go.Proofs.Ytephmpbccajaaaa.Gx
open Go Go.RowKit
set_option linter.unusedVariables false
set_option linter.unusedSimpArgs false
variable {P : Program}
/-- no fence but, perhaps, a round -/
def Fw (ro : Option Nat) : Fence := { Fence.wide with round := ro }
theorem Fw_none : Fw none = Fence.wide := rfl
theorem room_Fw (ro : Option Nat) (n : Nat) : (Fw ro).room n := fun _ h => by cases h
theorem callsIn_Fw {ro : Option Nat} {n : Nat} {f : FuncId} {args : Array Value} {w : World} {R : Ending → World → Prop} (h : Calls P f args w R) : CallsIn (Fw ro) n P f args w R :=
  (callsIn_wide (n := n)).2 h
theorem callsOf_Fw {n : Nat} {f : FuncId} {args : Array Value} {w : World} {R : Ending → World → Prop} (h : CallsIn (Fw none) n P f args w R) : Calls P f args w R :=
  (callsIn_wide (n := n)).1 h
theorem rowsIn_Fw {ro : Option Nat} {n : Nat} {row : String} {args : Array Value} {w : World} {R : Value → World → Prop} (h : Rows P row args w R) : RowsIn (Fw ro) n P row args w R :=
  fun c cs _ => let ⟨v, w', r, s⟩ := h c cs; ⟨v, w', r, stepsIn_wide.2 s⟩
theorem noDefer_spec : ∀ {l : List Oper}, noDefer l = true → ∀ (i : Nat) (o : Oper), l[i]? = some o → isDefer o.op = false
  | [], _, i, o, hi => by simp at hi
  | x :: l, h, i, o, hi => by
    unfold noDefer at h
    cases hx : isDefer x.op with
    | true => rw [hx] at h; cases h
    | false =>
      rw [hx] at h
      cases i with
      | zero => simp at hi; subst hi; exact hx
      | succ i => exact noDefer_spec h i o (by simpa using hi)
theorem semAt_Fw {ro : Option Nat} {ρ : Operand → Value} {o : Oper} (hd : isDefer o.op = false) : o.semAt ro ρ = execOp ρ o := by
  unfold Oper.semAt
  split
  · rename_i h; rw [h] at hd; cases hd
  · rfl
theorem oper_in {o : Oper} {a : Act} {w : World} {K : Act → World → Prop} {Q : Exit → Act → World → Prop} {ro : Option Nat} {n : Nat} (hd : isDefer o.op = false) (h : o.wp P a w K Q) : o.wpIn (Fw ro) n P a w K Q := by
  refine ⟨fun _ _ => trivial, ?_⟩
  rw [semAt_Fw hd]
  unfold Oper.wp at h
  generalize (execOp a.eval o).run P w = r at h ⊢
  cases r with
  | ok x w' =>
    cases x with
    | enter f args => exact ⟨(fun h' => by cases h'), callsIn_Fw h⟩
    | row r args => exact ⟨(fun h' => by cases h'), rowsIn_Fw h⟩
    | round => exact h.elim
    | _ => exact h
  | halt x w' => cases x <;> exact h
theorem ops_in {ops : Array Oper} {Q : Exit → Act → World → Prop} {ro : Option Nat} {n : Nat} (hq : ¬ LetsOut Q) (hd : ∀ (i : Nat) (o : Oper), ops[i]? = some o → isDefer o.op = false) : ∀ (l : List Nat) {a : Act} {w : World}, wpOps P ops Q l a w → wpOpsIn (Fw ro) n P ops Q l a w
  | [], a, w, h => h
  | i :: l, a, w, h => by
    unfold wpOps at h
    unfold wpOpsIn
    cases ho : ops[i]? with
    | none => simp only [ho] at h ⊢; exact ops_in hq hd l h
    | some o =>
      simp only [ho] at h ⊢
      split
      · rename_i hw
        rw [if_pos hw] at h
        rcases h with h | h
        · exact Oper.wpIn_mono (fun a w h => ops_in hq hd l h) (oper_in (hd i o ho) h)
        · exact absurd h.2 hq
      · rename_i hw
        rw [if_neg hw] at h
        exact ⟨fun _ _ => trivial, ops_in hq hd l h⟩
theorem any_in {ops : Array Oper} {Q : Exit → Act → World → Prop} {ro : Option Nat} {n : Nat} {md : Region.Mode} (hq : ¬ LetsOut Q) (hd : ∀ (i : Nat) (o : Oper), ops[i]? = some o → isDefer o.op = false) : ∀ (fuel : Nat) {listed : Array Bool} {a : Act} {w : World}, wpAny P md ops Q fuel listed a w → wpAnyIn (Fw ro) n P md ops Q fuel listed a w
  | 0, listed, a, w, h => h
  | fuel + 1, listed, a, w, h => by
    unfold wpAny at h
    unfold wpAnyIn
    refine ⟨h.1, fun i hi => ?_⟩
    have h := h.2 i hi
    unfold wpOp at h
    unfold wpOpIn
    cases ho : ops[i]? with
    | none => simp only [ho] at h ⊢; exact any_in hq hd fuel h
    | some o =>
      simp only [ho] at h ⊢
      split
      · rename_i hw
        rw [if_pos hw] at h
        rcases h with h | h
        · exact Oper.wpIn_mono (fun a w h => any_in hq hd fuel h) (oper_in (hd i o ho) h)
        · exact absurd h.2 hq
      · rename_i hw
        rw [if_neg hw] at h
        exact ⟨fun _ _ => trivial, any_in hq hd fuel h⟩
/-! ### marks -/
/-- neither cells nor a map -/
def dull : Obj → Bool
  | .loop _ => true
  | .deferred _ => true
  | _ => false
theorem HR.dull {ι : Inj} {h : GH} {w : World} (hr : HR ι h w) {D : Nat} {o : Obj} (hD : w.heap[D]? = some o) (ho : Gx.dull o = true) (i : Nat) : ¬ Cov h.next ι D i := by
  rintro ⟨g, p, hg, hp, hro, hb, h1, h2⟩
  have hob := hr.obj g p hg hp
  unfold ObjOk at hob
  split at hob
  · have := (hob.room hro).2 i h1 h2
    rw [hb] at this
    unfold World.cell? at this
    simp only [hD] at this
    cases o <;> first | (cases ho; done) | exact absurd this (by simp)
  · obtain ⟨es, cl, e, _⟩ := hob.obj
    rw [hb, hD] at e
    cases e; cases ho
  · exact hob
/-- what a loop over a function leaves: a mark, its block empty -/
def Mk (w w' : World) (ds ds' : List Deferred) : Prop :=
  ∃ ms, ds' = ms ++ ds ∧ ms.Nodup ∧ ∀ d ∈ ms, ∃ D, d = { target := .collected D, args := #[] } ∧ w.heap.size ≤ D ∧ w'.heap[D]? = some (.deferred (some []))
theorem Mk.refl (w w' : World) (ds : List Deferred) : Mk w w' ds ds := ⟨[], rfl, List.nodup_nil, fun _ h => by cases h⟩
theorem Mk.trans {h1 h2 : GH} {ι1 ι2 : Inj} {w w1 w2 : World} {ds ds1 ds2 : List Deferred} (hs : w.heap.size ≤ w1.heap.size) (hr : HR ι1 h1 w1) (m : Mk w w1 ds ds1) (s' : Stp h1 ι1 w1 h2 ι2 w2) (m' : Mk w1 w2 ds1 ds2) : Mk w w2 ds ds2 := by
  obtain ⟨ms, rfl, hn, hm⟩ := m
  obtain ⟨ms', rfl, hn', hm'⟩ := m'
  refine ⟨ms' ++ ms, by simp, List.nodup_append.2 ⟨hn', hn, fun x hx y hy e => ?_⟩, fun d hd => ?_⟩
  · subst e
    obtain ⟨D, e1, h1, _⟩ := hm' x hx
    obtain ⟨D', e2, _, h2⟩ := hm x hy
    rw [e1] at e2
    have : D = D' := by injection e2 with e3; injection e3
    subst this
    have hlt : D < w1.heap.size := (Array.getElem?_eq_some_iff.1 h2).1
    omega
  rcases List.mem_append.1 hd with hd | hd
  · obtain ⟨D, e, h1, h2⟩ := hm' d hd
    exact ⟨D, e, Nat.le_trans hs h1, h2⟩
  · obtain ⟨D, e, h1, h2⟩ := hm d hd
    have hlt : D < w1.heap.size := (Array.getElem?_eq_some_iff.1 h2).1
    exact ⟨D, e, h1, (s'.fr.block D hlt (hr.dull h2 rfl)).trans h2⟩
theorem letsOut_normal {R : Act → World → Prop} : ¬ LetsOut (fun x a w => x = Exit.normal ∧ R a w) := fun ⟨_, _, q, _⟩ => by cases q
/-- all cells and all that is not dull lies as it lay -/
structure Turn (w w' : World) : Prop where
  os : w'.os = w.os
  tape : w'.tape = w.tape
  output : w'.output = w.output
  size : w.heap.size ≤ w'.heap.size
  cell : ∀ b i, w'.cell? ⟨b, i, none⟩ = w.cell? ⟨b, i, none⟩
  obj : ∀ (b : Nat) (o : Obj), w.heap[b]? = some o → Gx.dull o = false → w'.heap[b]? = some o
theorem Turn.put {w : World} {D : Nat} {o o' : Obj} (hD : w.heap[D]? = some o) (ho : Gx.dull o = true) (ho' : Gx.dull o' = true) : Turn w (w.putObj D o') := by
  have hlt : D < w.heap.size := (Array.getElem?_eq_some_iff.1 hD).1
  refine ⟨rfl, rfl, rfl, by simp, fun b i => ?_, fun b x hx hd => ?_⟩
  · by_cases hb : b = D
    · subst hb
      unfold World.cell?
      simp only [World.putObj_heap_same hlt, hD]
      cases o <;> first | (cases ho; done) | (cases o' <;> first | (cases ho'; done) | rfl)
    · unfold World.cell?
      simp only [World.putObj_heap_other hb]
  · by_cases hb : b = D
    · subst hb; rw [hD] at hx; cases hx; rw [ho] at hd; cases hd
    · rw [World.putObj_heap_other hb]; exact hx
theorem Turn.alloc (w : World) {o : Obj} (ho : Gx.dull o = true) : Turn w (w.alloc o) := by
  refine ⟨rfl, rfl, rfl, by simp, fun b i => ?_, fun b x hx hd => ?_⟩
  · unfold World.cell?
    by_cases hb : b < w.heap.size
    · have : (w.alloc o).heap[b]? = w.heap[b]? := Below.heap_alloc _ _ _ hb
      simp only [this]
    · by_cases hb2 : b = w.heap.size
      · subst hb2
        simp only [World.alloc_heap_new, Array.getElem?_eq_none (Nat.le_refl w.heap.size)]
        cases o <;> first | (cases ho; done) | rfl
      · have h1 : (w.alloc o).heap[b]? = none := Array.getElem?_eq_none (by simp; omega)
        simp only [h1, Array.getElem?_eq_none (show w.heap.size ≤ b by omega)]
  · have hlt : b < w.heap.size := (Array.getElem?_eq_some_iff.1 hx).1
    exact (Below.heap_alloc _ _ _ hlt).trans hx
theorem Turn.trans {a b c : World} (h : Turn a b) (k : Turn b c) : Turn a c :=
  ⟨k.os.trans h.os, k.tape.trans h.tape, k.output.trans h.output, Nat.le_trans h.size k.size, fun x i => (k.cell x i).trans (h.cell x i), fun x o hx hd => k.obj x o (h.obj x o hx hd) hd⟩
theorem HR.turn {ι : Inj} {h : GH} {w w' : World} (hr : HR ι h w) (t : Turn w w') : HR ι h w' := by
  refine ⟨fun g p hg hp => ?_, hr.dead, hr.apart, fun g p hp => Nat.lt_of_lt_of_le (hr.inb g p hp) t.size⟩
  have hob := hr.obj g p hg hp
  unfold ObjOk at hob ⊢
  split at hob
  · rename_i b _
    refine ⟨hob.size, hob.esz, hob.ro, hob.ext, fun i v hv => ?_, fun hro => ?_⟩
    · obtain ⟨r, h1, h2⟩ := hob.cell i v hv
      exact ⟨r, (t.cell _ _).trans h1, h2⟩
    · obtain ⟨⟨c, e, lo, hi, h1, h2⟩, h3⟩ := hob.room hro
      exact ⟨⟨c, e, lo, hi, t.obj _ _ h1 rfl, h2⟩, fun i a b => by rw [t.cell]; exact h3 i a b⟩
  · obtain ⟨es, cl, h1, h2⟩ := hob.obj
    exact ⟨hob.ro, hob.off, hob.ext, es, cl, t.obj _ _ h1 rfl, h2⟩
  · exact hob
theorem Stp.turn {h h' : GH} {ι ι' : Inj} {w w1 w2 : World} (s : Stp h ι w h' ι' w1) (t : Turn w1 w2) (hb : ∀ b, b < w.heap.size → w2.heap[b]? = w1.heap[b]?) : Stp h ι w h' ι' w2 :=
  ⟨s.next, s.old, s.far, s.hr.turn t, s.same,
   ⟨t.os.trans s.fr.os, t.tape.trans s.fr.tape, t.output.trans s.fr.output, Nat.le_trans s.fr.size t.size, fun b i hlt hn => (t.cell b i).trans (s.fr.cell b i hlt hn),
    fun b i hlt hs => by rw [t.cell]; exact s.fr.some b i hlt hs,
    fun b hlt hf => by
      obtain ⟨c, e, lo, hi, h1, h2⟩ := s.fr.fz b hlt hf
      exact ⟨c, e, lo, hi, t.obj _ _ h1 rfl, h2⟩,
    fun b hlt hn => (hb b hlt).trans (s.fr.block b hlt hn)⟩,
   s.cov⟩
end Go.Proofs.Ytephmpbccajaaaa.Gx

