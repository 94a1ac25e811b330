/- The plain machine and the model: parts of values, slices of slices, values that are built. No condition. -/
import Derived.Test.YtephmpbccajaaaaGxE
namespace Go.Proofs.Ytephmpbccajaaaa.Gx
open Go Go.RowKit
set_option linter.unusedVariables false
set_option linter.unusedSimpArgs false
variable {P : Program} {β : Type} {r : β}

theorem exK_some {k : CK} {o : Option Value} {K : Value → Option β} (h : exK k o K = some r) : ∃ v, o = some v ∧ K v = some r := by
  cases k <;> simp only [exK, exI, exB, exT, exP, exS, exV] at h
  case int k =>
    split at h
    · obtain ⟨hk, h⟩ := cond_none h
      have := of_decide_eq_true hk
      subst this
      exact ⟨_, rfl, h⟩
    · cases h
  all_goals
    split at h
    · exact ⟨_, rfl, h⟩
    · cases h
theorem exN_some {ks : List CK} {f : Nat → Option Value} : ∀ {o : Nat} {K : List Value → Option β}, exN ks f o K = some r → ∃ vs : List Value, vs.length = ks.length ∧ (∀ i, i < vs.length → f (o + i) = nth vs i) ∧ K vs = some r := by
  induction ks with
  | nil => exact fun h => ⟨[], rfl, fun i hi => by simp at hi, h⟩
  | cons k ks ih =>
    intro o K h
    obtain ⟨v, hv, h⟩ := exK_some h
    obtain ⟨vs, hl, hf, h⟩ := ih h
    refine ⟨v :: vs, by simp [hl], fun i hi => ?_, h⟩
    cases i with
    | zero => exact hv
    | succ i => have := hf i (by simpa using hi); rw [show o + (i + 1) = o + 1 + i by omega]; exact this
theorem isAgg_run {t : TypeId} {d : TypeDesc} (h : P.underlying t = some d) (w : World) : (isAgg t).run P w = .ok (aggD d) w := by
  unfold isAgg
  rw [Sem.run_bind, run_underlying h w]
  cases d <;> rfl
theorem eq_of_nth {l vs : List Value} {o n : Nat} (hn : vs.length = n) (hf : ∀ i, i < vs.length → nth l (o + i) = nth vs i) : vs = (l.drop o).take n ∧ o + n ≤ l.length ∨ n = 0 ∧ vs = [] := by
  by_cases h0 : n = 0
  · subst h0; exact .inr ⟨rfl, List.length_eq_zero_iff.1 hn⟩
  · refine .inl ⟨?_, ?_⟩
    · apply List.ext_getElem?
      intro i
      rw [List.getElem?_take, List.getElem?_drop]
      by_cases hi : i < n
      · rw [if_pos hi]; have := hf i (by omega); simp only [nth_eq] at this; exact this.symm
      · rw [if_neg hi]; exact List.getElem?_eq_none (by omega)
    · have := hf (n - 1) (by omega)
      simp only [nth_eq] at this
      have h1 : vs[n - 1]? = some vs[n - 1] := List.getElem?_eq_getElem (by omega)
      rw [h1] at this
      have := (List.getElem?_eq_some_iff.1 this).1
      omega
/-- what a part of a list of cells is, as the model takes it -/
theorem exCells_sim {t : TypeId} {cs : List Value} {o : Nat} {K : Value → Option β} (h : exCells P t cs o K = some r) :
    ∃ v, K v = some r ∧ ∀ ι (rs : Array Value), All2 (VR ι) cs rs.toList → ∃ rv, VR ι v rv ∧ ∀ w, (part t rs o).run P w = .ok rv w := by
  unfold exCells at h
  split at h
  · cases h
  · rename_i d hd
    cases ha : aggD d with
    | true =>
      rw [ha] at h
      simp only [cond_true] at h
      split at h
      · rename_i n hn
        have key : ∃ vs : List Value, K (.agg vs.toArray) = some r ∧ (vs = (cs.drop o).take n) := by
          cases hb : (Nat.ble n small && Nat.beq (flat P 4 t).length n) with
          | true =>
            rw [hb] at h
            simp only [cond_true] at h
            obtain ⟨vs, hl, hf, h⟩ := exN_some h
            simp at hb
            have hl' : vs.length = n := by rw [hl]; exact hb.2
            rcases eq_of_nth hl' hf with ⟨e, _⟩ | ⟨e, e'⟩
            · exact ⟨vs, h, e⟩
            · subst e; exact ⟨vs, h, by simp [e']⟩
          | false =>
            rw [hb] at h
            simp only [cond_false] at h
            unfold exL at h
            split at h
            · rename_i vs hv
              exact ⟨vs, h, (nsub_some hv).2⟩
            · cases h
        obtain ⟨vs, h, e⟩ := key
        refine ⟨_, h, fun ι rs hrs => ?_⟩
        refine ⟨.agg (rs.extract o (o + n)), .mkAgg ?_, fun w => ?_⟩
        · rw [e]
          simp only [Array.toList_extract, List.extract_eq_take_drop, show o + n - o = n by omega]
          exact (hrs.drop o).take n
        · simp [part, isAgg_run hd, ha, sizeOf_run hn]
      · cases h
    | false =>
      rw [ha] at h
      simp only [cond_false] at h
      obtain ⟨v, hv, h⟩ := exK_some h
      refine ⟨v, h, fun ι rs hrs => ?_⟩
      obtain ⟨rv, h1, h2⟩ := hrs.get hv
      refine ⟨rv, h2, fun w => ?_⟩
      have : rs[o]? = some rv := by rw [nth_eq] at h1; simpa using h1
      simp [part, isAgg_run hd, ha, this]
theorem gfield_sim {s : TypeId} {x : Value} {i : Nat} {K : Value → Option β} (h : gfield P s x i K = some r) :
    ∃ v, K v = some r ∧ ∀ ι rx, VR ι x rx → ∃ rv, VR ι v rv ∧ ∀ w, (Instr.field s rx i).run P w = .ok rv w := by
  unfold gfield at h
  split at h
  · rename_i fs cs hs
    split at h
    · rename_i f hf
      have hf' : fs[i]? = some f := by rw [nth_eq] at hf; simpa using hf
      obtain ⟨v, h, hv⟩ := exCells_sim h
      refine ⟨v, h, fun ι rx hx => ?_⟩
      obtain ⟨rs, rfl, ha⟩ := hx.aggL
      obtain ⟨rv, h1, h2⟩ := hv ι rs ha
      exact ⟨rv, h1, fun w => by simp [Instr.field, run_underlying hs, hf', asAgg, h2]⟩
    · cases h
  · cases h
theorem gindex_sim {t : TypeId} {x i : Value} {K : Value → Option β} (h : gindex P t x i K = some r) :
    ∃ v, K v = some r ∧ ∀ ι rx ri, VR ι x rx → VR ι i ri → ∃ rv, VR ι v rv ∧ ∀ w, (Instr.index t rx ri).run P w = .ok rv w := by
  unfold gindex at h
  split at h
  · rename_i n e cs k j ht
    split at h
    · rename_i z hz
      obtain ⟨h0, h1, h⟩ := within_some h
      obtain ⟨v, h, hv⟩ := exCells_sim h
      refine ⟨v, h, fun ι rx ri hx hi => ?_⟩
      obtain ⟨rs, rfl, ha⟩ := hx.aggL
      obtain ⟨rv, h2, h3⟩ := hv ι rs ha
      exact ⟨rv, h2, fun w => by rw [hi.int]; simp [Instr.index, run_underlying ht, asIntOf, h0, h1, sizeOf_run hz, h3]⟩
    · cases h
  · rename_i s k j ht
    unfold byteAt at h
    split at h
    · rename_i b hb
      refine ⟨_, h, fun ι rx ri hx hi => ⟨_, .same _ rfl, fun w => ?_⟩⟩
      rw [hx.str, hi.int]
      simp only [Instr.index, Sem.run_bind, asIntOf, Sem.run_pure, Result.andThen_ok, run_underlying ht, hb]
    · cases h
  · cases h
theorem gextract_sim {x : Value} {i : Nat} {K : Value → Option β} (h : gextract x i K = some r) :
    ∃ v, K v = some r ∧ ∀ ι rx, VR ι x rx → ∃ rv, VR ι v rv ∧ ∀ w, (Instr.extract rx i).run P w = .ok rv w := by
  unfold gextract at h
  split at h
  · rename_i vs
    have h2 := Nat.le_of_ble_eq_true (cond_none h).1
    replace h := (cond_none h).2
    split at h
    · rename_i v hv
      refine ⟨v, h, fun ι rx hx => ?_⟩
      rcases hx.tupL with (rfl | rfl) | ⟨rs, rfl, ha⟩
      · simp [nth] at hv
      · simp at h2
      · obtain ⟨c, hc, h'⟩ := ha.get hv
        refine ⟨c, h', fun w => ?_⟩
        have : rs[i]? = some c := by rw [nth_eq] at hc; simpa using hc
        simp [Instr.extract, this]
    · cases h
  · cases h
end Go.Proofs.Ytephmpbccajaaaa.Gx

