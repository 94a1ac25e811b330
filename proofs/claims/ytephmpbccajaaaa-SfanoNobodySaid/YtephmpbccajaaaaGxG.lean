/- The plain machine and the model: slices of slices, values that are built. No condition. -/
import Derived.Test.YtephmpbccajaaaaGxFa
namespace Go.Proofs.Ytephmpbccajaaaa.Gx
open Go Go.RowKit
set_option linter.unusedVariables false
set_option linter.unusedSimpArgs false
variable {P : Program} {β : Type} {r : β}

def OV (ι : Inj) : Option Value → Option Value → Prop
  | none, none => True
  | some v, some r => VR ι v r
  | _, _ => False
theorem gbound_some {v : Option Value} {d le : Nat} {K : Nat → Option β} (h : gbound v d le K = some r) : ∃ k, K k = some r ∧ ((v = none ∧ k = d) ∨ ∃ kd i, v = some (.int kd i) ∧ 0 ≤ i ∧ i ≤ le ∧ k = i.toNat) := by
  unfold gbound at h
  split at h
  · exact ⟨_, h, .inl ⟨rfl, rfl⟩⟩
  · rename_i kd i
    unfold bnd at h
    obtain ⟨h1, h⟩ := cond_none h
    obtain ⟨h2, h⟩ := cond_none h
    exact ⟨_, h, .inr ⟨kd, i, rfl, by simpa using h1, by simpa using h2, rfl⟩⟩
  · cases h
theorem OV.int {ι : Inj} {k : IntKind} {i : Int} {o : Option Value} (h : OV ι (some (.int k i)) o) : o = some (.int k i) := by
  cases o with
  | none => exact h.elim
  | some v => rw [VR.int h]
theorem OV.none' {ι : Inj} {o : Option Value} (h : OV ι none o) : o = none := by cases o with | none => rfl | some v => exact h.elim
theorem sliceBound_run (k : IntKind) (i : Int) (y : Nat) (code : BoundsCode) (h0 : 0 ≤ i) (h1 : i ≤ y) (w : World) : (Instr.sliceBound (.int k i) y code).run P w = .ok i.toNat w := by
  simp [Instr.sliceBound, asIntOf, h0, h1]
theorem gslice_sim {t : TypeId} {x : Value} {lo hi mx : Option Value} {K : Value → Option β} (h : gslice P t x lo hi mx K = some r) :
    ∃ v, K v = some r ∧ ∀ ι rx rlo rhi rmx, VR ι x rx → OV ι lo rlo → OV ι hi rhi → OV ι mx rmx → ∃ rv, VR ι v rv ∧ ∀ w, (Instr.sliceAt t rx rlo rhi rmx).run P w = .ok rv w := by
  unfold gslice at h
  have hmh := (cond_none' h).1
  replace h := (cond_none' h).2
  split at h
  · rename_i e a n c ht
    split at h
    · rename_i z hz
      have hz0 := (cond_none' h).1
      replace h := (cond_none' h).2
      have hz0' : z ≠ 0 := fun e => by subst e; simp at hz0
      obtain ⟨m, h, hm⟩ := gbound_some h
      obtain ⟨hh, h, hhh⟩ := gbound_some h
      obtain ⟨l, h, hl⟩ := gbound_some h
      refine ⟨_, h, fun ι rx rlo rhi rmx hx hlo hhi hmx => ?_⟩
      obtain ⟨q, c', rfl, hn⟩ := hx.slice
      have hcc : c ≤ c' := by
        cases hx with
        | same => exact Nat.le_refl _
        | sl _ _ _ _ _ p _ hc _ => rcases hc with rfl | ⟨_, h, _⟩ <;> omega
        | slE => exact Nat.zero_le _
        | slD _ _ _ _ _ _ h => exact h
      -- the bounds, as the model has them
      obtain ⟨m', hm', hrun⟩ : ∃ m', m ≤ m' ∧ (m' = m ∨ (m = c ∧ m' = c')) ∧ ∀ w, (Instr.sliceBounds true n c' rlo rhi rmx).run P w = .ok (l, hh, m') w := by
        rcases hm with ⟨hm1, hm2⟩ | ⟨km, im, hm1, hm2, hm3, hm4⟩
        · subst hm1; have := hmx.none'; subst this
          refine ⟨c', by omega, .inr ⟨hm2, rfl⟩, fun w => ?_⟩
          rcases hhh with ⟨hh1, hh2⟩ | ⟨kh, ih, hh1, hh2, hh3, hh4⟩
          · subst hh1; have := hhi.none'; subst this
            rcases hl with ⟨hl1, hl2⟩ | ⟨kl, il, hl1, hl2, hl3, hl4⟩
            · subst hl1; have := hlo.none'; subst this
              simp [Instr.sliceBounds, hh2, hl2]
            · subst hl1; have := hlo.int; subst this
              simp only [Instr.sliceBounds, Sem.run_bind, Sem.run_pure, Result.andThen_ok, sliceBound_run kl il n _ hl2 (by omega), hh2, hl4]
          · subst hh1; have := hhi.int; subst this
            rcases hl with ⟨hl1, hl2⟩ | ⟨kl, il, hl1, hl2, hl3, hl4⟩
            · subst hl1; have := hlo.none'; subst this
              simp only [Instr.sliceBounds, Sem.run_bind, Sem.run_pure, Result.andThen_ok, sliceBound_run kh ih c' _ hh2 (by omega), hh4, hl2]
            · subst hl1; have := hlo.int; subst this
              simp only [Instr.sliceBounds, Sem.run_bind, Sem.run_pure, Result.andThen_ok, sliceBound_run kh ih c' _ hh2 (by omega), sliceBound_run kl il ih.toNat _ hl2 (by omega), hh4, hl4]
        · subst hm1; have := hmx.int; subst this
          refine ⟨m, Nat.le_refl _, .inl rfl, fun w => ?_⟩
          rcases hhh with ⟨hh1, hh2⟩ | ⟨kh, ih, hh1, hh2, hh3, hh4⟩
          · subst hh1; simp at hmh
          · subst hh1; have := hhi.int; subst this
            rcases hl with ⟨hl1, hl2⟩ | ⟨kl, il, hl1, hl2, hl3, hl4⟩
            · subst hl1; have := hlo.none'; subst this
              simp only [Instr.sliceBounds, Sem.run_bind, Sem.run_pure, Result.andThen_ok, sliceBound_run km im c' _ hm2 (by omega), sliceBound_run kh ih im.toNat _ hh2 (by omega), hh4, hl2, hm4]
            · subst hl1; have := hlo.int; subst this
              simp only [Instr.sliceBounds, Sem.run_bind, Sem.run_pure, Result.andThen_ok, sliceBound_run km im c' _ hm2 (by omega), sliceBound_run kh ih im.toNat _ hh2 (by omega), sliceBound_run kl il ih.toNat _ hl2 (by omega), hh4, hl4, hm4]
      obtain ⟨hmm, hrun⟩ := hrun
      have hl_h : l ≤ hh := by
        rcases hl with ⟨_, h⟩ | ⟨_, il, _, h1, h2, h3⟩ <;> omega
      have hreal : ∀ w, (Instr.sliceAt t (.slice q n c') rlo rhi rmx).run P w = .ok (.slice (if m' = l then q else q.map (·.add (l * z))) (hh - l) (m' - l)) w := fun w => by
        simp only [Instr.sliceAt, Sem.run_bind, run_underlying ht, Result.andThen_ok, Instr.slice, hrun, sizeOf_run hz, Sem.run_pure]
      refine ⟨_, ?_, hreal⟩
      cases hx with
      | same _ hp =>
        cases a with
        | some a => cases hp
        | none =>
          have hm2 : m' = m := by rcases hmm with h | ⟨h1, h2⟩ <;> omega
          subst hm2
          have : (if m' = l then (none : Option Addr) else (none : Option Addr).map (·.add (l * z))) = none := by split <;> rfl
          rw [this]
          exact .same _ rfl
      | sl g o _ _ _ p hp hc hnc =>
        have hh_m : hh ≤ m := by
          rcases hhh with ⟨hi1, h⟩ | ⟨_, ih, _, h1, h2, h3⟩
          · rcases hm with ⟨hm1, hm2⟩ | ⟨km, im, hm1, hm2, hm3, hm4⟩
            · omega
            · subst hm1; subst hi1; simp at hmh
          · omega
        by_cases hml : m' = l
        · rw [if_pos hml]
          by_cases hl0 : l = 0
          · subst hl0
            rw [show addO (some ⟨g, o, none⟩) (0 * z) = some ⟨g, o, none⟩ by simp [addO]]
            refine .sl g o _ _ _ p hp ?_ (by omega)
            have : m = 0 := by omega
            rcases hc with rfl | ⟨h1, h2, h3⟩
            · exact .inl (by rcases hmm with h | ⟨h4, h5⟩ <;> omega)
            · exact .inl (by omega)
          · have h1 : hh - l = 0 ∧ m - l = 0 := ⟨by omega, by omega⟩
            rw [h1.1, h1.2, hml, Nat.sub_self]
            exact .slE ⟨g, o + l * z, none⟩ _ 0 (by have := Nat.mul_pos (Nat.pos_of_ne_zero hl0) (Nat.pos_of_ne_zero hz0'); show o + l * z ≠ 0; omega)
        · rw [if_neg hml]
          show VR ι (.slice (some ⟨g, o + l * z, none⟩) (hh - l) (m - l)) (.slice (some ((⟨p.blk, p.off + o, none⟩ : Addr).add (l * z))) (hh - l) (m' - l))
          rw [add_none, Nat.add_assoc]
          refine .sl g (o + l * z) _ _ _ p hp ?_ (by omega)
          rcases hmm with rfl | ⟨rfl, rfl⟩
          · exact .inl rfl
          · rcases hc with rfl | ⟨h1, h2, h3⟩
            · exact .inl rfl
            · refine .inr ⟨h1, by omega, fun h0 => ?_⟩
              have : l = 0 := by
                rcases Nat.eq_zero_or_pos l with h | h
                · exact h
                · have := Nat.mul_pos h (Nat.pos_of_ne_zero hz0'); omega
              subst this
              have := h3 (by omega)
              simpa using this
      | slE a r c' ho =>
        have e1 : hh - l = 0 ∧ m - l = 0 := by
          rcases hm with ⟨hm1, hm2⟩ | ⟨km, im, hm1, hm2, hm3, hm4⟩ <;> rcases hhh with ⟨_, h⟩ | ⟨_, ih, _, h1, h2, h3⟩ <;> omega
        rw [e1.1, e1.2]
        have : ∃ q', (if m' = l then some r else (some r).map (·.add (l * z))) = some q' := by split <;> exact ⟨_, rfl⟩
        obtain ⟨q', hq⟩ := this
        rw [hq]
        exact .slE _ q' _ (Nat.ne_of_gt (Nat.lt_of_lt_of_le (Nat.pos_of_ne_zero ho) (Nat.le_add_right _ _)))
      | slD a _ _ c' r hd hc =>
        have : ∃ q', (if m' = l then some r else (some r).map (·.add (l * z))) = some q' := by split <;> exact ⟨_, rfl⟩
        obtain ⟨q', hq⟩ := this
        rw [hq]
        exact .slD ⟨a.block, a.off + l * z, a.spot⟩ _ _ _ q' hd (by omega)
    · cases h
  · rename_i n e a ht
    split at h
    · rename_i z hz
      obtain ⟨g, o, rfl, h2⟩ := exA_some h
      clear h
      obtain ⟨m, h, hm⟩ := gbound_some h2
      obtain ⟨hh, h, hhh⟩ := gbound_some h
      obtain ⟨l, h, hl⟩ := gbound_some h
      refine ⟨_, h, fun ι rx rlo rhi rmx hx hlo hhi hmx => ?_⟩
      have hrun : ∀ w, (Instr.sliceBounds false n n rlo rhi rmx).run P w = .ok (l, hh, m) w := fun w => by
        rcases hm with ⟨hm1, hm2⟩ | ⟨km, im, hm1, hm2, hm3, hm4⟩
        · subst hm1; have := hmx.none'; subst this
          rcases hhh with ⟨hh1, hh2⟩ | ⟨kh, ih, hh1, hh2, hh3, hh4⟩
          · subst hh1; have := hhi.none'; subst this
            rcases hl with ⟨hl1, hl2⟩ | ⟨kl, il, hl1, hl2, hl3, hl4⟩
            · subst hl1; have := hlo.none'; subst this
              simp [Instr.sliceBounds, hh2, hl2, hm2]
            · subst hl1; have := hlo.int; subst this
              simp only [Instr.sliceBounds, Sem.run_bind, Sem.run_pure, Result.andThen_ok, sliceBound_run kl il n _ hl2 (by omega), hh2, hl4, hm2]
          · subst hh1; have := hhi.int; subst this
            rcases hl with ⟨hl1, hl2⟩ | ⟨kl, il, hl1, hl2, hl3, hl4⟩
            · subst hl1; have := hlo.none'; subst this
              simp only [Instr.sliceBounds, Sem.run_bind, Sem.run_pure, Result.andThen_ok, Bool.false_eq_true, if_false, sliceBound_run kh ih n _ hh2 (by omega), hh4, hl2, hm2]
            · subst hl1; have := hlo.int; subst this
              simp only [Instr.sliceBounds, Sem.run_bind, Sem.run_pure, Result.andThen_ok, Bool.false_eq_true, if_false, sliceBound_run kh ih n _ hh2 (by omega), sliceBound_run kl il ih.toNat _ hl2 (by omega), hh4, hl4, hm2]
        · subst hm1; have := hmx.int; subst this
          rcases hhh with ⟨hh1, hh2⟩ | ⟨kh, ih, hh1, hh2, hh3, hh4⟩
          · subst hh1; simp at hmh
          · subst hh1; have := hhi.int; subst this
            rcases hl with ⟨hl1, hl2⟩ | ⟨kl, il, hl1, hl2, hl3, hl4⟩
            · subst hl1; have := hlo.none'; subst this
              simp only [Instr.sliceBounds, Sem.run_bind, Sem.run_pure, Result.andThen_ok, Bool.false_eq_true, if_false, sliceBound_run km im n _ hm2 (by omega), sliceBound_run kh ih im.toNat _ hh2 (by omega), hh4, hl2, hm4]
            · subst hl1; have := hlo.int; subst this
              simp only [Instr.sliceBounds, Sem.run_bind, Sem.run_pure, Result.andThen_ok, Bool.false_eq_true, if_false, sliceBound_run km im n _ hm2 (by omega), sliceBound_run kh ih im.toNat _ hh2 (by omega), sliceBound_run kl il ih.toNat _ hl2 (by omega), hh4, hl4, hm4]
      have hreal : ∀ q w, (Instr.sliceAt t (.pointer (some q)) rlo rhi rmx).run P w = .ok (.slice (some (if m = l then q else q.add (l * z))) (hh - l) (m - l)) w := fun q w => by
        simp only [Instr.sliceAt, Sem.run_bind, run_underlying ht, Result.andThen_ok, Instr.sureAddr, hrun, sizeOf_run hz, Sem.run_pure]
      have hh_m : hh ≤ m := by
        rcases hhh with ⟨hi1, h⟩ | ⟨_, ih, _, h1, h2, h3⟩
        · rcases hm with ⟨hm1, hm2⟩ | ⟨km, im, hm1, hm2, hm3, hm4⟩
          · omega
          · subst hm1; subst hi1; simp at hmh
        · omega
      rcases hx.someP with ⟨p, hp, rfl⟩ | ⟨hd, q, rfl⟩
      · refine ⟨_, ?_, hreal _⟩
        by_cases hml : m = l
        · rw [if_pos hml, hml, beq_self]
          exact .sl g o _ _ _ p hp (.inl rfl) (by omega)
        · rw [if_neg hml, beq_ne hml, add_none, Nat.add_assoc]
          exact .sl g (o + l * z) _ _ _ p hp (.inl rfl) (by omega)
      · exact ⟨_, .slD ⟨g, _, none⟩ _ _ _ _ hd (Nat.le_refl _), hreal _⟩
    · cases h
  · rename_i s ht
    split at h
    · cases h
    · obtain ⟨hh, h, hhh⟩ := gbound_some h
      obtain ⟨l, h, hl⟩ := gbound_some h
      refine ⟨_, h, fun ι rx rlo rhi rmx hx hlo hhi hmx => ⟨_, .same _ rfl, fun w => ?_⟩⟩
      rw [hx.str, hmx.none']
      have hrun : (Instr.sliceBounds false s.size s.size rlo rhi none).run P w = .ok (l, hh, s.size) w := by
        rcases hhh with ⟨hh1, hh2⟩ | ⟨kh, ih, hh1, hh2, hh3, hh4⟩
        · subst hh1; have := hhi.none'; subst this
          rcases hl with ⟨hl1, hl2⟩ | ⟨kl, il, hl1, hl2, hl3, hl4⟩
          · subst hl1; have := hlo.none'; subst this
            simp [Instr.sliceBounds, hh2, hl2]
          · subst hl1; have := hlo.int; subst this
            simp only [Instr.sliceBounds, Sem.run_bind, Sem.run_pure, Result.andThen_ok, sliceBound_run kl il s.size _ hl2 (by omega), hh2, hl4]
        · subst hh1; have := hhi.int; subst this
          rcases hl with ⟨hl1, hl2⟩ | ⟨kl, il, hl1, hl2, hl3, hl4⟩
          · subst hl1; have := hlo.none'; subst this
            simp only [Instr.sliceBounds, Sem.run_bind, Sem.run_pure, Result.andThen_ok, Bool.false_eq_true, if_false, sliceBound_run kh ih s.size _ hh2 (by omega), hh4, hl2]
          · subst hl1; have := hlo.int; subst this
            simp only [Instr.sliceBounds, Sem.run_bind, Sem.run_pure, Result.andThen_ok, Bool.false_eq_true, if_false, sliceBound_run kh ih s.size _ hh2 (by omega), sliceBound_run kl il ih.toNat _ hl2 (by omega), hh4, hl4]
      simp only [Instr.sliceAt, Sem.run_bind, run_underlying ht, Result.andThen_ok, Instr.slice, Option.isSome_none, Bool.false_eq_true, if_false, hrun, Sem.run_pure]
  · cases h
end Go.Proofs.Ytephmpbccajaaaa.Gx

