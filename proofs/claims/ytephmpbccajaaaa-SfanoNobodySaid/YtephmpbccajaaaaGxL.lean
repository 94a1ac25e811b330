/- The plain machine and the model: operations that make a block, that read one, that act. No condition. -/
import Derived.Test.YtephmpbccajaaaaGxKb
namespace Go.Proofs.Ytephmpbccajaaaa.Gx
open Go Go.RowKit
set_option linter.unusedVariables false
set_option linter.unusedSimpArgs false
variable {P : Program} {β : Type} {r : β}

theorem reps_length {α : Type} (l : List α) : ∀ n, (reps n l).length = n * l.length
  | 0 => by simp [reps]
  | n + 1 => by simp [reps, reps_length l n, Nat.add_mul, Nat.add_comm]
theorem reps_get {α : Type} (l : List α) : ∀ n i, i < n * l.length → (reps n l)[i]? = l[i % l.length]?
  | 0, i, h => by simp at h
  | n + 1, i, h => by
    rw [reps]
    by_cases hi : i < l.length
    · rw [List.getElem?_append_left hi, Nat.mod_eq_of_lt hi]
    · rw [List.getElem?_append_right (by omega), reps_get l n _ (by rw [Nat.add_mul] at h; omega)]
      congr 1
      exact (Nat.mod_eq_sub_mod (by omega)).symm
theorem made_reps (z : Array Value) (hz : 0 < z.size) (n : Nat) : ((Array.range (n * z.size)).map (z[· % z.size]!)).toList = reps n z.toList := by
  apply List.ext_getElem?
  intro i
  by_cases hi : i < n * z.size
  · rw [reps_get _ _ _ (by simpa using hi)]
    simp [hi]
    have : i % z.size < z.size := Nat.mod_lt _ hz
    simp [this]
  · rw [List.getElem?_eq_none (by simp; omega), List.getElem?_eq_none (by rw [reps_length]; simpa using hi)]
theorem reps_plains {l : List Value} (h : plains l = true) : ∀ n, plains (reps n l) = true := by
  have ap : ∀ (a b : List Value), plains a = true → plains b = true → plains (a ++ b) = true := fun a b => by
    induction a with
    | nil => exact fun _ h => h
    | cons x a ih => intro h1 h2; simp only [plains, Bool.and_eq_true, List.cons_append] at *; exact ⟨h1.1, ih h1.2 h2⟩
  intro n
  induction n with
  | zero => rfl
  | succ n ih => exact ap _ _ h ih
theorem plainC_cells {v : Value} (h : plainC v = true) : plains (vcells v) = true := by
  cases v <;> first | exact h | (simp only [plainC, vcells, plains, Bool.and_true] at *; exact h)
theorem rel_get {ι : Inj} {vs : List Value} {rc : Array Value} (h : All2 (VR ι) vs rc.toList) : ∀ i v, nth vs i = some v → ∃ r, rc[i]? = some r ∧ VR ι v r := fun i v hv => by
  obtain ⟨c, hc, h'⟩ := h.get hv
  exact ⟨c, by rw [nth_eq] at hc; simpa using hc, h'⟩
/-- what an operation that makes a block does -/
def Makes (P : Program) (o : Oper) (e : Env) (h : GH) (v : Value) (blk : Blk) : Prop :=
  blk.ro = false ∧ ∃ mk : Addr → Value, v = mk ⟨h.next, 0, none⟩ ∧ (∀ (ι : Inj) p, ι h.next = .live p → p.off = 0 → VR ι (mk ⟨h.next, 0, none⟩) (mk ⟨p.blk, 0, none⟩)) ∧
    ∀ ι a, ER ι e a → ∃ rc el, blk.cells.length ≤ rc.size ∧ (∀ i v, nth blk.cells i = some v → ∃ r, rc[i]? = some r ∧ VR ι v r) ∧
      ∀ w, (execOp a.eval o).run P w = .ok (.value (mk ⟨w.heap.size, 0, none⟩)) (w.alloc (.cells rc el))
theorem mkP {ι : Inj} {g : Nat} {p : Pl} (h : ι g = .live p) (h0 : p.off = 0) : VR ι (.pointer (some ⟨g, 0, none⟩)) (.pointer (some ⟨p.blk, 0, none⟩)) := by
  have := VR.ptr (ι := ι) g 0 p h
  rw [h0] at this; exact this
theorem mkS {ι : Inj} {g n c : Nat} {p : Pl} (h : ι g = .live p) (h0 : p.off = 0) (hn : n ≤ c) : VR ι (.slice (some ⟨g, 0, none⟩) n c) (.slice (some ⟨p.blk, 0, none⟩) n c) := by
  have := VR.sl (ι := ι) g 0 n c c p h (.inl rfl) hn
  rw [h0] at this; exact this
theorem opKind_convert (s d : TypeId) (x : Operand) : opKind P (.convert s d x) = .pure ∨ opKind P (.convert s d x) = .eff := by
  unfold opKind; simp only []; split <;> simp
theorem gop_alloc {C : Orc β} {o : Oper} {e : Env} {h : GH} {K : Value → GH → Option β} (hk : (match opKind P o.op with | .alloc => true | _ => false) = true) (hg : gop P C o e h K = some r) :
    ∃ v blk, K v (h.push (.row blk)) = some r ∧ Makes P o e h v blk := by
  unfold gop at hg
  cases ho : o.op
  all_goals
    rw [ho] at hg hk
    simp only [] at hg
  all_goals try (simp [opKind] at hk; done)
  case convert s d x => rcases opKind_convert (P := P) s d x with h1 | h1 <;> (rw [h1] at hk; cases hk)
  case alloc t =>
    split at hg
    · rename_i z hz
      have hp := (cond_none hg).1
      obtain ⟨hc, hg⟩ := gnew_some (cond_none hg).2
      refine ⟨_, _, hg, rfl, fun a => .pointer (some a), rfl, fun ι p h1 h2 => mkP h1 h2, fun ι a er => ⟨z.cells, t, ?_, rel_get (by rw [cells_eq]; exact plains_all (plainC_cells hp) ι), fun w => ?_⟩⟩
      · rw [← cells_eq]; simp
      · simp [execOp, ho, Instr.alloc, zero_run hz, newVar, newRow]
    · cases hg
  case box t x =>
    obtain ⟨hc, hg⟩ := gnew_some hg
    refine ⟨_, _, hg, rfl, fun a => .pointer (some a), rfl, fun ι p h1 h2 => mkP h1 h2, fun ι a er => ⟨(a.eval x).cells, t, ?_, rel_get (vcells_rel (er.eval x) hc), fun w => ?_⟩⟩
    · have := (vcells_rel (er.eval x) hc).length; simp at this; exact Nat.le_of_eq this
    · simp [execOp, ho, Instr.box, newVar, newRow]
  case buildSlice t n ps =>
    split at hg
    · rename_i el hel
      split at hg
      · rename_i z v hz hv
        have hb := (cond_none hg).1
        replace hg := (cond_none hg).2
        simp only [Bool.and_eq_true] at hb
        obtain ⟨⟨⟨hp, hl⟩, hz0⟩, hn⟩ := hb
        have hl := Nat.eq_of_beq_eq_true hl
        have hz0 := Nat.le_of_ble_eq_true hz0
        have hn := Nat.le_of_ble_eq_true hn
        obtain ⟨cs, hg, hf⟩ := gfill_sim hg
        obtain ⟨hc, hg⟩ := gnew_some hg
        obtain ⟨i, hi, hiz⟩ := zero_of hv
        obtain ⟨i', hi', hsz⟩ := info_of hz
        rw [hi] at hi'; cases hi'
        have hu : P.underlying t = some (.slice el) := by
          unfold elemT at hel; split at hel
          · rename_i hu; cases hel; exact hu
          · cases hel
        have hvs : v.cells.size = z := by have := cells_eq v; rw [← hl, ← this]; simp
        refine ⟨_, _, hg, rfl, fun a => .slice (some a) n n, rfl, fun ι p h1 h2 => mkS h1 h2 (Nat.le_refl _), fun ι a er => ?_⟩
        obtain ⟨rcs, h1, h2⟩ := hf ι (ps.toList.map fun p => (p.1, a.eval p.2)) ((Array.range (n * z)).map (v.cells[· % v.cells.size]!)) (er.parts ps.toList)
          (by rw [← hvs, made_reps _ (by omega), cells_eq]; exact plains_all (reps_plains (plainC_cells hp) n) ι)
        refine ⟨rcs, el, by have := h2.length; simp at this; exact Nat.le_of_eq this, rel_get h2, fun w => ?_⟩
        have h1' : Instr.fill (fun i => some (i * z, z)) ((Array.range (n * z)).map (v.cells[· % v.cells.size]!)) (ps.map fun (i, x) => (i, a.eval x)).toList = some rcs := by simpa using h1
        by_cases h0 : n * z = 0
        · simp only [execOp, ho, Sem.run_bind]
          simp [Instr.buildSlice, run_underlying hu, sizeOf, typeInfo, zeroValue, hi, hsz, h0, newRow]
          have e0 : Array.map (fun x => v.cells[x % v.cells.size]!) (Array.range 0) = #[] := by simp
          rw [h0, e0] at h1
          have e1 : (Array.map (fun _ => (default : Value)) (Array.range 0)) = #[] := by simp [Array.range]
          rw [e1, h1]
          simp
        · simp only [execOp, ho, Sem.run_bind, run_buildSlice w t el n _ rcs i v hu hi hiz (by rw [hsz]; omega) (by rw [hsz]; exact h0) (by rw [hsz]; exact h1'), Result.andThen_ok, Sem.run_pure]
      · cases hg
    · cases hg
  case makeSlice t l c =>
    split at hg
    · rename_i el hel
      split at hg
      · rename_i kl lv kc cv z v b hl hc hz hv hb
        have hq := (cond_none hg).1
        replace hg := (cond_none hg).2
        simp only [Bool.and_eq_true] at hq
        obtain ⟨⟨hp, hlz⟩, hz0⟩ := hq
        have hlz := Nat.eq_of_beq_eq_true hlz
        have hz0 := Nat.le_of_ble_eq_true hz0
        unfold gmake at hg
        have h0 : 0 ≤ lv := by simpa using (cond_none hg).1
        replace hg := (cond_none hg).2
        have hlc : lv ≤ cv := by simpa using (cond_none hg).1
        replace hg := (cond_none hg).2
        have hm : ((b : Int) + 1) * cv ≤ most := by simpa using (cond_none hg).1
        replace hg := (cond_none hg).2
        obtain ⟨hcs, hg⟩ := gnew_some hg
        obtain ⟨i, hi, hiz⟩ := zero_of hv
        obtain ⟨i', hi', hsz⟩ := info_of hz
        rw [hi] at hi'; cases hi'
        obtain ⟨i', hi', hbz⟩ := bytes_of hb
        rw [hi] at hi'; cases hi'
        have hu : P.underlying t = some (.slice el) := by
          unfold elemT at hel; split at hel
          · rename_i hu; cases hel; exact hu
          · cases hel
        have hvs : v.cells.size = z := by have := cells_eq v; rw [← hlz, ← this]; simp
        have e1 : ((b : Int) + 1) * cv = b * cv + cv := by rw [Int.add_mul]; simp
        have hbc : 0 ≤ (b : Int) * cv := Int.mul_nonneg (by omega) (by omega)
        simp only [most] at hm
        refine ⟨_, _, hg, rfl, fun a => .slice (some a) lv.toNat cv.toNat, rfl, fun ι p h1 h2 => mkS h1 h2 (by omega), fun ι a er => ?_⟩
        refine ⟨madeCells v.cells (cv.toNat * z), el, ?_, rel_get ?_, fun w => ?_⟩
        · rw [size_madeCells]; show (reps cv.toNat (vcells v)).length ≤ _; rw [reps_length, hlz]; exact Nat.le_refl _
        · show All2 (VR ι) (reps cv.toNat (vcells v)) _
          unfold madeCells
          rw [← hvs, made_reps _ (by omega), cells_eq]
          exact plains_all (reps_plains (plainC_cells hp) _) ι
        · have hlr := (er.eval l)
          rw [hl] at hlr
          have hcr := (er.eval c)
          rw [hc] at hcr
          have hr := run_make w t el i v hu hi hiz kl kc lv cv h0 hlc (by rw [hbz]; omega) (by omega)
          rw [hsz] at hr
          simp only [execOp, ho, Sem.run_bind, hlr.int, hcr.int, hr, Result.andThen_ok, Sem.run_pure]
      · cases hg
    · cases hg
  case call c =>
    obtain ⟨cal, args, ats⟩ := c
    cases cal with
    | value f => simp [opKind] at hk
    | invoke f m => simp [opKind] at hk
    | builtin b => cases b <;> (simp [opKind] at hk)

/-- a load -/
theorem gop_read {C : Orc β} {o : Oper} {e : Env} {h : GH} {K : Value → GH → Option β} (hk : (match opKind P o.op with | .read => true | _ => false) = true) (hg : gop P C o e h K = some r) :
    ∃ t x g off v b, o.op = .load t x ∧ e.eval x = .pointer (some ⟨g, off, none⟩) ∧ K v h = some r ∧ 0 < loadN P t ∧ h.look g = some (.row b) ∧ off + loadN P t ≤ b.cells.length ∧
      (∀ (b' : Blk), off + loadN P t ≤ b'.cells.length → (∀ i, i < loadN P t → nth b'.cells (off + i) = nth b.cells (off + i)) → ∀ ι p w, RowOk ι p b' w →
        ∃ rv, VR ι v rv ∧ (Instr.loadAt t (.pointer (some ⟨p.blk, p.off + off, none⟩))).run P w = .ok rv w) := by
  unfold gop at hg
  cases ho : o.op
  all_goals
    rw [ho] at hg hk
    simp only [] at hg
  all_goals try (simp [opKind] at hk; done)
  case convert s d x => rcases opKind_convert (P := P) s d x with h1 | h1 <;> (rw [h1] at hk; cases hk)
  case load t x =>
    split at hg
    · rename_i p hp
      obtain ⟨g, off, rfl, h2⟩ := exA_some hg
      obtain ⟨v, b, h3, h3', h4, h5, h6⟩ := gload_sim h2
      exact ⟨t, x, g, off, v, b, rfl, hp, h3, h3', h4, h5, h6⟩
    · cases hg
  case call c =>
    obtain ⟨cal, args, ats⟩ := c
    cases cal with
    | value f => simp [opKind] at hk
    | invoke f m => simp [opKind] at hk
    | builtin b => cases b <;> (simp [opKind] at hk)

/-! ### calls -/
def CallSim (P : Program) (f : FuncId) (args : List Value) (h : GH) (v : Value) (h' : GH) : Prop :=
  (∃ fn, P.funcs[f]? = some fn ∧ (fn.name == "runtime.NumGoroutine") = false ∧ fn.body.isNone = false) ∧ h.next ≤ h'.next ∧
    ∀ ι w (rargs : List Value), Good ι h h'.next w → All2 (VR ι) args rargs → Calls P f rargs.toArray w (fun e w' => ∃ rv ι', e = .returned rv ∧ Stp h ι w h' ι' w' ∧ VR ι' v rv)
/-- a function without a body: the model's own entry -/
def ExtSim (P : Program) (f : FuncId) (args : List Value) (h : GH) (v : Value) (h' : GH) : Prop :=
  h.next ≤ h'.next ∧ ∀ ι w (rargs : List Value), Good ι h h'.next w → All2 (VR ι) args rargs → ∃ rv ι' w', (callFunc f rargs.toArray).run P w = .ok (.value rv) w' ∧ Stp h ι w h' ι' w' ∧ VR ι' v rv
def AnySim (P : Program) (f : FuncId) (args : List Value) (h : GH) (v : Value) (h' : GH) : Prop := CallSim P f args h v h' ∨ ExtSim P f args h v h'
def SimOrc (P : Program) (C : Orc β) : Prop := ∀ f args h (K : Value → GH → Option β) r, C f args h K = some r → ∃ v h', K v h' = some r ∧ AnySim P f args h v h'
theorem any_call {f : FuncId} {args : List Value} {h : GH} {K : Value → GH → Option β} (x : ∃ v h', K v h' = some r ∧ CallSim P f args h v h') : ∃ v h', K v h' = some r ∧ AnySim P f args h v h' := by
  obtain ⟨v, h', hk, hs⟩ := x; exact ⟨v, h', hk, .inl hs⟩
theorem any_ext {f : FuncId} {args : List Value} {h : GH} {K : Value → GH → Option β} (x : ∃ v h', K v h' = some r ∧ ExtSim P f args h v h') : ∃ v h', K v h' = some r ∧ AnySim P f args h v h' := by
  obtain ⟨v, h', hk, hs⟩ := x; exact ⟨v, h', hk, .inr hs⟩
/-- what an operation does -/
def OpSim (P : Program) (o : Oper) (e : Env) (h : GH) (v : Value) (h' : GH) : Prop :=
  h.next ≤ h'.next ∧ ∀ ι w a, Good ι h h'.next w → ER ι e a → ∀ (next : Act → World → Prop) Q, (∀ rv ι' w', Stp h ι w h' ι' w' → VR ι' v rv → next (a.put o.dst rv) w') → o.wp P a w next Q
theorem gop_eff {C : Orc β} (hC : SimOrc P C) {o : Oper} {e : Env} {h : GH} {K : Value → GH → Option β} (hk : isEff P o = true) (hg : gop P C o e h K = some r) :
    ∃ v h', K v h' = some r ∧ OpSim P o e h v h' := by
  unfold isEff at hk
  unfold gop at hg
  cases ho : o.op
  all_goals
    rw [ho] at hg hk
    simp only [] at hg
  all_goals try (simp [opKind] at hk; done)
  case store t x y =>
    obtain ⟨h', hK, hn, hs⟩ := gstore_sim hg
    refine ⟨_, h', hK, by omega, fun ι w a gd er next Q hnext => ?_⟩
    obtain ⟨w', h1, h2⟩ := hs ι w _ _ gd (er.eval x) (er.eval y)
    have : (execOp a.eval o).run P w = .ok .skip w' := by simp only [execOp, ho, Sem.run_bind, h1, Result.andThen_ok, Sem.run_pure]
    unfold Oper.wp
    rw [this]
    exact hnext _ ι w' h2 (.un _)
  case convert s d x =>
    obtain ⟨v, h', hK, hn, hs⟩ := gconvX_sim hg
    refine ⟨v, h', hK, hn, fun ι w a gd er next Q hnext => ?_⟩
    obtain ⟨rv, ι', w', h1, h2, h3⟩ := hs ι w _ gd (er.eval x)
    have hrun : (execOp a.eval o).run P w = .ok (.value rv) w' := by simp only [execOp, ho, Sem.run_bind, h1, Result.andThen_ok, Sem.run_pure]
    unfold Oper.wp
    rw [hrun]
    exact hnext rv ι' w' h2 h3
  case makeMap t rs =>
    have hm : (∃ kt et, P.underlying t = some (.map kt et)) ∧ (rs.map e.eval = none ∨ ∃ q n, rs.map e.eval = some (.int q n)) ∧ K (.map (some h.next)) (h.push (.map [])) = some r := by
      split at hg
      · rename_i hu hr; exact ⟨⟨_, _, hu⟩, .inl hr, hg⟩
      · rename_i hu hr; exact ⟨⟨_, _, hu⟩, .inr ⟨_, _, hr⟩, hg⟩
      · cases hg
    obtain ⟨⟨kt, et, hu⟩, hr, hg⟩ := hm
    refine ⟨_, _, hg, Nat.le_succ _, fun ι w a gd er next Q hnext => ?_⟩
    have hst := newmap_stp gd
    have hrun : (execOp a.eval o).run P w = .ok (.value (.map (some w.heap.size))) (w.alloc (.map #[] 0)) := by
      have ho' := er.opt rs
      rcases hr with hr | ⟨q, n, hr⟩
      · rw [hr] at ho'
        have := ho'.none'
        simp [execOp, ho, this, Instr.makeMap]
      · rw [hr] at ho'
        have := ho'.int
        simp [execOp, ho, this, Instr.makeMap, run_underlying hu, asInt, asIntOf]
    unfold Oper.wp
    rw [hrun]
    exact hnext _ _ _ hst (.map h.next _ (upd_same _ _ _))
  case lookup t x k ok =>
    obtain ⟨v, hK, hs⟩ := glookup_sim hg
    refine ⟨v, h, hK, Nat.le_refl _, fun ι w a gd er next Q hnext => ?_⟩
    obtain ⟨rv, h1, h2⟩ := hs ι w _ _ gd.hr (er.eval x) (er.eval k)
    have hrun : (execOp a.eval o).run P w = .ok (.value rv) w := by simp only [execOp, ho, Sem.run_bind, h2, Result.andThen_ok, Sem.run_pure]
    unfold Oper.wp
    rw [hrun]
    exact hnext rv ι w (.refl gd.hr) h1
  case mapUpdate t m k x =>
    obtain ⟨h', hK, hn, hs⟩ := gmapPut_sim hg
    refine ⟨_, h', hK, by omega, fun ι w a gd er next Q hnext => ?_⟩
    obtain ⟨w', h1, h2⟩ := hs ι w _ _ _ gd (er.eval m) (er.eval k) (er.eval x)
    have hrun : (execOp a.eval o).run P w = .ok .skip w' := by simp only [execOp, ho, Sem.run_bind, h1, Result.andThen_ok, Sem.run_pure]
    unfold Oper.wp
    rw [hrun]
    exact hnext _ ι w' h2 (.un _)
  case insert t m k x =>
    obtain ⟨h', hK, hn, hs⟩ := gmapPut_sim hg
    refine ⟨_, h', hK, by omega, fun ι w a gd er next Q hnext => ?_⟩
    obtain ⟨w', h1, h2⟩ := hs ι w _ _ _ gd (er.eval m) (er.eval k) (er.eval x)
    have hrun : (execOp a.eval o).run P w = .ok .skip w' := by simp only [execOp, ho, Sem.run_bind, h1, Result.andThen_ok, Sem.run_pure]
    unfold Oper.wp
    rw [hrun]
    exact hnext _ ι w' h2 (.un _)
  case call c =>
    obtain ⟨cal, args, ats⟩ := c
    cases cal with
    | invoke f m => cases hg
    | value f =>
      simp only [] at hg
      unfold gcall at hg
      split at hg
      · rename_i fid first captured hf
        obtain ⟨v, h', hK, hany⟩ := hC _ _ _ _ _ hg
        rcases hany with ⟨⟨fn, hfn, hnm, hbd⟩, hn, hs⟩ | ⟨hn, hs⟩
        rotate_left
        · refine ⟨v, h', hK, hn, fun ι w a gd er next Q hnext => ?_⟩
          have hfv := er.eval f
          rw [hf] at hfv
          obtain ⟨fs', cs', he, h1, h2⟩ := hfv.funcL
          have hargs := er.evs args.toList
          obtain ⟨rv, ι', w', hrun0, h3, h4⟩ := hs ι w (fs'.toList ++ args.toList.map a.eval ++ cs'.toList) gd ((h1.append hargs).append h2)
          have e1 : fs' ++ args.map a.eval ++ cs' = (fs'.toList ++ args.toList.map a.eval ++ cs'.toList).toArray := by apply Array.ext'; simp
          have hrun : (execOp a.eval o).run P w = .ok (.value rv) w' := by
            simp only [execOp, ho, Sem.run_bind, resolve, he, Deferred.ofValue, Sem.run_pure, Result.andThen_ok, invoke]
            rw [e1]; exact hrun0
          unfold Oper.wp
          rw [hrun]
          exact hnext rv ι' w' h3 h4
        refine ⟨v, h', hK, hn, fun ι w a gd er next Q hnext => ?_⟩
        have hfv := er.eval f
        rw [hf] at hfv
        obtain ⟨fs', cs', he, h1, h2⟩ := hfv.funcL
        have hargs := er.evs args.toList
        have hcall := hs ι w (fs'.toList ++ args.toList.map a.eval ++ cs'.toList) gd ((h1.append hargs).append h2)
        have e1 : fs' ++ args.map a.eval ++ cs' = (fs'.toList ++ args.toList.map a.eval ++ cs'.toList).toArray := by apply Array.ext'; simp
        have hrun : (execOp a.eval o).run P w = .ok (.enter fid (fs' ++ args.map a.eval ++ cs')) w := by
          simp only [execOp, ho, Sem.run_bind, resolve, he, Deferred.ofValue, Sem.run_pure, Result.andThen_ok, invoke, callFunc, run_program, hfn, hnm, hbd, Bool.false_eq_true, if_false]
        unfold Oper.wp
        rw [hrun, Oper.upon_enter, e1]
        refine hcall.mono ?_
        rintro ev w' ⟨rv, ι', rfl, h3, h4⟩
        exact hnext rv ι' w' h3 h4
      · cases hg
    | builtin b =>
      simp only [] at hg
      cases b <;> simp only [] at hg <;> try (simp [opKind] at hk; done)
      all_goals try (cases hg; done)
      case append =>
        split at hg
        · rename_i a0 n0 c0 a1 n1 c1 t u hx ht
          split at hg
          · rename_i el hel
            split at hg
            · rename_i z b v hz hb hv
              have hq := (cond_none hg).1
              replace hg := (cond_none hg).2
              simp only [Bool.and_eq_true] at hq
              obtain ⟨⟨hq1, hq2⟩, hq3⟩ := hq
              have hq1 := Nat.eq_of_beq_eq_true hq1
              subst hq1
              have hu : P.underlying t = some (.slice el) := by
                unfold elemT at hel; split at hel
                · rename_i hu; cases hel; exact hu
                · cases hel
              obtain ⟨s', h', hK, hn, hs⟩ := gappS_sim (ty := o.type) hu hz hb hv (Nat.eq_of_beq_eq_true hq2) (Nat.le_of_ble_eq_true hq3) hg
              refine ⟨_, h', hK, hn, fun ι w a gd er next Q hnext => ?_⟩
              have hev := er.evs args.toList
              rw [hx] at hev
              obtain ⟨r0, r1, hr, h1, h2⟩ : ∃ r0 r1, args.toList.map a.eval = [r0, r1] ∧ VR ι (.slice a0 n0 c0) r0 ∧ VR ι (.slice a1 n1 c1) r1 := by
                revert hev
                generalize args.toList.map a.eval = l
                intro hev
                cases hev with
                | cons h1 h2 => cases h2 with
                  | cons h2 h3 => cases h3; exact ⟨_, _, rfl, h1, h2⟩
              obtain ⟨rv, ι', w', h3, h4, h5⟩ := hs ι w r0 r1 gd h1 h2
              have e1 : args.map a.eval = #[r0, r1] := arr_two (by rw [Array.toList_map]; exact hr)
              have e2 : ats = #[t, t] := by apply Array.ext'; simpa using ht
              have hrun : (execOp a.eval o).run P w = .ok (.value rv) w' := by
                simp only [execOp, ho, Sem.run_bind, resolve, Sem.run_pure, Result.andThen_ok, invoke, builtin, e1, e2, h3]
              unfold Oper.wp
              rw [hrun]
              exact hnext rv ι' w' h4 h5
            · cases hg
          · cases hg
        · cases hg
      case copy =>
        split at hg
        · rename_i a0 n0 c0 a1 n1 c1 t u hx ht
          split at hg
          · rename_i el hel
            split at hg
            · rename_i z hz
              have hq3 := (cond_none hg).1
              replace hg := (cond_none hg).2
              have hu : P.underlying t = some (.slice el) := by
                unfold elemT at hel; split at hel
                · rename_i hu; cases hel; exact hu
                · cases hel
              have e2 : ats[0]? = some t := by
                have : ats.toList[0]? = some t := by rw [ht]; rfl
                simpa using this
              obtain ⟨m, h', hK, hn, hs⟩ := gcopy_sim (ty := o.type) e2 hu hz (Nat.le_of_ble_eq_true hq3) hg
              refine ⟨_, h', hK, Nat.le_of_eq hn, fun ι w a gd er next Q hnext => ?_⟩
              have hev := er.evs args.toList
              rw [hx] at hev
              obtain ⟨r0, r1, hr, h1, h2⟩ : ∃ r0 r1, args.toList.map a.eval = [r0, r1] ∧ VR ι (.slice a0 n0 c0) r0 ∧ VR ι (.slice a1 n1 c1) r1 := by
                revert hev
                generalize args.toList.map a.eval = l
                intro hev
                cases hev with
                | cons h1 h2 => cases h2 with
                  | cons h2 h3 => cases h3; exact ⟨_, _, rfl, h1, h2⟩
              obtain ⟨w', h3, h4⟩ := hs ι w r0 r1 gd h1 h2
              have e1 : args.map a.eval = #[r0, r1] := arr_two (by rw [Array.toList_map]; exact hr)
              have hrun : (execOp a.eval o).run P w = .ok (.value (.int .i64 m)) w' := by
                simp only [execOp, ho, Sem.run_bind, resolve, Sem.run_pure, Result.andThen_ok, invoke, builtin, e1, h3]
              unfold Oper.wp
              rw [hrun]
              exact hnext _ ι w' h4 (.same _ rfl)
            · cases hg
          · cases hg
        · cases hg
end Go.Proofs.Ytephmpbccajaaaa.Gx

