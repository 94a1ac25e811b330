/- The plain machine and the model: values that are built, loads, new blocks. No condition. -/
import Derived.Test.YtephmpbccajaaaaGxG
import Derived.Laws.Tables
import Derived.Great.BuildSlice
import Derived.Laws.MakeOwn
namespace Go.Proofs.Ytephmpbccajaaaa.Gx
open Go Go.RowKit
set_option linter.unusedVariables false
set_option linter.unusedSimpArgs false
variable {P : Program} {β : Type} {r : β}

theorem fold_lay (l : List Value) : ∀ (k o : Nat) (cs : Array Value), o + k + l.length ≤ cs.size →
    ((l.zipIdx k).foldl (fun (cs : Array Value) (x : Value × Nat) => cs.setIfInBounds (o + x.2) x.1) cs).toList = nlay cs.toList (o + k) l := by
  induction l with
  | nil => intro k o cs h; simp [nlay_eq]
  | cons v l ih =>
    intro k o cs h
    simp only [List.zipIdx_cons, List.foldl_cons]
    simp only [List.length_cons] at h
    rw [ih (k + 1) o _ (by simp; omega)]
    apply List.ext_getElem?
    intro i
    rw [← nth_eq, ← nth_eq, nth_nlay (by simp; omega), nth_nlay (by simp; omega)]
    simp only [List.length_cons]
    by_cases h1 : i = o + k
    · subst h1
      rw [if_neg (by omega), if_pos (by omega), Nat.sub_self, nth_eq]
      have : o + k < cs.size := by omega
      simp [nth, this]
    · by_cases h2 : o + (k + 1) ≤ i ∧ i < o + (k + 1) + l.length
      · rw [if_pos h2, if_pos (by omega), show i - (o + k) = (i - (o + (k + 1))) + 1 by omega]
        rfl
      · rw [if_neg h2, if_neg (by omega), nth_eq, nth_eq]
        simp [List.getElem?_set, Ne.symm h1]
theorem vcells_rel {ι : Inj} {v rv : Value} (h : VR ι v rv) (hc : allCells (vcells v) = true) : All2 (VR ι) (vcells v) rv.cells.toList := by
  cases h with
  | un => simp [vcells, allCells, isCell] at hc
  | sk => simp [vcells, allCells, isCell] at hc
  | same _ hp => cases v <;> first | exact .cons (.same _ hp) .nil | cases hp
  | agg cs rs hl h => exact .of hl fun i a c ha hc => h i a c ha hc
  | tup => simp [vcells, allCells, isCell] at hc
  | ptr g o p h => exact .cons (.ptr g o p h) .nil
  | ptrD a r h => exact .cons (.ptrD a r h) .nil
  | sl g o n c c' p h h1 h2 => exact .cons (.sl g o n c c' p h h1 h2) .nil
  | slE a r c' h => exact .cons (.slE a r c' h) .nil
  | slD a n c c' r h h' => exact .cons (.slD a n c c' r h h') .nil
  | map g p h => exact .cons (.map g p h) .nil
  | mapD g r h => exact .cons (.mapD g r h) .nil
  | func fn fs fs' cs cs' hf h hc' h' => exact .cons (.func fn fs fs' cs cs' hf h hc' h') .nil
theorem All2.lay {α γ : Type} {R : α → γ → Prop} {as m : List α} {cs m' : List γ} (h : All2 R as cs) (o : Nat) (hm : All2 R m m') : All2 R (nlay as o m) (nlay cs o m') := by
  rw [nlay_eq, nlay_eq, hm.length]
  exact ((h.take o).append hm).append (h.drop _)
def PR (ι : Inj) (a b : Nat × Value) : Prop := a.1 = b.1 ∧ VR ι a.2 b.2
theorem gfill_sim {place : Nat → Option (Nat × Nat)} {parts : List (Nat × Value)} : ∀ {cs : List Value} {K : List Value → Option β}, gfill place parts cs K = some r →
    ∃ cs', K cs' = some r ∧ ∀ ι rparts (rcs : Array Value), All2 (PR ι) parts rparts → All2 (VR ι) cs rcs.toList → ∃ rcs', Instr.fill place rcs rparts = some rcs' ∧ All2 (VR ι) cs' rcs'.toList := by
  induction parts with
  | nil => exact fun h => ⟨_, h, fun ι rparts rcs hp hc => by cases hp; exact ⟨rcs, rfl, hc⟩⟩
  | cons p parts ih =>
    intro cs K h
    obtain ⟨i, v⟩ := p
    simp only [gfill] at h
    split at h
    · cases h
    · rename_i o n hpl
      have hb := (cond_none h).1
      replace h := (cond_none h).2
      simp only [Bool.and_eq_true] at hb
      obtain ⟨⟨h1, h2⟩, h3⟩ := hb
      have h1' : (vcells v).length = n := Nat.eq_of_beq_eq_true h1
      have h2' := Nat.le_of_ble_eq_true h2
      obtain ⟨cs', h, hcs⟩ := ih h
      refine ⟨cs', h, fun ι rparts rcs hp hc => ?_⟩
      cases hp with
      | cons hp1 hps =>
        rename_i rp rps
        obtain ⟨ri, rv⟩ := rp
        obtain ⟨e1, e2⟩ := hp1
        simp only at e1 e2
        subst e1
        have hvc := vcells_rel e2 h3
        have hl := hvc.length
        have hlc := hc.length
        simp only [Array.length_toList] at hl hlc
        have hlay : ((rv.cells.zipIdx.foldl (fun cs (c, j) => cs.setIfInBounds (o + j) c) rcs)).toList = nlay rcs.toList o rv.cells.toList := by
          have := fold_lay rv.cells.toList 0 o rcs (by simp; omega)
          rw [← Array.foldl_toList, Array.toList_zipIdx]
          exact this
        obtain ⟨rcs', h4, h5⟩ := hcs ι rps (rv.cells.zipIdx.foldl (fun cs (c, j) => cs.setIfInBounds (o + j) c) rcs) hps (by rw [hlay]; exact hc.lay o hvc)
        refine ⟨rcs', ?_, h5⟩
        rw [Instr.fill, hpl]
        simp only []
        rw [if_neg (by simp; omega)]
        exact h4
theorem fill_congr {p p' : Nat → Option (Nat × Nat)} (h : ∀ i, p i = p' i) : ∀ (parts : List (Nat × Value)) (cs : Array Value), Instr.fill p cs parts = Instr.fill p' cs parts
  | [], _ => rfl
  | (i, v) :: r, cs => by
    rw [Instr.fill, Instr.fill, h i]
    split
    · rfl
    · split
      · rfl
      · exact fill_congr h r _
theorem info_of {t : TypeId} {n : Nat} (h : sizeT P t = some n) : ∃ i, P.info? t = some i ∧ i.size = n := by
  unfold sizeT at h
  cases hi : P.info? t with
  | none => simp [hi] at h
  | some i => exact ⟨i, rfl, by simpa [hi] using h⟩
theorem zero_of {t : TypeId} {z : Value} (h : zeroT P t = some z) : ∃ i, P.info? t = some i ∧ i.zero = some z := by
  unfold zeroT at h
  split at h
  · exact ⟨_, by assumption, h⟩
  · cases h
theorem cells_eq (v : Value) : v.cells.toList = vcells v := by cases v <;> rfl
theorem gbuild_sim {t : TypeId} {parts : List (Nat × Value)} {K : Value → Option β} (h : gbuild P t parts K = some r) :
    ∃ v, K v = some r ∧ ∀ ι (rparts : Array (Nat × Value)), All2 (PR ι) parts rparts.toList → ∃ rv, VR ι v rv ∧ ∀ w, (Instr.build t rparts).run P w = .ok rv w := by
  unfold gbuild at h
  split at h
  · rename_i fs z hu hz
    have hb := (cond_none h).1
    replace h := (cond_none h).2
    simp only [Bool.and_eq_true] at hb
    obtain ⟨cs', h, hf⟩ := gfill_sim h
    refine ⟨_, h, fun ι rparts hp => ?_⟩
    obtain ⟨i, hi, hiz⟩ := zero_of hz
    have hzc : All2 (VR ι) (vcells z) z.cells.toList := by rw [cells_eq]; cases z <;> first | exact plains_all hb.1 ι | exact .cons (.same _ hb.1) .nil
    obtain ⟨rcs, h1, h2⟩ := hf ι rparts.toList z.cells hp hzc
    have hm : ∃ pl, fs.toList.mapM (fun f => (P.info? f.type).map fun i => (f.offset, i.size)) = some pl ∧ ∀ i, (pl.toArray[i]? : Option (Nat × Nat)) = places P fs.toList i := by
      have := hb.2
      revert this
      generalize fs.toList = l
      induction l with
      | nil => exact fun _ => ⟨[], rfl, fun i => by simp [places, nth]⟩
      | cons f l ih =>
        intro hall
        simp only [List.all_cons, Bool.and_eq_true] at hall
        obtain ⟨pl, e1, e2⟩ := ih hall.2
        obtain ⟨n, hn⟩ := Option.isSome_iff_exists.1 hall.1
        obtain ⟨inf, hinf, hsz⟩ := info_of hn
        refine ⟨(f.offset, n) :: pl, by simp [List.mapM_cons, hinf, hsz, e1], fun i => ?_⟩
        cases i with
        | zero => simp [places, nth, hn]
        | succ i => have := e2 i; simp [places, nth] at this ⊢; exact this
    obtain ⟨pl, hpl, hpe⟩ := hm
    refine ⟨.agg rcs, .mkAgg (by simpa using h2), fun w => run_build w t rparts rcs ?_⟩
    unfold Program.built
    simp only [hi, hu, hiz, hpl]
    rw [fill_congr hpe]
    exact h1
  · rename_i n e z hu hz
    split at h
    · rename_i k hk
      have hb := (cond_none h).1
      replace h := (cond_none h).2
      obtain ⟨cs', h, hf⟩ := gfill_sim h
      refine ⟨_, h, fun ι rparts hp => ?_⟩
      obtain ⟨i, hi, hiz⟩ := zero_of hz
      obtain ⟨ie, hie, hsz⟩ := info_of hk
      have hzc : All2 (VR ι) (vcells z) z.cells.toList := by rw [cells_eq]; cases z <;> first | exact plains_all hb ι | exact .cons (.same _ hb) .nil
      obtain ⟨rcs, h1, h2⟩ := hf ι rparts.toList z.cells hp hzc
      refine ⟨.agg rcs, .mkAgg (by simpa using h2), fun w => run_build w t rparts rcs ?_⟩
      unfold Program.built
      simp only [hi, hu, hiz, hie, hsz]
      exact h1
    · cases h
  · cases h

/-! ### loads -/
theorem look_get {h : GH} {g : Nat} {o : GObj} (hl : h.look g = some o) : g < h.next ∧ h.get g = some o := by
  unfold GH.look at hl
  cases hb : Nat.blt g h.next with
  | false => rw [hb] at hl; cases hl
  | true => rw [hb] at hl; exact ⟨Nat.le_of_ble_eq_true hb, hl⟩
theorem look_of {h : GH} {g : Nat} (hg : g < h.next) : h.look g = h.get g := by
  unfold GH.look
  have : Nat.blt g h.next = true := Nat.ble_eq_true_of_le hg
  rw [this]; rfl
theorem cell_row {h : GH} {g o : Nat} {v : Value} (hc : h.cell ⟨g, o, none⟩ = some v) : ∃ b, h.look g = some (.row b) ∧ nth b.cells o = some v := by
  unfold GH.cell at hc
  simp only [] at hc
  unfold rowCell at hc
  split at hc
  · rename_i b hb; exact ⟨b, hb, hc⟩
  · cases hc
/-- cells of a block that is there, as the model loads them -/
theorem loads_run {ι : Inj} {p : Pl} {b : Blk} {w : World} (ok : RowOk ι p b w) {o n : Nat} (hle : o + n ≤ b.cells.length) :
    ∃ rs : List Value, rs.length = n ∧ All2 (VR ι) ((b.cells.drop o).take n) rs ∧ (∀ j v, rs[j]? = some v → w.cell? ⟨p.blk, p.off + o + j, none⟩ = some v) := by
  induction n with
  | zero => exact ⟨[], rfl, by simp; exact .nil, fun j v h => by simp at h⟩
  | succ n ih =>
    obtain ⟨rs, h1, h2, h3⟩ := ih (by omega)
    have hv : nth b.cells (o + n) = some (b.cells[o + n]'(by omega)) := by rw [nth_eq]; exact List.getElem?_eq_getElem _
    obtain ⟨rv, h4, h5⟩ := ok.cell _ _ hv
    refine ⟨rs ++ [rv], by simp [h1], ?_, fun j v hj => ?_⟩
    · have e : (b.cells.drop o).take (n + 1) = (b.cells.drop o).take n ++ [b.cells[o + n]'(by omega)] := by
        rw [List.take_add_one]
        congr 1
        rw [List.getElem?_drop, List.getElem?_eq_getElem (by omega)]
        rfl
      rw [e]
      exact h2.append (.cons h5 .nil)
    · by_cases hj' : j < rs.length
      · rw [List.getElem?_append_left hj'] at hj; exact h3 j v hj
      · rw [List.getElem?_append_right (by omega)] at hj
        have : j - rs.length = 0 := by
          rcases Nat.eq_zero_or_pos (j - rs.length) with h | h
          · exact h
          · rw [List.getElem?_eq_none (by simp; omega)] at hj; cases hj
        rw [this] at hj
        simp at hj
        subst hj
        rw [show p.off + o + j = p.off + (o + n) by omega]
        exact h4
/-- the cells that a load of type t reads -/
def loadN (P : Program) (t : TypeId) : Nat := match P.underlying t with | some d => (bif aggD d then (match sizeT P t with | some n => n | none => 0) else 1) | none => 0
theorem gload_sim {t : TypeId} {g o : Nat} {h : GH} {K : Value → Option β} (hh : gload P t g o h K = some r) :
    ∃ v b, K v = some r ∧ 0 < loadN P t ∧ h.look g = some (.row b) ∧ o + loadN P t ≤ b.cells.length ∧
      (∀ (b' : Blk), o + loadN P t ≤ b'.cells.length → (∀ i, i < loadN P t → nth b'.cells (o + i) = nth b.cells (o + i)) → ∀ ι p w, RowOk ι p b' w → ∃ rv, VR ι v rv ∧ (Instr.loadAt t (.pointer (some ⟨p.blk, p.off + o, none⟩))).run P w = .ok rv w) := by
  unfold gload at hh
  split at hh
  · cases hh
  · rename_i d hd
    cases ha : aggD d with
    | true =>
      rw [ha] at hh
      simp only [cond_true] at hh
      split at hh
      · rename_i n hn
        have hN : loadN P t = n := by simp [loadN, hd, ha, hn]
        rw [hN]
        have hn0 := (cond_none' hh).1
        replace hh := (cond_none' hh).2
        have hn0' : n ≠ 0 := fun e => by subst e; simp at hn0
        have key : ∃ (vs : List Value) (b : Blk), K (.agg vs.toArray) = some r ∧ h.look g = some (.row b) ∧ o + n ≤ b.cells.length ∧ vs = (b.cells.drop o).take n := by
          cases hb : (Nat.ble n small && Nat.beq (flat P 4 t).length n) with
          | true =>
            rw [hb] at hh
            simp only [cond_true] at hh
            obtain ⟨vs, hl, hf, hh⟩ := exN_some hh
            simp only [Bool.and_eq_true] at hb
            have hl' : vs.length = n := hl.trans (Nat.eq_of_beq_eq_true hb.2)
            have h0 := hf 0 (by omega)
            obtain ⟨b, hb1, hb2⟩ := cell_row (h0.trans (by rw [nth_eq, List.getElem?_eq_getElem (by omega)]))
            have hf' : ∀ i, i < vs.length → nth b.cells (o + i) = nth vs i := fun i hi => by
              have := hf i hi
              obtain ⟨b', hb1', hb2'⟩ := cell_row (this.trans (by rw [nth_eq, List.getElem?_eq_getElem hi]))
              rw [hb1] at hb1'; cases hb1'
              rw [hb2', nth_eq, List.getElem?_eq_getElem hi]
            rcases eq_of_nth hl' hf' with ⟨e1, e2⟩ | ⟨e1, _⟩
            · exact ⟨vs, b, hh, hb1, e2, e1⟩
            · exact (hn0' e1).elim
          | false =>
            rw [hb] at hh
            simp only [cond_false] at hh
            unfold exL at hh
            split at hh
            · rename_i vs hv
              obtain ⟨e1, e2⟩ := nsub_some hv
              unfold rowCells at e1 e2
              split at e1
              · rename_i b hb'
                rw [hb'] at e2
                exact ⟨vs, b, hh, hb', e1, e2⟩
              · simp at e1; omega
            · cases hh
        obtain ⟨vs, b, hh, hb, hle, e⟩ := key
        refine ⟨_, b, hh, Nat.pos_of_ne_zero hn0', hb, hle, fun b' hle' hs ι p w ok => ?_⟩
        obtain ⟨rs, h1, h2, h3⟩ := loads_run ok hle'
        have e' : (b'.cells.drop o).take n = vs := by
          rw [e]
          apply List.ext_getElem?
          intro i
          rw [List.getElem?_take, List.getElem?_take, List.getElem?_drop, List.getElem?_drop]
          split
          · rename_i hi; have := hs i hi; simpa [nth_eq] using this
          · rfl
        rw [e'] at h2
        obtain ⟨inf, hinf, hsz⟩ := info_of hn
        refine ⟨.agg rs.toArray, .mkAgg (by simpa using h2), run_loadAt_mid w p.blk (p.off + o) t rs d h3 hd (by cases d <;> first | rfl | cases ha) (by simp [hinf, hsz, h1])⟩
      · cases hh
    | false =>
      rw [ha] at hh
      simp only [cond_false] at hh
      have hN : loadN P t = 1 := by simp [loadN, hd, ha]
      rw [hN]
      obtain ⟨v, hv, hh⟩ := exK_some hh
      obtain ⟨b, hb, hn⟩ := cell_row hv
      have hlt : o < b.cells.length := by rw [nth_eq] at hn; exact (List.getElem?_eq_some_iff.1 hn).1
      refine ⟨v, b, hh, Nat.one_pos, hb, hlt, fun b' _ hs ι p w ok => ?_⟩
      have := hs 0 (by omega)
      simp only [Nat.add_zero] at this
      obtain ⟨rv, h1, h2⟩ := ok.cell o v (this.trans hn)
      refine ⟨rv, h2, ?_⟩
      simp [Instr.loadAt, Instr.sureAddr, loadVar, isAgg_run hd, ha, h1]
end Go.Proofs.Ytephmpbccajaaaa.Gx

