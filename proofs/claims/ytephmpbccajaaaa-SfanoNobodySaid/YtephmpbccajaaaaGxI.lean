/- The plain machine and the model: stores, appends, copies. No condition. -/
import Derived.Test.YtephmpbccajaaaaGxH
namespace Go.Proofs.Ytephmpbccajaaaa.Gx
open Go Go.RowKit
set_option linter.unusedVariables false
set_option linter.unusedSimpArgs false
variable {P : Program} {β : Type} {r : β}

def ER (ι : Inj) (e : Env) (a : Act) : Prop := ∀ t, VR ι (e.get t) (a.tmps.getD t undef)
theorem ER.eval {ι : Inj} {e : Env} {a : Act} (h : ER ι e a) (x : Operand) : VR ι (e.eval x) (a.eval x) := by
  cases x with
  | tmp t => exact h t
  | const v =>
    show VR ι (bif plainC v then v else undef) v
    cases hp : plainC v with
    | true => exact .plainC hp ι
    | false => exact .un _
  | global g => exact .un _
  | func f => exact .mkFunc .nil .nil
theorem ER.evs {ι : Inj} {e : Env} {a : Act} (h : ER ι e a) : ∀ xs : List Operand, All2 (VR ι) (evs e xs) (xs.map a.eval)
  | [] => .nil
  | x :: r => .cons (h.eval x) (ER.evs h r)
theorem ER.parts {ι : Inj} {e : Env} {a : Act} (h : ER ι e a) : ∀ xs : List (Nat × Operand), All2 (PR ι) (evParts e xs) (xs.map fun p => (p.1, a.eval p.2))
  | [] => .nil
  | (i, x) :: r => .cons ⟨rfl, h.eval x⟩ (ER.parts h r)
theorem ER.opt {ι : Inj} {e : Env} {a : Act} (h : ER ι e a) (x : Option Operand) : OV ι (x.map e.eval) (x.map a.eval) := by
  cases x with
  | none => exact True.intro
  | some x => exact h.eval x
theorem ER.mono {ι ι' : Inj} (hl : Le ι ι') {e : Env} {a : Act} (h : ER ι e a) : ER ι' e a := fun t => (h t).mono hl

theorem gput_some {g o : Nat} {vs : List Value} {h : GH} {K : GH → Option β} (hh : gput g o vs h K = some r) :
    ∃ b, g < h.next ∧ h.get g = some (.row b) ∧ b.ro = false ∧ allCells vs = true ∧ o + vs.length ≤ b.cells.length ∧ K (h.put g (some (.row { b with cells := nlay b.cells o vs }))) = some r := by
  unfold gput at hh
  split at hh
  · rename_i b hb
    have h1 := (cond_none' hh).1
    replace hh := (cond_none' hh).2
    have h2 := (cond_none hh).1
    replace hh := (cond_none hh).2
    obtain ⟨h3, h4⟩ := look_get hb
    have h1' : b.ro = false ∧ allCells vs = true := by revert h1; cases b.ro <;> cases allCells vs <;> decide
    exact ⟨b, h3, h4, h1'.1, h1'.2, Nat.le_of_ble_eq_true h2, hh⟩
  · cases hh
theorem gnew_some {cs : List Value} {esz : Nat} {h : GH} {K : Nat → GH → Option β} (hh : gnew cs esz h K = some r) : allCells cs = true ∧ K h.next (h.push (.row ⟨cs, esz, false⟩)) = some r := cond_none hh
theorem allCells_mem {l : List Value} (h : allCells l = true) : ∀ v ∈ l, isCell v = true := by
  induction l with
  | nil => intro v hv; cases hv
  | cons x r ih =>
    simp only [allCells, Bool.and_eq_true] at h
    intro v hv
    cases hv with
    | head => exact h.1
    | tail _ hv => exact ih h.2 v hv
theorem All2.one {ι : Inj} {vs rs : List Value} (h : All2 (VR ι) vs rs) (ha : allCells vs = true) : ∀ v ∈ rs, v.oneCell' = true := by
  induction h with
  | nil => intro v hv; cases hv
  | cons h _ ih =>
    simp only [allCells, Bool.and_eq_true] at ha
    intro v hv
    cases hv with
    | head => exact h.cell ha.1
    | tail _ hv => exact ih ha.2 v hv

/-- a live block behind a name that can be looked up -/
theorem row_at {ι : Inj} {h : GH} {w : World} (hr : HR ι h w) {g : Nat} {p : Pl} {b : Blk} (hg : g < h.next) (hp : ι g = .live p) (hb : h.get g = some (.row b)) : RowOk ι p b w := (hr.obj g p hg hp).row hb
theorem store_run {ι : Inj} {h : GH} {w : World} (hr : HR ι h w) {g o : Nat} {b : Blk} {vs rs : List Value} (hg : g < h.next) (hb : h.get g = some (.row b)) (hro : b.ro = false) (ha : allCells vs = true) (hle : o + vs.length ≤ b.cells.length)
    (hv : All2 (VR ι) vs rs) {p : Pl} (hp : ι g = .live p) :
    (storeCells ⟨p.blk, p.off + o, none⟩ rs).run P w = .ok () (w.setCells p.blk (p.off + o) rs) := by
  have ok := row_at hr hg hp hb
  have hl := hv.length
  have hs := ok.size
  have he := ok.ext
  have hpro : p.ro = false := ok.ro ▸ hro
  have := run_storeCells_cells (P := P) p.blk (p.off + o) rs 0 w (fun j hj => (ok.room hpro).2 _ (by omega) (by omega)) (fun j hj => (ok.room hpro).1.cell ((ok.room hpro).2 _ (by omega) (by omega))) (hv.one ha)
  simpa using this

/-- what an operation does, to both memories -/
def Eff (P : Program) (h : GH) (ρ : Inj → Sem Value → Prop) (v : Value) (h' : GH) : Prop :=
  h.next ≤ h'.next ∧ ∀ ι w (s : Sem Value), Good ι h h'.next w → ρ ι s → ∃ rv ι' w', s.run P w = .ok rv w' ∧ Stp h ι w h' ι' w' ∧ VR ι' v rv

theorem gstore_sim {t : TypeId} {x v : Value} {h : GH} {K : Value → GH → Option β}
    (hh : (match x, sizeT P t with
      | .pointer p, some n => (bif Nat.beq (vcells v).length n then exA p fun g o => gput g o (vcells v) h fun h' => K undef h' else none)
      | _, _ => none) = some r) :
    ∃ h', K undef h' = some r ∧ h'.next = h.next ∧ ∀ ι w rx rv, Good ι h h'.next w → VR ι x rx → VR ι v rv → ∃ w', (Instr.storeAt t rx rv).run P w = .ok () w' ∧ Stp h ι w h' ι w' := by
  split at hh
  · rename_i p n hn
    have h1 := (cond_none hh).1
    replace hh := (cond_none hh).2
    obtain ⟨g, o, rfl, h2⟩ := exA_some hh
    clear hh
    obtain ⟨b, hg, hb, hro, ha, hle, hk⟩ := gput_some h2
    refine ⟨_, hk, rfl, fun ι w rx rv gd hx hv => ?_⟩
    have hvc := vcells_rel hv ha
    rcases hx.someP with ⟨p, hp, rfl⟩ | ⟨hd, q, rfl⟩
    · have hrun := store_run (P := P) gd.hr hg hb hro ha hle hvc hp
      have hst := put_stp gd.hr hg hp hb hro o (vcells v) rv.cells.toList hle hvc
      refine ⟨_, ?_, hst⟩
      have hsz : rv.cells.size = n := by have := hvc.length; have := Nat.eq_of_beq_eq_true h1; simp at *; omega
      simp [Instr.storeAt, Instr.sureAddr, storeVar, sizeOf_run hn, hsz, hrun]
    · rw [gd.hr.dead g hg hd] at hb; cases hb
  · cases hh
end Go.Proofs.Ytephmpbccajaaaa.Gx

