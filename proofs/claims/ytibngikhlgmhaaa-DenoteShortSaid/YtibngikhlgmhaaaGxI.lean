/- The plain machine and the model: stores, appends, copies. No condition. -/
import Derived.Test.YtibngikhlgmhaaaGxA
import Derived.Laws.OwnMore
import Derived.MapKept
import Derived.Laws.IdiomStrings
namespace Go.Proofs.Ytibngikhlgmhaaa.Gx
open Go Go.RowKit
set_option linter.unusedVariables false
set_option linter.unusedSimpArgs false
variable {P : Program} {β : Type} {r : β}

def ER (ι : Inj) (e : Env) (a : Act) : Prop := ∀ t, VR ι (e.get t) (a.tmps.getD t undef)
theorem ER.eval {ι : Inj} {e : Env} {a : Act} (h : ER ι e a) (x : Operand) : VR ι (e.eval x) (a.eval x) := by
  cases x with
  | tmp t => exact h t
  | const v =>
    show VR ι (bif plainC v then v else undef) v
    cases hp : plainC v with
    | true => exact .plainC hp ι
    | false => exact .un _
  | global g => exact .un _
  | func f => exact .mkFunc .nil .nil
theorem ER.evs {ι : Inj} {e : Env} {a : Act} (h : ER ι e a) : ∀ xs : List Operand, All2 (VR ι) (evs e xs) (xs.map a.eval)
  | [] => .nil
  | x :: r => .cons (h.eval x) (ER.evs h r)
theorem ER.parts {ι : Inj} {e : Env} {a : Act} (h : ER ι e a) : ∀ xs : List (Nat × Operand), All2 (PR ι) (evParts e xs) (xs.map fun p => (p.1, a.eval p.2))
  | [] => .nil
  | (i, x) :: r => .cons ⟨rfl, h.eval x⟩ (ER.parts h r)
theorem ER.opt {ι : Inj} {e : Env} {a : Act} (h : ER ι e a) (x : Option Operand) : OV ι (x.map e.eval) (x.map a.eval) := by
  cases x with
  | none => exact True.intro
  | some x => exact h.eval x
theorem ER.mono {ι ι' : Inj} (hl : Le ι ι') {e : Env} {a : Act} (h : ER ι e a) : ER ι' e a := fun t => (h t).mono hl

theorem gput_some {g o : Nat} {vs : List Value} {h : GH} {K : GH → Option β} (hh : gput g o vs h K = some r) :
    ∃ b, g < h.next ∧ h.get g = some (.row b) ∧ b.ro = false ∧ allCells vs = true ∧ o + vs.length ≤ b.cells.length ∧ K (h.put g (some (.row { b with cells := nlay b.cells o vs }))) = some r := by
  unfold gput at hh
  split at hh
  · rename_i b hb
    have h1 := (cond_none' hh).1
    replace hh := (cond_none' hh).2
    have h2 := (cond_none hh).1
    replace hh := (cond_none hh).2
    obtain ⟨h3, h4⟩ := look_get hb
    have h1' : b.ro = false ∧ allCells vs = true := by revert h1; cases b.ro <;> cases allCells vs <;> decide
    exact ⟨b, h3, h4, h1'.1, h1'.2, Nat.le_of_ble_eq_true h2, hh⟩
  · cases hh
theorem gnew_some {cs : List Value} {esz : Nat} {h : GH} {K : Nat → GH → Option β} (hh : gnew cs esz h K = some r) : allCells cs = true ∧ K h.next (h.push (.row ⟨cs, esz, false⟩)) = some r := cond_none hh
theorem allCells_mem {l : List Value} (h : allCells l = true) : ∀ v ∈ l, isCell v = true := by
  induction l with
  | nil => intro v hv; cases hv
  | cons x r ih =>
    simp only [allCells, Bool.and_eq_true] at h
    intro v hv
    cases hv with
    | head => exact h.1
    | tail _ hv => exact ih h.2 v hv
theorem All2.one {ι : Inj} {vs rs : List Value} (h : All2 (VR ι) vs rs) (ha : allCells vs = true) : ∀ v ∈ rs, v.oneCell' = true := by
  induction h with
  | nil => intro v hv; cases hv
  | cons h _ ih =>
    simp only [allCells, Bool.and_eq_true] at ha
    intro v hv
    cases hv with
    | head => exact h.cell ha.1
    | tail _ hv => exact ih ha.2 v hv

/-- a live block behind a name that can be looked up -/
theorem row_at {ι : Inj} {h : GH} {w : World} (hr : HR ι h w) {g : Nat} {p : Pl} {b : Blk} (hg : g < h.next) (hp : ι g = .live p) (hb : h.get g = some (.row b)) : RowOk ι p b w := (hr.obj g p hg hp).row hb
theorem store_run {ι : Inj} {h : GH} {w : World} (hr : HR ι h w) {g o : Nat} {b : Blk} {vs rs : List Value} (hg : g < h.next) (hb : h.get g = some (.row b)) (hro : b.ro = false) (ha : allCells vs = true) (hle : o + vs.length ≤ b.cells.length)
    (hv : All2 (VR ι) vs rs) {p : Pl} (hp : ι g = .live p) :
    (storeCells ⟨p.blk, p.off + o, none⟩ rs).run P w = .ok () (w.setCells p.blk (p.off + o) rs) := by
  have ok := row_at hr hg hp hb
  have hl := hv.length
  have hs := ok.size
  have he := ok.ext
  have hpro : p.ro = false := ok.ro ▸ hro
  have := run_storeCells_cells (P := P) p.blk (p.off + o) rs 0 w (fun j hj => (ok.room hpro).2 _ (by omega) (by omega)) (fun j hj => (ok.room hpro).1.cell ((ok.room hpro).2 _ (by omega) (by omega))) (hv.one ha)
  simpa using this

/-- what an operation does, to both memories -/
def Eff (P : Program) (h : GH) (ρ : Inj → Sem Value → Prop) (v : Value) (h' : GH) : Prop :=
  h.next ≤ h'.next ∧ ∀ ι w (s : Sem Value), Good ι h h'.next w → ρ ι s → ∃ rv ι' w', s.run P w = .ok rv w' ∧ Stp h ι w h' ι' w' ∧ VR ι' v rv

theorem gstore_sim {t : TypeId} {x v : Value} {h : GH} {K : Value → GH → Option β}
    (hh : (match x, sizeT P t with
      | .pointer p, some n => (bif Nat.beq (vcells v).length n then exA p fun g o => gput g o (vcells v) h fun h' => K undef h' else none)
      | _, _ => none) = some r) :
    ∃ h', K undef h' = some r ∧ h'.next = h.next ∧ ∀ ι w rx rv, Good ι h h'.next w → VR ι x rx → VR ι v rv → ∃ w', (Instr.storeAt t rx rv).run P w = .ok () w' ∧ Stp h ι w h' ι w' := by
  split at hh
  · rename_i p n hn
    have h1 := (cond_none hh).1
    replace hh := (cond_none hh).2
    obtain ⟨g, o, rfl, h2⟩ := exA_some hh
    clear hh
    obtain ⟨b, hg, hb, hro, ha, hle, hk⟩ := gput_some h2
    refine ⟨_, hk, rfl, fun ι w rx rv gd hx hv => ?_⟩
    have hvc := vcells_rel hv ha
    rcases hx.someP with ⟨p, hp, rfl⟩ | ⟨hd, q, rfl⟩
    · have hrun := store_run (P := P) gd.hr hg hb hro ha hle hvc hp
      have hst := put_stp gd.hr hg hp hb hro o (vcells v) rv.cells.toList hle hvc
      refine ⟨_, ?_, hst⟩
      have hsz : rv.cells.size = n := by have := hvc.length; have := Nat.eq_of_beq_eq_true h1; simp at *; omega
      simp [Instr.storeAt, Instr.sureAddr, storeVar, sizeOf_run hn, hsz, hrun]
    · rw [gd.hr.dead g hg hd] at hb; cases hb
  · cases hh
end Go.Proofs.Ytibngikhlgmhaaa.Gx
/- The plain machine and the model: appends, copies. No condition. -/
namespace Go.Proofs.Ytibngikhlgmhaaa.Gx
open Go Go.RowKit
set_option linter.unusedVariables false
set_option linter.unusedSimpArgs false
variable {P : Program} {β : Type} {r : β}

theorem slCells_some {s : Sl} {z : Nat} {h : GH} {K : List Value → Option β} (hh : slCells s z h K = some r) :
    ∃ vs, K vs = some r ∧ ((s.a = none ∧ s.n = 0 ∧ vs = []) ∨ ∃ g o, s.a = some ⟨g, o, none⟩ ∧ o + s.n * z ≤ (rowCells (h.look g)).length ∧ vs = ((rowCells (h.look g)).drop o).take (s.n * z)) := by
  unfold slCells at hh
  split at hh
  · rename_i ha
    have h1 := (cond_none hh).1
    replace hh := (cond_none hh).2
    exact ⟨[], hh, .inl ⟨ha, Nat.eq_of_beq_eq_true h1, rfl⟩⟩
  · rename_i a ha
    obtain ⟨g, o, he, hh⟩ := exA_some hh
    split at hh
    · rename_i vs hv
      obtain ⟨h1, h2⟩ := nsub_some hv
      exact ⟨vs, hh, .inr ⟨g, o, he, h1, h2⟩⟩
    · cases hh
theorem rowCells_look {h : GH} {g : Nat} (hne : (rowCells (h.look g)) ≠ []) : ∃ b, g < h.next ∧ h.get g = some (.row b) ∧ rowCells (h.look g) = b.cells := by
  unfold rowCells at *
  split at hne
  · rename_i b hb
    obtain ⟨h1, h2⟩ := look_get hb
    exact ⟨b, h1, h2, by simp [hb]⟩
  · exact (hne rfl).elim
/-- the cells that a slice holds, in the model -/
theorem slRun {ι : Inj} {h : GH} {w : World} (hr : HR ι h w) {s : Sl} {z : Nat} (hz : 0 < z) {vs : List Value} (hvs : (s.a = none ∧ s.n = 0 ∧ vs = []) ∨ ∃ g o, s.a = some ⟨g, o, none⟩ ∧ o + s.n * z ≤ (rowCells (h.look g)).length ∧ vs = ((rowCells (h.look g)).drop o).take (s.n * z))
    {q : Option Addr} {c' : Nat} (hv : VR ι (.slice s.a s.n s.c) (.slice q s.n c')) :
    ∃ rs : List Value, All2 (VR ι) vs rs ∧ rs.length = s.n * z ∧ (∀ qa, q = some qa → ∀ j u, rs[j]? = some u → w.cell? (qa.add j) = some u) ∧ (q = none → s.n = 0) := by
  rcases hvs with ⟨h1, h2, h3⟩ | ⟨g, o, h1, h2, h3⟩
  · subst h3
    rw [h2]
    exact ⟨[], .nil, by simp, fun _ _ j u h => by simp at h, fun _ => rfl⟩
  · rw [h1] at hv
    by_cases hn : s.n = 0
    · rw [hn] at h3 ⊢
      simp at h3
      subst h3
      exact ⟨[], .nil, by simp, fun _ _ j u h => by simp at h, fun _ => rfl⟩
    · have hpos : 0 < s.n * z := Nat.mul_pos (Nat.pos_of_ne_zero hn) hz
      obtain ⟨b, hg, hb, hbc⟩ := rowCells_look (h := h) (g := g) (fun e => by rw [e] at h2; simp at h2; omega)
      rw [hbc] at h2 h3
      rcases hv.someS with ⟨p, c2, hp, he, _, _⟩ | ⟨hd, _⟩ | ⟨hn', _⟩
      · cases he
        obtain ⟨rs, e1, e2, e3⟩ := loads_run (row_at hr hg hp hb) h2
        subst h3
        refine ⟨rs, e2, e1, fun qa hqa j u hj => ?_, fun h => by cases h⟩
        cases hqa
        rw [add_none]
        exact e3 j u hj
      · rw [hr.dead g hg hd] at hb; cases hb
      · exact (hn hn').elim
theorem firstCells_run {q : Option Addr} {n z c' : Nat} {rs : List Value} {w : World} (hl : rs.length = n * z) (hc : ∀ qa, q = some qa → ∀ j u, rs[j]? = some u → w.cell? (qa.add j) = some u) (h0 : q = none → n = 0) :
    (Builtin.firstCells z n (.slice q n c')).run P w = .ok rs.toArray w := by
  cases q with
  | none => have := h0 rfl; subst this; have : rs = [] := List.length_eq_zero_iff.1 (by simpa using hl); subst this; exact run_firstCells_none w z 0 0 c'
  | some qa => exact run_firstCells_some w z n qa n c' rs hl (hc qa rfl)
theorem zero_run {e : TypeId} {zv : Value} (h : zeroT P e = some zv) (w : World) : (zeroValue e).run P w = .ok zv w := by
  obtain ⟨i, hi, hz⟩ := zero_of h
  simp [zeroValue, typeInfo, hi, hz]
theorem bytes_of {e : TypeId} {b : Nat} (h : bytesT P e = some b) : ∃ i, P.info? e = some i ∧ i.bytes = b := by
  unfold bytesT at h
  cases hi : P.info? e with
  | none => simp [hi] at h
  | some i => exact ⟨i, rfl, by simpa [hi] using h⟩

/-- an append within what the slice holds, in the model -/
theorem append_room {t ty e : TypeId} {z : Nat} {w : World} (hu : P.underlying t = some (.slice e)) (hz : sizeT P e = some z) {a : Addr} {n c m cx : Nat} {qx : Option Addr} {rn : List Value}
    (hl : rn.length = m * z) (hc : ∀ qa, qx = some qa → ∀ j u, rn[j]? = some u → w.cell? (qa.add j) = some u) (h0 : qx = none → m = 0) (hroom : n + m ≤ c) {w' : World}
    (hst : (storeCells (a.add (n * z)) rn).run P w = .ok () w') :
    (Builtin.append_ #[t, t] ty #[.slice (some a) n c, .slice qx m cx]).run P w = .ok (.slice (some a) (n + m) c) w' := by
  have hf := firstCells_run (P := P) (c' := cx) hl hc h0
  simp [Builtin.append_, run_underlying hu, sizeOf_run hz, Builtin.lenOf, hroom, hf, hst]
/-- an append that makes a new block, in the model -/
theorem append_new {t ty e : TypeId} {z by_ : Nat} {zv : Value} {w : World} (hu : P.underlying t = some (.slice e)) (hz : sizeT P e = some z) (hb : bytesT P e = some by_) (hzv : zeroT P e = some zv)
    {q : Option Addr} {n c m cx : Nat} {qx : Option Addr} {ro rn : List Value}
    (hlo : ro.length = n * z) (hco : ∀ qa, q = some qa → ∀ j u, ro[j]? = some u → w.cell? (qa.add j) = some u) (h0o : q = none → n = 0)
    (hl : rn.length = m * z) (hc : ∀ qa, qx = some qa → ∀ j u, rn[j]? = some u → w.cell? (qa.add j) = some u) (h0 : qx = none → m = 0) (hg : c < n + m) (hmost : (n + m) * (by_ + 1) ≤ most) :
    (Builtin.append_ #[t, t] ty #[.slice q n c, .slice qx m cx]).run P w =
      .ok (.slice (some ⟨w.heap.size, 0, none⟩) (n + m) (grownCap w (n + m) c e)) ((w.drewN 1).alloc (.cells (ro.toArray ++ rn.toArray ++ Builtin.zeroCells zv.cells (grownCap w (n + m) c e - (n + m))) e)) := by
  obtain ⟨i, hi, hib⟩ := bytes_of hb
  have hm1 : n + m ≤ 1099511627776 := by
    have : (n + m) * 1 ≤ (n + m) * (by_ + 1) := Nat.mul_le_mul_left _ (by omega)
    simp only [most] at hmost; omega
  have hm2 : (n + m) * i.bytes ≤ 140737488355328 := by
    have : (n + m) * by_ ≤ (n + m) * (by_ + 1) := Nat.mul_le_mul_left _ (by omega)
    rw [hib]; simp only [most] at hmost; omega
  have hn : ¬ (n + m ≤ c) := by omega
  have h63' : ¬ (9223372036854775807 < ((n : Int) + (m : Int))) := by omega
  have h48' : ¬ (281474976710656 < Builtin.nextslicecap (n + m) c * i.bytes) := Nat.not_lt.2 (growslice_fits hg hm2)
  have hf := firstCells_run (P := P) (w := w.drew) (c' := cx) hl (fun qa h j u hj => hc qa h j u hj) h0
  have hfo := firstCells_run (P := P) (w := w.drew) (c' := c) hlo (fun qa h j u hj => hco qa h j u hj) h0o
  simp only [Builtin.append_, run_underlying hu, sizeOf_run hz]
  simp [run_underlying hu, sizeOf_run hz, zero_run hzv, typeInfo, hi, Builtin.lenOf, hn, h63', h48', Question.forced, hf, hfo, newRow, grownCap]
  show w.drew.alloc _ = w.drew.alloc _
  congr 2
  apply Array.ext'
  simp [List.append_assoc]
theorem VR.capLe {ι : Inj} {a q : Option Addr} {n c c' : Nat} (h : VR ι (.slice a n c) (.slice q n c')) : c ≤ c' := by
  cases h with
  | same => exact Nat.le_refl _
  | sl _ _ _ _ _ p _ hc _ => rcases hc with rfl | ⟨_, h, _⟩ <;> omega
  | slE => exact Nat.zero_le _
  | slD _ _ _ _ _ _ h => exact h
theorem zeroCells_size (z : Array Value) (n : Nat) : (Builtin.zeroCells z n).size = n * z.size := by simp [Builtin.zeroCells]
theorem Stp.next_le {h h' : GH} {ι ι' : Inj} {w w' : World} (s : Stp h ι w h' ι' w') : h.next ≤ h'.next := s.next

/-- APPEND. -/
theorem gappS_sim {t ty e : TypeId} {z by_ : Nat} {zv : Value} (hu : P.underlying t = some (.slice e)) (hz : sizeT P e = some z) (hb : bytesT P e = some by_) (hzv : zeroT P e = some zv) (hzl : (vcells zv).length = z) (hz0 : 0 < z)
    {s x : Sl} {h : GH} {K : Sl → GH → Option β} (hh : gappS z by_ s x h K = some r) :
    ∃ s' h', K s' h' = some r ∧ h.next ≤ h'.next ∧ ∀ ι w rs rx, Good ι h h'.next w → VR ι (.slice s.a s.n s.c) rs → VR ι (.slice x.a x.n x.c) rx →
      ∃ rv ι' w', (Builtin.append_ #[t, t] ty #[rs, rx]).run P w = .ok rv w' ∧ Stp h ι w h' ι' w' ∧ VR ι' (.slice s'.a s'.n s'.c) rv := by
  unfold gappS at hh
  obtain ⟨news, hh, hnews⟩ := slCells_some hh
  have hzc : zv.cells.size = z := by have := cells_eq zv; rw [← hzl, ← this]; simp
  unfold gapp at hh
  cases hroom : Nat.ble (s.n + x.n) s.c with
  | true =>
    rw [hroom] at hh
    simp only [cond_true] at hh
    have hr1 := Nat.le_of_ble_eq_true hroom
    cases hm : Nat.beq x.n 0 with
    | true =>
      -- nothing is appended
      rw [hm] at hh
      simp only [cond_true] at hh
      have hm0 := Nat.eq_of_beq_eq_true hm
      refine ⟨s, h, hh, Nat.le_refl _, fun ι w rs rx gd hs hx => ?_⟩
      obtain ⟨qx, cx, hqx, _⟩ := hx.slice
      obtain ⟨q, c', hq, _⟩ := hs.slice
      subst hqx; subst hq
      obtain ⟨rn, a1, a2, a3, a4⟩ := slRun gd.hr hz0 hnews hx
      have hrn : rn = [] := List.length_eq_zero_iff.1 (by rw [a2, hm0]; simp)
      subst hrn
      have hcc : s.c ≤ c' := hs.capLe
      refine ⟨.slice q s.n c', ι, w, ?_, Stp.refl gd.hr, hs⟩
      have hf := firstCells_run (P := P) (c' := cx) a2 a3 a4
      rw [hm0] at hf ⊢
      have hle : s.n + 0 ≤ c' := by omega
      simp [Builtin.append_, run_underlying hu, sizeOf_run hz, Builtin.lenOf, hf, show s.n ≤ c' by omega]
      cases q <;> simp [storeCells]
    | false =>
      rw [hm] at hh
      simp only [cond_false] at hh
      have hm0 : x.n ≠ 0 := fun e => by rw [e] at hm; cases hm
      obtain ⟨g, o, ha, h2⟩ := exA_some hh
      obtain ⟨b, hg, hgb, hro, hall, hle, hk⟩ := gput_some h2
      refine ⟨_, _, hk, Nat.le_refl _, fun ι w rs rx gd hs hx => ?_⟩
      obtain ⟨qx, cx, hqx, _⟩ := hx.slice
      subst hqx
      obtain ⟨rn, a1, a2, a3, a4⟩ := slRun gd.hr hz0 hnews hx
      rw [ha] at hs
      rcases hs.someS with ⟨p, c', hp, he, hc, hnc⟩ | ⟨hd, _⟩ | ⟨hn', hc', _⟩
      · subst he
        have hst := store_run (P := P) gd.hr hg hgb hro hall hle a1 hp
        have hstp := put_stp gd.hr hg hp hgb hro (o + s.n * z) news rn hle a1
        have hcc : s.c ≤ c' := by rcases hc with rfl | ⟨_, h, _⟩ <;> omega
        refine ⟨_, ι, _, append_room hu hz a2 a3 a4 (by omega) (by rw [add_none, Nat.add_assoc]; exact hst), hstp, ?_⟩
        show VR ι (.slice s.a (s.n + x.n) s.c) _
        rw [ha]
        exact .sl g o _ _ _ p hp hc hr1
      · rw [gd.hr.dead g hg hd] at hgb; cases hgb
      · omega
  | false =>
    rw [hroom] at hh
    simp only [cond_false] at hh
    have hr1 : s.c < s.n + x.n := by
      rcases Nat.lt_or_ge s.c (s.n + x.n) with h | h
      · exact h
      · rw [Nat.ble_eq_true_of_le h] at hroom; cases hroom
    have hmost := Nat.le_of_ble_eq_true (cond_none hh).1
    replace hh := (cond_none hh).2
    obtain ⟨olds, hh, holds⟩ := slCells_some hh
    -- a new block
    have key : ∀ ι w q c' rx, HR ι h w → VR ι (.slice s.a s.n s.c) (.slice q s.n c') → VR ι (.slice x.a x.n x.c) rx → c' < s.n + x.n → ∀ (h1 : GH) (ι1 : Inj), Stp h ι w h1 ι1 w → Le ι ι1 → h1.next = h.next → ι1 h.next = .unborn →
        ∃ rv ι' w', (Builtin.append_ #[t, t] ty #[.slice q s.n c', rx]).run P w = .ok rv w' ∧ Stp h ι w (h1.push (.row ⟨olds ++ news, z, false⟩)) ι' w' ∧ VR ι' (.slice (some ⟨h.next, 0, none⟩) (s.n + x.n) (s.n + x.n)) rv := by
      intro ι w q c' rx hr hs hx hlt h1 ι1 st hle hnx hun
      obtain ⟨qx, cx, hqx, _⟩ := hx.slice
      subst hqx
      obtain ⟨rn, a1, a2, a3, a4⟩ := slRun hr hz0 hnews hx
      obtain ⟨ro, b1, b2, b3, b4⟩ := slRun hr hz0 holds hs
      have hall : All2 (VR ι1) (olds ++ news) (ro ++ rn) := (b1.append a1).mono fun _ _ h => h.mono hle
      have hlen := hall.length
      have hge := grownCap_ge w (s.n + x.n) c' e
      have gd1 : Good ι1 h1 (h1.next + 1) w := by
        refine ⟨st.hr, fun g hg1 hg2 => ?_⟩
        have : g = h.next := by omega
        subst this
        exact hun
      have hnew := new_stp gd1 1 (ro.toArray ++ rn.toArray ++ Builtin.zeroCells zv.cells (grownCap w (s.n + x.n) c' e - (s.n + x.n))) e (olds ++ news) z
        (by rw [hlen]; simp) (fun i v hv => by
          obtain ⟨rv, e1, e2⟩ := hall.get hv
          refine ⟨rv, ?_, e2⟩
          rw [nth_eq] at e1
          have := (List.getElem?_eq_some_iff.1 e1).1
          simp at this
          rw [Array.getElem?_append_left (by simpa using this)]
          simpa using e1)
      refine ⟨_, _, _, append_new hu hz hb hzv b2 b3 b4 a2 a3 a4 hlt hmost, st.trans hnew, ?_⟩
      rw [hnx]
      refine .sl h.next 0 _ _ _ _ (upd_same _ _ _) (.inr ⟨hz0, hge, fun _ => ?_⟩) (Nat.le_refl _)
      show 0 + grownCap w (s.n + x.n) c' e * z ≤ _
      simp only [Array.size_append, List.size_toArray, zeroCells_size, hzc, b2, a2]
      rw [← Nat.add_mul, ← Nat.add_mul]
      have e1 : s.n + x.n + (grownCap w (s.n + x.n) c' e - (s.n + x.n)) = grownCap w (s.n + x.n) c' e := by omega
      rw [e1]
      omega
    split at hh
    · rename_i ha
      have hc0 := Nat.eq_of_beq_eq_true (cond_none hh).1
      replace hh := (cond_none hh).2
      obtain ⟨hall, hk⟩ := gnew_some hh
      refine ⟨_, _, hk, Nat.le_succ _, fun ι w rs rx gd hs hx => ?_⟩
      have hs' := hs
      rw [ha] at hs'
      have := hs'.nilS
      subst this
      exact key ι w none s.c rx gd.hr hs hx hr1 h ι (Stp.refl gd.hr) (Le.refl ι) rfl (gd.free _ (Nat.le_refl _) (Nat.lt_succ_self _))
    · rename_i a0 ha0
      obtain ⟨g, o, ha, h2⟩ := exA_some hh
      clear hh
      split at h2
      · rename_i b hlk
        obtain ⟨hg, hgb⟩ := look_get hlk
        have hce := (cond_none' h2).1
        replace h2 := (cond_none' h2).2
        cases hesz : Nat.beq b.esz 0 with
        | true =>
          rw [hesz] at h2
          simp only [cond_true] at h2
          obtain ⟨hall, hk⟩ := gnew_some h2
          refine ⟨_, _, hk, Nat.le_succ _, fun ι w rs rx gd hs hx => ?_⟩
          have hs' := hs
          rw [ha] at hs'
          rcases hs'.someS with ⟨p, c', hp, he, hc, hnc⟩ | ⟨hd, _⟩ | ⟨hn', hc', ho, _⟩
          · have ok := row_at gd.hr hg hp hgb
            have : c' = s.c := by
              rcases hc with h | ⟨h, _⟩
              · exact h
              · rw [← ok.esz, Nat.eq_of_beq_eq_true hesz] at h; omega
            subst this
            subst he
            exact key ι w _ s.c rx gd.hr hs hx hr1 h ι (Stp.refl gd.hr) (Le.refl ι) rfl (gd.free _ (Nat.le_refl _) (Nat.lt_succ_self _))
          · rw [gd.hr.dead g hg hd] at hgb; cases hgb
          · rw [hc', beq_ne ho] at hce; simp at hce
        | false =>
          rw [hesz] at h2
          simp only [cond_false] at h2
          have hcond := (cond_none' h2).1
          replace h2 := (cond_none' h2).2
          obtain ⟨hall, hk⟩ := gnew_some h2
          have hcd : b.ro = false ∧ Nat.beq b.esz z = true ∧ Nat.beq o 0 = true := by
            revert hcond; cases b.ro <;> cases Nat.beq b.esz z <;> cases Nat.beq o 0 <;> decide
          obtain ⟨hro, hez, ho0⟩ := hcd
          have hez := Nat.eq_of_beq_eq_true hez
          have ho0 := Nat.eq_of_beq_eq_true ho0
          subst ho0
          refine ⟨_, _, hk, Nat.le_succ _, fun ι w rs rx gd hs hx => ?_⟩
          have hs' := hs
          rw [ha] at hs'
          have hun : ι h.next = .unborn := gd.free _ (Nat.le_refl _) (Nat.lt_succ_self _)
          rcases hs'.someS with ⟨p, c', hp, he, hc, hnc⟩ | ⟨hd, _⟩ | ⟨hn', hc', ho, _⟩
          · subst he
            have ok := row_at gd.hr hg hp hgb
            have hpro : p.ro = false := ok.ro ▸ hro
            by_cases hfit : s.n + x.n ≤ c'
            · -- it fits where it lies
              obtain ⟨qx, cx, hqx, _⟩ := hx.slice
              subst hqx
              obtain ⟨rn, a1, a2, a3, a4⟩ := slRun gd.hr hz0 hnews hx
              have htail : 0 < p.esz ∧ p.off + c' * p.esz ≤ p.ext := by
                rcases hc with h | ⟨h1, _, h3⟩
                · omega
                · exact ⟨h1, h3 rfl⟩
              have hpez : p.esz = z := by rw [← ok.esz, hez]
              rw [hpez] at htail
              have hmul : (s.n + x.n) * z ≤ c' * z := Nat.mul_le_mul_right _ hfit
              rw [Nat.add_mul] at hmul
              rcases holds with ⟨h1, _⟩ | ⟨g', o', h1, h2', h3⟩
              · rw [ha] at h1; cases h1
              · rw [ha] at h1; cases h1
                rw [hlk] at h2' h3
                simp only [rowCells, Nat.zero_add, List.drop_zero] at h2' h3
                have hnl := a1.length
                by_cases hne : news = []
                · subst hne
                  simp at hnl
                  have : x.n * z = 0 := by rw [← a2]; simp [← hnl]
                  have : x.n = 0 := by rcases Nat.mul_eq_zero.1 this with h | h <;> omega
                  omega
                · have hgr := grow_stp (by exact gd) hg hp hgb hro (s.n * z) olds news rn h2' h3 a1 (by rw [hnl, a2]; omega) hne
                  rw [hez] at hgr
                  have hst := run_storeCells_cells (P := P) p.blk (p.off + s.n * z) rn 0 w (fun j hj => (ok.room hpro).2 _ (by omega) (by omega)) (fun j hj => (ok.room hpro).1.cell ((ok.room hpro).2 _ (by omega) (by omega)))
                    (a1.one (by
                      have : ∀ (l m : List Value), allCells (l ++ m) = true → allCells m = true := fun l m => by
                        induction l with
                        | nil => exact fun h => h
                        | cons v l ih => intro h; simp only [List.cons_append, allCells, Bool.and_eq_true] at h; exact ih h.2
                      exact this olds news hall))
                  refine ⟨_, _, _, append_room hu hz a2 a3 a4 hfit (by rw [add_none]; exact hst), hgr, ?_⟩
                  have := VR.sl (ι := upd (upd ι g .dead) h.next (.live ⟨p.blk, p.off, olds.length + news.length, p.ext, z, false⟩)) h.next 0 (s.n + x.n) (s.n + x.n) c' ⟨p.blk, p.off, olds.length + news.length, p.ext, z, false⟩ (upd_same _ _ _) (.inr ⟨hz0, hfit, fun _ => htail.2⟩) (Nat.le_refl _)
                  exact this
            · -- a new block; the elder one is no more
              refine key ι w _ c' rx gd.hr hs hx (by omega) (h.put g none) (upd ι g .dead) (kill_stp gd.hr hg hp hpro) (Le.kill ι g) rfl ?_
              rw [upd_ne _ _ (by omega)]
              exact hun
          · rw [gd.hr.dead g hg hd] at hgb; cases hgb
          · exact (ho rfl).elim
      · cases h2
end Go.Proofs.Ytibngikhlgmhaaa.Gx
/- The plain machine and the model: each operation. No condition. -/
namespace Go.Proofs.Ytibngikhlgmhaaa.Gx
open Go Go.RowKit
set_option linter.unusedVariables false
set_option linter.unusedSimpArgs false
variable {P : Program} {β : Type} {r : β}

theorem firstCells_run' {q : Option Addr} {n z len c' : Nat} {rs : List Value} {w : World} (hl : rs.length = n * z) (hc : ∀ qa, q = some qa → ∀ j u, rs[j]? = some u → w.cell? (qa.add j) = some u) (h0 : q = none → n = 0) :
    (Builtin.firstCells z n (.slice q len c')).run P w = .ok rs.toArray w := by
  cases q with
  | none => have := h0 rfl; subst this; have : rs = [] := List.length_eq_zero_iff.1 (by simpa using hl); subst this; exact run_firstCells_none w z 0 len c'
  | some qa => exact run_firstCells_some w z n qa len c' rs hl (hc qa rfl)
theorem gcopy_sim {t ty e : TypeId} {ts : Array TypeId} {z : Nat} (ht : ts[0]? = some t) (hu : P.underlying t = some (.slice e)) (hz : sizeT P e = some z) (hz0 : 0 < z) {d s : Sl} {h : GH} {K : Int → GH → Option β} (hh : gcopy z d s h K = some r) :
    ∃ (m : Int) (h' : GH), K m h' = some r ∧ h.next = h'.next ∧ ∀ ι w rd rs, Good ι h h'.next w → VR ι (.slice d.a d.n d.c) rd → VR ι (.slice s.a s.n s.c) rs →
      ∃ w', (Builtin.copy_ ts ty #[rd, rs]).run P w = .ok (.int .i64 m) w' ∧ Stp h ι w h' ι w' := by
  unfold gcopy at hh
  obtain ⟨cs, hh, hcs⟩ := slCells_some hh
  cases hm : Nat.beq (min s.n d.n) 0 with
  | true =>
    rw [hm] at hh
    simp only [cond_true] at hh
    have hm0 := Nat.eq_of_beq_eq_true hm
    refine ⟨0, h, hh, rfl, fun ι w rd rs gd hd hs => ?_⟩
    obtain ⟨qd, cd, hqd, _⟩ := hd.slice
    obtain ⟨qs, cs', hqs, _⟩ := hs.slice
    subst hqd; subst hqs
    have hf := firstCells_run' (P := P) (q := qs) (n := 0) (z := z) (len := s.n) (c' := cs') (rs := []) (w := w) (by simp) (fun _ _ j u h => by simp at h) (fun _ => rfl)
    refine ⟨w, ?_, Stp.refl gd.hr⟩
    have hmin : Nat.min s.n d.n = 0 := hm0
    simp [Builtin.copy_, ht, run_underlying hu, Builtin.lenOf, sizeOf_run hz, hmin, hf, goInt]
    cases qd <;> simp [storeCells]
  | false =>
    rw [hm] at hh
    simp only [cond_false] at hh
    obtain ⟨g, o, ha, h2⟩ := exA_some hh
    obtain ⟨b, hg, hgb, hro, hall, hle, hk⟩ := gput_some h2
    refine ⟨_, _, hk, rfl, fun ι w rd rs gd hd hs => ?_⟩
    obtain ⟨qs, cs', hqs, _⟩ := hs.slice
    subst hqs
    obtain ⟨rn, a1, a2, a3, a4⟩ := slRun gd.hr hz0 hcs hs
    rw [ha] at hd
    have hmn : min s.n d.n * z ≤ s.n * z := Nat.mul_le_mul_right _ (Nat.min_le_left _ _)
    rw [ntake_eq] at hall hle
    have a1' := a1.take (min s.n d.n * z)
    rcases hd.someS with ⟨p, c', hp, he, hc, hnc⟩ | ⟨hd', _⟩ | ⟨hn', hc', _⟩
    · subst he
      have hst := store_run (P := P) gd.hr hg hgb hro hall hle a1' hp
      have hstp := put_stp gd.hr hg hp hgb hro o (cs.take (min s.n d.n * z)) (rn.take (min s.n d.n * z)) hle a1'
      have hf := firstCells_run' (P := P) (q := qs) (n := min s.n d.n) (z := z) (len := s.n) (c' := cs') (rs := rn.take (min s.n d.n * z)) (w := w) (by rw [List.length_take, a2]; omega)
        (fun qa hqa j u hj => by
          rw [List.getElem?_take] at hj
          split at hj
          · exact a3 qa hqa j u hj
          · cases hj) (fun hq => by have := a4 hq; omega)
      have hmin : Nat.min s.n d.n = min s.n d.n := rfl
      refine ⟨_, ?_, by rw [ntake_eq]; exact hstp⟩
      simp [Builtin.copy_, ht, run_underlying hu, Builtin.lenOf, sizeOf_run hz, hf, hst, goInt, hmin]
    · rw [gd.hr.dead g hg hd'] at hgb; cases hgb
    · rw [hn'] at hm; simp at hm

/-! ### operations that look at no memory -/
theorem arr_one {xs : Array Value} {x : Value} (h : xs.toList = [x]) : xs = #[x] := by apply Array.ext'; simpa using h
theorem arr_two {xs : Array Value} {x y : Value} (h : xs.toList = [x, y]) : xs = #[x, y] := by apply Array.ext'; simpa using h
theorem gop_pure {C : Orc β} {o : Oper} {e : Env} {h : GH} {K : Value → GH → Option β} (hk : (match opKind P o.op with | .pure => true | _ => false) = true) (hg : gop P C o e h K = some r) :
    ∃ v, K v h = some r ∧ ∀ ι a, ER ι e a → ∃ rv, VR ι v rv ∧ ∀ w, (execOp a.eval o).run P w = .ok (.value rv) w := by
  unfold gop at hg
  cases ho : o.op
  all_goals
    rw [ho] at hg hk
    simp only [] at hg
  all_goals try (simp [opKind] at hk; done)
  all_goals try (cases hg; done)
  case move x => exact ⟨_, hg, fun ι a er => ⟨_, er.eval x, fun w => by simp [execOp, ho]⟩⟩
  case assign x => exact ⟨_, hg, fun ι a er => ⟨_, er.eval x, fun w => by simp [execOp, ho]⟩⟩
  case pick c x y =>
    obtain ⟨v, hv, hs⟩ := gpick_sim (P := P) hg
    refine ⟨v, hv, fun ι a er => ?_⟩
    obtain ⟨rv, h1, h2⟩ := hs ι _ _ _ (er.eval c) (er.eval x) (er.eval y)
    refine ⟨rv, h1, fun w => ?_⟩
    have := h2 w
    simp only [Sem.run_bind] at this
    simp only [execOp, ho, Sem.run_bind]
    cases hb : (asBool (a.eval c)).run P w with
    | ok b w' => rw [hb] at this; simp at this ⊢; exact this
    | halt x w' => rw [hb] at this; simp at this
  case binOp op t x y yt =>
    obtain ⟨v, hv, hs⟩ := gbinX_sim hg
    refine ⟨v, hv, fun ι a er => ?_⟩
    obtain ⟨rv, h2, h3⟩ := hs ι _ _ (er.eval x) (er.eval y)
    exact ⟨rv, h2, fun w => by simp only [execOp, ho, Sem.run_bind, h3 x y w]; rfl⟩
  case unOp op t x =>
    obtain ⟨v, hv, hs⟩ := gun_sim (P := P) hg
    refine ⟨v, hv, fun ι a er => ?_⟩
    obtain ⟨rv, h2, h3⟩ := hs ι _ (er.eval x)
    exact ⟨rv, h2, fun w => by simp only [execOp, ho, Sem.run_bind, h3 w]; rfl⟩
  case convert s d x =>
    have hg' : gconv P s d (e.eval x) (fun v => K v h) = some r := by
      unfold gconvX at hg
      split at hg
      · rename_i h1 h2 _; simp [opKind, h1, h2] at hk
      · rename_i h1 h2 _; simp [opKind, h1, h2] at hk
      · rename_i h1 h2 _; simp [opKind, h1, h2] at hk
      · exact hg
    obtain ⟨v, hv, hs⟩ := gconv_sim hg'
    refine ⟨v, hv, fun ι a er => ?_⟩
    obtain ⟨rv, h2, h3⟩ := hs ι _ (er.eval x)
    exact ⟨rv, h2, fun w => by simp only [execOp, ho, Sem.run_bind, h3 w]; rfl⟩
  case fieldAddr s x i =>
    obtain ⟨v, hv, hs⟩ := gfieldAddr_sim hg
    refine ⟨v, hv, fun ι a er => ?_⟩
    obtain ⟨rv, h2, h3⟩ := hs ι _ (er.eval x)
    exact ⟨rv, h2, fun w => by simp only [execOp, ho, Sem.run_bind, h3 w]; rfl⟩
  case field s x i =>
    obtain ⟨v, hv, hs⟩ := gfield_sim hg
    refine ⟨v, hv, fun ι a er => ?_⟩
    obtain ⟨rv, h2, h3⟩ := hs ι _ (er.eval x)
    exact ⟨rv, h2, fun w => by simp only [execOp, ho, Sem.run_bind, h3 w]; rfl⟩
  case indexAddr t x i =>
    obtain ⟨v, hv, hs⟩ := gindexAddr_sim hg
    refine ⟨v, hv, fun ι a er => ?_⟩
    obtain ⟨rv, h2, h3⟩ := hs ι _ _ (er.eval x) (er.eval i)
    exact ⟨rv, h2, fun w => by simp only [execOp, ho, Sem.run_bind, h3 w]; rfl⟩
  case index t x i =>
    obtain ⟨v, hv, hs⟩ := gindex_sim hg
    refine ⟨v, hv, fun ι a er => ?_⟩
    obtain ⟨rv, h2, h3⟩ := hs ι _ _ (er.eval x) (er.eval i)
    exact ⟨rv, h2, fun w => by simp only [execOp, ho, Sem.run_bind, h3 w]; rfl⟩
  case slice t x lo hi mx =>
    obtain ⟨v, hv, hs⟩ := gslice_sim hg
    refine ⟨v, hv, fun ι a er => ?_⟩
    obtain ⟨rv, h2, h3⟩ := hs ι _ _ _ _ (er.eval x) (er.opt lo) (er.opt hi) (er.opt mx)
    exact ⟨rv, h2, fun w => by simp only [execOp, ho, Sem.run_bind, h3 w]; rfl⟩
  case extract x i =>
    obtain ⟨v, hv, hs⟩ := gextract_sim (P := P) hg
    refine ⟨v, hv, fun ι a er => ?_⟩
    obtain ⟨rv, h2, h3⟩ := hs ι _ (er.eval x)
    exact ⟨rv, h2, fun w => by simp only [execOp, ho, Sem.run_bind, h3 w]; rfl⟩
  case nilCheck x =>
    obtain ⟨v, hv, hs⟩ := gnilCheck_sim hg
    refine ⟨v, hv, fun ι a er => ?_⟩
    obtain ⟨h1, q, h2⟩ := hs ι _ (er.eval x)
    exact ⟨_, h1, fun w => by simp only [execOp, ho, h2]; rfl⟩
  case build t ps =>
    obtain ⟨v, hv, hs⟩ := gbuild_sim hg
    refine ⟨v, hv, fun ι a er => ?_⟩
    obtain ⟨rv, h2, h3⟩ := hs ι (ps.map fun (i, x) => (i, a.eval x)) (by simpa using er.parts ps.toList)
    exact ⟨rv, h2, fun w => by simp only [execOp, ho, Sem.run_bind, h3 w]; rfl⟩
  case makeFunc fn fs cs =>
    exact ⟨_, hg, fun ι a er => ⟨.func fn (fs.map a.eval) (cs.map a.eval), .mkFunc (by simpa using er.evs fs.toList) (by simpa using er.evs cs.toList), fun w => by simp [execOp, ho, Instr.makeFunc]⟩⟩
  case call c =>
    obtain ⟨cal, args, ats⟩ := c
    cases cal with
    | value f => simp [opKind] at hk
    | invoke f m => simp [opKind] at hk
    | builtin b =>
      simp only [] at hg
      cases b <;> simp only [] at hg <;> try (simp [opKind] at hk; done)
      case len =>
        split at hg
        · rename_i x t hx ht
          obtain ⟨v, hv, hs⟩ := glen_sim (ty := o.type) hg
          refine ⟨v, hv, fun ι a er => ?_⟩
          have hev := er.evs args.toList
          rw [hx] at hev
          obtain ⟨rx, hrx, h1⟩ : ∃ rx, args.toList.map a.eval = [rx] ∧ VR ι x rx := by
            revert hev
            generalize args.toList.map a.eval = l
            intro hev
            cases hev with
            | cons h1 h2 => cases h2; exact ⟨_, rfl, h1⟩
          obtain ⟨rv, h2, h3⟩ := hs ι rx h1
          have e1 : args.map a.eval = #[rx] := arr_one (by rw [Array.toList_map]; exact hrx)
          have e2 : ats = #[t] := by apply Array.ext'; simpa using ht
          refine ⟨rv, h2, fun w => ?_⟩
          simp only [execOp, ho, Sem.run_bind, resolve, Sem.run_pure, Result.andThen_ok, invoke, builtin, e1, e2, h3 w]
        · cases hg
      case max =>
        split at hg
        · rename_i x ys hx
          obtain ⟨v, hv, hs⟩ := gmxs_sim (P := P) hg
          refine ⟨v, hv, fun ι a er => ?_⟩
          have hev := er.evs args.toList
          rw [hx] at hev
          obtain ⟨rx, rys, hrx, h1, h1'⟩ : ∃ rx rys, args.toList.map a.eval = rx :: rys ∧ VR ι x rx ∧ All2 (VR ι) ys rys := by
            revert hev
            generalize args.toList.map a.eval = l
            intro hev
            cases hev with
            | cons h1 h2 => exact ⟨_, _, rfl, h1, h2⟩
          obtain ⟨rv, h2, h3⟩ := hs ι rx rys h1 h1'
          have e1 : (args.map a.eval).toList = rx :: rys := by rw [Array.toList_map]; exact hrx
          refine ⟨rv, h2, fun w => ?_⟩
          have h3' := h3 w
          simp only [if_true] at h3'
          simp only [execOp, ho, Sem.run_bind, resolve, Sem.run_pure, Result.andThen_ok, invoke, builtin, Builtin.max_, e1, h3']
        · cases hg
      case min =>
        split at hg
        · rename_i x ys hx
          obtain ⟨v, hv, hs⟩ := gmxs_sim (P := P) hg
          refine ⟨v, hv, fun ι a er => ?_⟩
          have hev := er.evs args.toList
          rw [hx] at hev
          obtain ⟨rx, rys, hrx, h1, h1'⟩ : ∃ rx rys, args.toList.map a.eval = rx :: rys ∧ VR ι x rx ∧ All2 (VR ι) ys rys := by
            revert hev
            generalize args.toList.map a.eval = l
            intro hev
            cases hev with
            | cons h1 h2 => exact ⟨_, _, rfl, h1, h2⟩
          obtain ⟨rv, h2, h3⟩ := hs ι rx rys h1 h1'
          have e1 : (args.map a.eval).toList = rx :: rys := by rw [Array.toList_map]; exact hrx
          refine ⟨rv, h2, fun w => ?_⟩
          have h3' := h3 w
          simp only [Bool.false_eq_true, if_false] at h3'
          simp only [execOp, ho, Sem.run_bind, resolve, Sem.run_pure, Result.andThen_ok, invoke, builtin, Builtin.min_, e1, h3']
        · cases hg
      all_goals cases hg
end Go.Proofs.Ytibngikhlgmhaaa.Gx
/- The plain machine and the model: maps. No condition. -/
namespace Go.Proofs.Ytibngikhlgmhaaa.Gx
open Go Go.RowKit
set_option linter.unusedVariables false
set_option linter.unusedSimpArgs false
variable {P : Program} {β : Type} {r : β}
def CkS (P : Program) (D : Nat) (t : TypeId) (x : Value) : Prop := ∀ ι rx, VR ι x rx → ∀ em w, (Instr.checkKey em D t rx).run P w = .ok () w
theorem gkeyFs_sim {E : TypeId → Value → Option β → Option β} {d : Nat} (hE : ∀ t x K, E t x K = some r → K = some r ∧ ∀ D, CkS P (D + d) t x) {xs : List Value} : ∀ (fs : List Field) {K : Option β}, gkeyFs P E xs fs K = some r →
    K = some r ∧ ∀ D ι (rx : Array Value), All2 (VR ι) xs rx.toList → ∀ em w, (forIn fs PUnit.unit (fun f _ => do
      if f.name ≠ "_" then
        let a ← part f.type rx f.offset
        Instr.checkKey em (D + d) f.type a
        pure (ForInStep.yield PUnit.unit)
      else pure (ForInStep.yield PUnit.unit)) : Sem PUnit).run P w = .ok PUnit.unit w
  | [], K, h => ⟨h, fun D ι rx _ em w => by simp⟩
  | f :: fs, K, h => by
    unfold gkeyFs at h
    obtain ⟨hn, h⟩ := cond_none' h
    obtain ⟨a, h, ha⟩ := exCells_sim h
    obtain ⟨h, hp⟩ := hE _ _ _ h
    obtain ⟨h, hq⟩ := gkeyFs_sim hE fs h
    refine ⟨h, fun D ι rx hx em w => ?_⟩
    obtain ⟨ra, va, pa⟩ := ha ι rx hx
    have hn' : f.name ≠ "_" := by simpa using hn
    simp only [List.forIn_cons, hn', ne_eq, not_false_eq_true, if_true, Sem.run_bind, pa w, hp D ι _ va em w, Result.andThen_ok, Sem.run_pure]
    exact hq D ι rx hx em w
theorem gkeyIs_sim {E : Value → Option β → Option β} {d : Nat} {e : TypeId} (hE : ∀ x K, E x K = some r → K = some r ∧ ∀ D, CkS P (D + d) e x) {z : Nat} (hz : sizeT P e = some z) {xs : List Value} : ∀ (n i : Nat) {K : Option β}, gkeyIs P E e z xs n i K = some r →
    K = some r ∧ ∀ D ι (rx : Array Value), All2 (VR ι) xs rx.toList → ∀ em w, (forIn (List.range' i n) PUnit.unit (fun j _ => do
        let s ← sizeOf e
        let a ← part e rx (j * s)
        Instr.checkKey em (D + d) e a
        pure (ForInStep.yield PUnit.unit)) : Sem PUnit).run P w = .ok PUnit.unit w
  | 0, i, K, h => ⟨h, fun D ι rx _ em w => by simp⟩
  | n + 1, i, K, h => by
    unfold gkeyIs at h
    obtain ⟨a, h, ha⟩ := exCells_sim h
    obtain ⟨h, hp⟩ := hE _ _ h
    obtain ⟨h, hq⟩ := gkeyIs_sim hE hz n (i + 1) h
    refine ⟨h, fun D ι rx hx em w => ?_⟩
    obtain ⟨ra, va, pa⟩ := ha ι rx hx
    simp only [List.range'_succ, List.forIn_cons, Sem.run_bind, sizeOf_run hz, pa w, hp D ι _ va em w, Result.andThen_ok, Sem.run_pure]
    exact hq D ι rx hx em w
theorem gkeyC_sim : ∀ (d : Nat) {t : TypeId} {x : Value} {K : Option β}, gkeyC P d t x K = some r → K = some r ∧ ∀ D, CkS P (D + d) t x
  | 0, t, x, K, h => by cases h
  | d + 1, t, x, K, h => by
    unfold gkeyC at h
    split at h
    · rename_i hu
      exact ⟨h, fun D ι rx hx em w => by rw [show D + (d + 1) = (D + d) + 1 from rfl, Instr.checkKey]; simp [run_underlying hu]⟩
    · rename_i k hu
      exact ⟨h, fun D ι rx hx em w => by rw [show D + (d + 1) = (D + d) + 1 from rfl, Instr.checkKey]; simp [run_underlying hu]⟩
    · rename_i hu
      exact ⟨h, fun D ι rx hx em w => by rw [show D + (d + 1) = (D + d) + 1 from rfl, Instr.checkKey]; simp [run_underlying hu]⟩
    · rename_i fs xs hu
      obtain ⟨h, hb⟩ := gkeyFs_sim (P := P) (d := d) (fun t x K h => gkeyC_sim d h) fs.toList h
      refine ⟨h, fun D ι rx hx em w => ?_⟩
      obtain ⟨rxs, rfl, h1⟩ := hx.aggL
      rw [show D + (d + 1) = (D + d) + 1 from rfl, Instr.checkKey]
      simp only [Sem.run_bind, run_underlying hu, Result.andThen_ok]
      rw [← Array.forIn_toList]
      rw [hb D ι rxs h1 em w]; rfl
    · rename_i n e xs hu
      split at h
      · rename_i z hz
        obtain ⟨i, hi, hc⟩ := info_underlying hz
        obtain ⟨h, hb⟩ := gkeyIs_sim (P := P) (d := d) (fun x K h => gkeyC_sim d h) hz n 0 h
        refine ⟨h, fun D ι rx hx em w => ?_⟩
        obtain ⟨rxs, rfl, h1⟩ := hx.aggL
        rw [show D + (d + 1) = (D + d) + 1 from rfl, Instr.checkKey]
        simp only [Sem.run_bind, run_underlying hu, Result.andThen_ok, Std.Legacy.Range.forIn_eq_forIn_range', Std.Legacy.Range.size, Nat.sub_zero, Nat.add_one_sub_one, Nat.div_one]
        rw [hb D ι rxs h1 em w]; rfl
      · cases h
    · cases h
theorem leafB_spec {a b : Value} (h : leafB a b = true) : a = b ∧ plain1 a = true ∧ ∀ n, Instr.sameBits n a a = true := by
  unfold leafB at h
  split at h
  · rename_i a b
    have : a = b := by simpa using h
    subst this
    exact ⟨rfl, rfl, fun n => by cases n <;> simp [Instr.sameBits]⟩
  · simp only [Bool.and_eq_true, decide_eq_true_eq, beq_iff_eq] at h
    obtain ⟨rfl, rfl⟩ := h
    exact ⟨rfl, rfl, fun n => by cases n <;> simp [Instr.sameBits]⟩
  · rename_i a b
    have h2 : a.data.toList = b.data.toList := by unfold beqS at h; simpa using h
    have : a = b := by
      obtain ⟨⟨x⟩⟩ := a
      obtain ⟨⟨y⟩⟩ := b
      simp only at h2
      subst h2; rfl
    subst this
    have hb : (a == a) = true := by rw [beq_toListBytes]; simp
    exact ⟨rfl, rfl, fun n => by cases n <;> simp [Instr.sameBits, hb]⟩
  · cases h
theorem leafsB_spec : ∀ {xs ys : List Value}, leafsB xs ys = true → xs = ys ∧ plains xs = true ∧ ∀ n, (xs.zip xs).all (fun (x, y) => Instr.sameBits n x y) = true
  | [], [], _ => ⟨rfl, rfl, fun _ => rfl⟩
  | a :: x, b :: y, h => by
    simp only [leafsB, Bool.and_eq_true] at h
    obtain ⟨rfl, h1, h2⟩ := leafB_spec h.1
    obtain ⟨rfl, h3, h4⟩ := leafsB_spec h.2
    exact ⟨rfl, by simp [plains, h1, h3], fun n => by simp only [List.zip_cons_cons, List.all_cons, h2 n, h4 n, Bool.and_self]⟩
  | [], _ :: _, h => by cases h
  | _ :: _, [], h => by cases h
theorem plains_eq {ι : Inj} {xs ys : List Value} (h : All2 (VR ι) xs ys) (hp : plains xs = true) : xs = ys := by
  induction h with
  | nil => rfl
  | cons h t ih =>
    simp only [plains, Bool.and_eq_true] at hp
    rw [ih hp.2]
    congr 1
    have := hp.1
    cases h <;> first | rfl | (simp [plain1] at this)
theorem plain1_eq {ι : Inj} {x y : Value} (h : VR ι x y) (hp : plain1 x = true) : x = y := by cases h <;> first | rfl | (simp [plain1] at hp)
theorem sameG_spec {a b : Value} (h : sameG a b = true) : ∀ ι ra rb, VR ι a ra → VR ι b rb → Instr.sameBits 10000 ra rb = true := by
  unfold sameG at h
  split at h
  · rename_i xs ys
    obtain ⟨h1, h2, h3⟩ := leafsB_spec h
    intro ι ra rb ha hb
    obtain ⟨rxs, rfl, q1⟩ := ha.aggL
    obtain ⟨rys, rfl, q2⟩ := hb.aggL
    have e1 := plains_eq q1 h2
    have e2 := plains_eq q2 (h1 ▸ h2)
    have : rxs.toList = rys.toList := by rw [← e1, ← e2, h1]
    have : rxs = rys := by apply Array.ext'; exact this
    subst this
    rw [show (10000 : Nat) = 9999 + 1 from rfl, Instr.sameBits, ← e1]
    simp [h3]
  · obtain ⟨rfl, h2, h3⟩ := leafB_spec h
    intro ι ra rb ha hb
    rw [← plain1_eq ha h2, ← plain1_eq hb h2]
    exact h3 10000
/-- what is found, both ways -/
def FR (ι : Inj) : Option (Nat × Value) → Option (Nat × Value) → Prop
  | none, none => True
  | some (i, v), some (j, u) => i = j ∧ VR ι v u
  | _, _ => False
theorem gfind_sim {t : TypeId} {k : Value} : ∀ {es : List (Value × Value)} {i : Nat} {K : Option (Nat × Value) → Option β}, gfind P t k es i K = some r →
    ∃ o, K o = some r ∧ (∀ j v, o = some (j, v) → i ≤ j ∧ j < i + es.length) ∧ ∀ ι rk ents, VR ι k rk → All2 (MR ι) es ents → ∀ w, (∃ o', (Instr.findAsking t rk ents i).run P w = .ok o' w ∧ FR ι o o') ∧
      ∀ kd, P.underlying t = some kd → ∀ o'', Instr.findNow kd rk ents i = some o'' → (Instr.findAsking t rk ents i).run P w = .ok o'' w
  | [], i, K, h => ⟨none, h, fun j v h => by (cases h), fun ι rk ents hk he w => by
    cases he
    exact ⟨⟨none, by simp [Instr.findAsking], trivial⟩, fun kd hkd o'' ho => by cases ho; simp [Instr.findAsking]⟩⟩
  | (k', v) :: es, i, K, h => by
    unfold gfind at h
    obtain ⟨b, h, hb⟩ := geqC_sim 16 h
    have head : ∀ ι rk e ents, VR ι k rk → MR ι (k', v) e → ∀ w, (Instr.findAsking t rk (e :: ents) i).run P w = (if b then .ok (some (i, e.val)) w else (Instr.findAsking t rk ents (i + 1)).run P w) ∧
        ∀ kd, P.underlying t = some kd → ∀ q, Instr.sameNow kd rk e.key = some q → q = b := fun ι rk e ents hk hm w => by
      have he := hb 9984 ι _ _ hk hm.1 w
      refine ⟨?_, fun kd hkd q hq => ?_⟩
      · have he' : (Op.equal t rk e.key).run P w = .ok b w := he
        simp only [Instr.findAsking, Sem.run_bind, he', Result.andThen_ok]
        cases b <;> simp
      · unfold Instr.sameNow at hq
        split at hq
        · rename_i q1 k1 a k2 b2 heq
          split at hq
          · rename_i hkk
            cases hq
            subst hkk
            have := run_equalIn_int w 9999 t k1 q1 a b2 hkd
            rw [heq, show (9984 + 16 : Nat) = 9999 + 1 from rfl, this] at he
            cases he; rfl
          · cases hq
        · rename_i a b2 heq
          cases hq
          have := run_equalIn_string w 9999 t a b2 hkd
          rw [heq, show (9984 + 16 : Nat) = 9999 + 1 from rfl, this, ← beq_toListBytes] at he
          cases he; rfl
        · rename_i a b2 heq
          cases hq
          have := run_equalIn_bool w 9999 t a b2 hkd
          rw [heq, show (9984 + 16 : Nat) = 9999 + 1 from rfl, this] at he
          cases he; rfl
        · cases hq
    cases b with
    | true =>
      simp only [cond_true] at h
      refine ⟨_, h, fun j u hj => by cases hj; simp, fun ι rk ents hk he w => ?_⟩
      cases he with
      | cons hm ht =>
        obtain ⟨h1, h2⟩ := head ι rk _ _ hk hm w
        refine ⟨⟨some (i, _), by rw [h1, if_pos rfl], show _ = _ ∧ _ from ⟨rfl, hm.2⟩⟩, fun kd hkd o'' ho => ?_⟩
        unfold Instr.findNow at ho
        split at ho
        · cases ho; rw [h1, if_pos rfl]
        · rename_i hq; have := h2 kd hkd _ hq; cases this
        · cases ho
    | false =>
      simp only [cond_false] at h
      obtain ⟨o, h, hj, ih⟩ := gfind_sim (es := es) h
      refine ⟨o, h, fun j u e => by have := hj j u e; simp; omega, fun ι rk ents hk he w => ?_⟩
      cases he with
      | cons hm ht =>
        obtain ⟨h1, h2⟩ := head ι rk _ _ hk hm w
        obtain ⟨⟨o', q1, q2⟩, q3⟩ := ih ι rk _ hk ht w
        refine ⟨⟨o', by rw [h1, if_neg (by simp)]; exact q1, q2⟩, fun kd hkd o'' ho => ?_⟩
        rw [h1, if_neg (by simp)]
        unfold Instr.findNow at ho
        split at ho
        · rename_i hq; have := h2 kd hkd _ hq; cases this
        · exact q3 kd hkd o'' ho
        · cases ho
theorem findKey_sim {t : TypeId} {k : Value} {es : List (Value × Value)} {K : Option (Nat × Value) → Option β} (hd : (P.underlying t).isSome = true) (h : gfind P t k es 0 K = some r) :
    ∃ o, K o = some r ∧ (∀ j v, o = some (j, v) → j < es.length) ∧ ∀ ι rk ents, VR ι k rk → All2 (MR ι) es ents → ∀ w, ∃ o', (Instr.findKey t rk ents).run P w = .ok o' w ∧ FR ι o o' := by
  obtain ⟨o, h, hj, hs⟩ := gfind_sim h
  refine ⟨o, h, fun j v e => by have := hj j v e; omega, fun ι rk ents hk he w => ?_⟩
  obtain ⟨⟨o', q1, q2⟩, q3⟩ := hs ι rk ents hk he w
  obtain ⟨kd, hkd⟩ := Option.isSome_iff_exists.1 hd
  refine ⟨o', ?_, q2⟩
  unfold Instr.findKey
  simp only [Sem.run_bind, run_underlying hkd, Result.andThen_ok]
  cases hf : Instr.findNow kd rk ents 0 with
  | none => exact q1
  | some o'' =>
    have := q3 kd hkd o'' hf
    rw [q1] at this
    cases this
    simp
theorem getObj_mapG {w : World} {b : Nat} {ents : Array MapEntry} {c : Nat} (hb : w.heap[b]? = some (.map ents c)) : (getObj b).run P w = .ok (.map ents c) w := by simp [getObj, Sem.run, hb]
theorem gkeyC_und {d : Nat} {t : TypeId} {x : Value} {K : Option β} (h : gkeyC P d t x K = some r) : (P.underlying t).isSome = true := by
  cases d with
  | zero => cases h
  | succ d =>
    unfold gkeyC at h
    split at h <;> first | (rename_i hu; rw [hu]; rfl) | (rename_i hu; simp [hu]) | skip
    all_goals first | (cases h; done) | simp_all
theorem map_at {ι : Inj} {h : GH} {w : World} (hr : HR ι h w) {g : Nat} {p : Pl} {es : List (Value × Value)} (hg : g < h.next) (hp : ι g = .live p) (hb : h.get g = some (.map es)) : MapOk ι p es w := by
  have := hr.obj g p hg hp; rw [hb] at this; exact this
theorem VR.someM {ι : Inj} {g : Nat} {rv : Value} (h : VR ι (.map (some g)) rv) : (∃ p, ι g = .live p ∧ rv = .map (some p.blk)) ∨ (ι g = .dead ∧ ∃ q, rv = .map (some q)) := by
  cases h with
  | same _ h => cases h
  | map _ p h => exact .inl ⟨p, h, rfl⟩
  | mapD _ q h => exact .inr ⟨h, q, rfl⟩
theorem gmapOf_some {x : Value} {h : GH} {K : List (Value × Value) → Option β} (hh : gmapOf x h K = some r) :
    ∃ es, K es = some r ∧ ((x = .map none ∧ es = []) ∨ ∃ g, x = .map (some g) ∧ g < h.next ∧ h.get g = some (.map es)) := by
  unfold gmapOf at hh
  split at hh
  · exact ⟨[], hh, .inl ⟨rfl, rfl⟩⟩
  · rename_i g
    split at hh
    · rename_i es hl
      obtain ⟨h1, h2⟩ := look_get hl
      exact ⟨es, hh, .inr ⟨g, rfl, h1, h2⟩⟩
    · cases hh
  · cases hh
theorem castV0_sim {t : TypeId} {v : Value} {K : Value → Option β} (hg : castV0 P t v K = some r) : K v = some r := by
  unfold castV0 at hg
  split at hg
  · cases hg
  · rename_i d hd
    cases ha : aggD d with
    | true => rw [ha] at hg; cases hg
    | false =>
      rw [ha] at hg
      simp only [cond_false] at hg
      obtain ⟨v', hv, hg⟩ := exK_some hg
      cases hv
      exact hg
theorem glookup_sim {xT : TypeId} {x k : Value} {ok : Bool} {h : GH} {K : Value → Option β} (hh : glookup P xT x k ok h K = some r) :
    ∃ v, K v = some r ∧ ∀ ι w rx rk, HR ι h w → VR ι x rx → VR ι k rk → ∃ rv, VR ι v rv ∧ (Instr.lookup xT rx rk ok).run P w = .ok rv w := by
  unfold glookup at hh
  split at hh
  · rename_i kt et hu
    obtain ⟨es, hh, hes⟩ := gmapOf_some hh
    have hkt := gkeyC_und hh
    obtain ⟨hh, hck⟩ := gkeyC_sim 16 hh
    obtain ⟨o, hh, hj, hs⟩ := findKey_sim hkt hh
    have hreal : ∀ ι w rx, HR ι h w → VR ι x rx → ∃ ents : Array MapEntry, All2 (MR ι) es ents.toList ∧ ((rx = .map none ∧ ents = #[]) ∨ ∃ b c, rx = .map (some b) ∧ w.heap[b]? = some (.map ents c)) := fun ι w rx hr hx => by
      rcases hes with ⟨rfl, rfl⟩ | ⟨g, rfl, h1, h2⟩
      · cases hx with
        | same => exact ⟨#[], .nil, .inl ⟨rfl, rfl⟩⟩
      · rcases hx.someM with ⟨p, hp, rfl⟩ | ⟨hd, _⟩
        · obtain ⟨_, _, _, ents, c, h4, h5⟩ := map_at hr h1 hp h2
          exact ⟨ents, h5, .inr ⟨_, c, rfl, h4⟩⟩
        · rw [hr.dead g h1 hd] at h2; cases h2
    have key : ∀ (v : Value), (∀ ι o', FR ι o o' → ∃ rv, VR ι (bif ok then .tuple #[v, .bool o.isSome] else v) rv ∧ ∀ w, (match o' with | some (_, v) => pure (if ok then .tuple #[v, .bool true] else v) | none => do { let z ← zeroValue et; pure (if ok then .tuple #[z, .bool false] else z) } : Sem Value).run P w = .ok rv w) →
        ∀ ι w rx rk, HR ι h w → VR ι x rx → VR ι k rk → ∃ rv, VR ι (bif ok then .tuple #[v, .bool o.isSome] else v) rv ∧ (Instr.lookup xT rx rk ok).run P w = .ok rv w := fun v hv ι w rx rk hr hx hk => by
      obtain ⟨ents, h1, h2⟩ := hreal ι w rx hr hx
      obtain ⟨o', h3, h4⟩ := hs ι rk ents.toList hk h1 w
      obtain ⟨rv, h5, h6⟩ := hv ι o' h4
      refine ⟨rv, h5, ?_⟩
      have h7 := hck 9984 ι rk hk ents.isEmpty w
      have h8 := h6 w
      unfold Instr.lookup
      rcases h2 with ⟨rfl, rfl⟩ | ⟨b, c, rfl, hb⟩
      · simp only [Sem.run_bind, run_underlying hu, Result.andThen_ok, Sem.run_pure, h7, h3]
        cases o' with
        | none => cases ok <;> simpa using h8
        | some ju => cases ok <;> simpa using h8
      · simp only [Sem.run_bind, run_underlying hu, Result.andThen_ok, getObj_mapG hb, Sem.run_pure, h7, h3]
        cases o' with
        | none => cases ok <;> simpa using h8
        | some ju => cases ok <;> simpa using h8
    cases o with
    | some iv =>
      obtain ⟨i, v⟩ := iv
      have hh := castV0_sim hh
      refine ⟨_, hh, key v fun ι o' hf => ?_⟩
      cases o' with
      | none => exact hf.elim
      | some ju =>
        obtain ⟨j, u⟩ := ju
        refine ⟨if ok then .tuple #[u, .bool true] else u, ?_, fun w => by simp⟩
        cases ok
        · exact hf.2
        · exact .mkTup (.cons hf.2 (.cons (.same _ rfl) .nil))
    | none =>
      simp only [] at hh
      split at hh
      · rename_i z hz
        obtain ⟨hp, hh⟩ := cond_none hh
        refine ⟨_, hh, key z fun ι o' hf => ?_⟩
        cases o' with
        | some _ => exact hf.elim
        | none =>
          refine ⟨if ok then .tuple #[z, .bool false] else z, ?_, fun w => by simp [zero_run hz]⟩
          cases ok
          · exact .plainC hp ι
          · exact .mkTup (.cons (.plainC hp ι) (.cons (.same _ rfl) .nil))
      · cases hh
  · cases hh
theorem nset_eq {α : Type} (l : List α) : ∀ (i : Nat) (y : α), nset l i y = l.set i y := by
  induction l with
  | nil => intro i y; cases i <;> rfl
  | cons x r ih => intro i y; cases i with | zero => rfl | succ i => simp [nset, ih]
theorem All2.set {α γ : Type} {R : α → γ → Prop} {as : List α} {cs : List γ} (h : All2 R as cs) : ∀ (i : Nat) {a : α} {c : γ}, R a c → All2 R (as.set i a) (cs.set i c) := by
  induction h with
  | nil => intro i a c _; exact .nil
  | cons h t ih => intro i a c hr; cases i with | zero => exact .cons hr t | succ i => exact .cons h (ih i hr)
theorem setObj_mapG {w : World} {b : Nat} {ents : Array MapEntry} {c : Nat} (o : Obj) (hb : w.heap[b]? = some (.map ents c)) : (setObj b o).run P w = .ok () { w with heap := w.heap.setIfInBounds b o } := by
  simp [setObj, Sem.run, hb]
theorem gmapPut_sim {mT : TypeId} {x k v : Value} {h : GH} {K : GH → Option β} (hh : gmapPut P mT x k v h K = some r) :
    ∃ h', K h' = some r ∧ h'.next = h.next ∧ ∀ ι w rx rk rv, Good ι h h'.next w → VR ι x rx → VR ι k rk → VR ι v rv → ∃ w', (Instr.mapUpdate mT rx rk rv).run P w = .ok () w' ∧ Stp h ι w h' ι w' := by
  unfold gmapPut at hh
  split at hh
  · rename_i kt et g hu
    split at hh
    · rename_i es hl
      obtain ⟨hg, hb⟩ := look_get hl
      have hkt := gkeyC_und hh
      obtain ⟨hh, hck⟩ := gkeyC_sim 16 hh
      obtain ⟨o, hh, hj, hs⟩ := findKey_sim hkt hh
      have hreal : ∀ ι w rx, HR ι h w → VR ι (.map (some g)) rx → ∃ p, ι g = .live p ∧ rx = .map (some p.blk) ∧ ∃ ents c, w.heap[p.blk]? = some (.map ents c) ∧ All2 (MR ι) es ents.toList := fun ι w rx hr hx => by
        rcases hx.someM with ⟨p, hp, rfl⟩ | ⟨hd, _⟩
        · obtain ⟨_, _, _, ents, c, h4, h5⟩ := map_at hr hg hp hb
          exact ⟨p, hp, rfl, ents, c, h4, h5⟩
        · rw [hr.dead g hg hd] at hb; cases hb
      cases o with
      | none =>
        refine ⟨_, hh, rfl, fun ι w rx rk rv gd hx hk hv => ?_⟩
        obtain ⟨p, hp, rfl, ents, c, h1, h2⟩ := hreal ι w rx gd.hr hx
        obtain ⟨o', h3, h4⟩ := hs ι rk ents.toList hk h2 w
        have h7 := hck 9984 ι rk hk false w
        cases o' with
        | some _ => exact h4.elim
        | none =>
          refine ⟨_, ?_, putmap_stp gd.hr hg hp hb (ents.push { key := rk, val := rv, born := c }) (c + 1) ?_⟩
          · unfold Instr.mapUpdate
            simp only [Sem.run_bind, run_underlying hu, Result.andThen_ok, getObj_mapG h1, h7, h3, setObj_mapG _ h1]
          · rw [Array.toList_push]
            exact h2.append (.cons ⟨hk, hv⟩ .nil)
      | some iv =>
        obtain ⟨i, v0⟩ := iv
        simp only [] at hh
        split at hh
        · rename_i k' v' hn
          obtain ⟨hsm, hh⟩ := cond_none hh
          refine ⟨_, hh, rfl, fun ι w rx rk rv gd hx hk hv => ?_⟩
          obtain ⟨p, hp, rfl, ents, c, h1, h2⟩ := hreal ι w rx gd.hr hx
          obtain ⟨o', h3, h4⟩ := hs ι rk ents.toList hk h2 w
          have h7 := hck 9984 ι rk hk false w
          obtain ⟨e, he, hme⟩ := h2.get hn
          have hei : ents[i]? = some e := by rw [nth_eq] at he; simpa using he
          have hsb := sameG_spec hsm ι e.key rk hme.1 hk
          cases o' with
          | none => exact h4.elim
          | some ju =>
            obtain ⟨j, u⟩ := ju
            obtain ⟨rfl, _⟩ := (h4 : i = j ∧ _)
            refine ⟨_, ?_, putmap_stp gd.hr hg hp hb (ents.modify i fun e => { e with key := rk, val := rv }) c ?_⟩
            · unfold Instr.mapUpdate
              simp only [Sem.run_bind, run_underlying hu, Result.andThen_ok, getObj_mapG h1, h7, h3, hei, Option.map_some, Option.getD_some, Instr.keyThatStays, hsb, if_true, Sem.run_pure, setObj_mapG _ h1]
            · have : (ents.modify i fun e => { e with key := rk, val := rv }).toList = ents.toList.set i { e with key := rk, val := rv } := by
                apply List.ext_getElem?
                intro n
                rw [Array.getElem?_toList, Array.getElem?_modify, List.getElem?_set]
                by_cases hni : i = n
                · subst hni
                  obtain ⟨q1, q2⟩ := Array.getElem?_eq_some_iff.1 hei
                  simp [hei, q1, q2]
                · simp [hni]
              rw [this, nset_eq]
              exact h2.set i ⟨hk, hv⟩
        · cases hh
    · cases hh
  · cases hh
end Go.Proofs.Ytibngikhlgmhaaa.Gx
/- The plain machine and the model: texts and rows of bytes made out of each other. No condition. -/
namespace Go.Proofs.Ytibngikhlgmhaaa.Gx
open Go Go.RowKit
set_option linter.unusedVariables false
set_option linter.unusedSimpArgs false
variable {P : Program} {β : Type} {r : β}
theorem exBs_some : ∀ {vs : List Value} {K : List Int → Option β}, exBs vs K = some r → ∃ xs : List Int, vs = xs.map (.int .u8) ∧ K xs = some r
  | [], K, h => ⟨[], rfl, h⟩
  | v :: vs, K, h => by
    cases v with
    | int k n =>
      cases k <;> first | (cases h; done) | skip
      obtain ⟨xs, h1, h2⟩ := exBs_some (vs := vs) (K := fun l => K (n :: l)) h
      exact ⟨n :: xs, by rw [h1]; rfl, h2⟩
    | _ => cases h
theorem u8_rel {ι : Inj} : ∀ {xs : List Int} {rs : List Value}, All2 (VR ι) (xs.map (.int .u8)) rs → rs = xs.map (.int .u8)
  | [], rs, h => by cases h; rfl
  | x :: xs, rs, h => by
    cases h with
    | cons h t => rw [h.int, u8_rel t]; rfl
theorem of_blt' {a b : Nat} (h : Nat.blt a b = true) : a < b := by rw [Nat.blt_eq] at h; exact h
/-- a block marked behind its end -/
def froze (w : World) (b : Nat) : World := { w with heap := w.heap.modify b fun | .cells c elem (lo, hi) => .cells c elem (if lo == hi then (c.size, c.size + 1) else (min lo c.size, max hi (c.size + 1))) | o => o }
theorem froze_heap (w : World) (b k : Nat) : (froze w b).heap[k]? = if b = k then (w.heap[k]?).map (fun | .cells c elem (lo, hi) => .cells c elem (if lo == hi then (c.size, c.size + 1) else (min lo c.size, max hi (c.size + 1))) | o => o) else w.heap[k]? := by
  show (w.heap.modify b _)[k]? = _
  rw [Array.getElem?_modify]
theorem froze_cell (w : World) (b k i : Nat) : (froze w b).cell? ⟨k, i, none⟩ = w.cell? ⟨k, i, none⟩ := by
  by_cases hb : b = k
  · subst hb
    simp only [World.cell?, froze_heap, if_true]
    cases w.heap[b]? with
    | none => rfl
    | some o => cases o <;> rfl
  · simp only [World.cell?, froze_heap, if_neg hb]
theorem froze_fz {w : World} {b k : Nat} (h : FzOk w k) : FzOk (froze w b) k := by
  obtain ⟨c, e, lo, hi, h1, h2⟩ := h
  by_cases hb : b = k
  · subst hb
    by_cases hl : lo = hi
    · subst hl
      exact ⟨c, e, c.size, c.size + 1, by rw [froze_heap, if_pos rfl, h1]; simp, .inr (Nat.le_refl _)⟩
    · have hlb : (lo == hi) = false := by simpa using hl
      have h3 : c.size ≤ lo := h2.resolve_left hl
      exact ⟨c, e, min lo c.size, max hi (c.size + 1), by rw [froze_heap, if_pos rfl, h1]; simp [hl], .inr (by omega)⟩
  · exact ⟨c, e, lo, hi, by rw [froze_heap, if_neg hb]; exact h1, h2⟩
theorem froze_map {w : World} {b k : Nat} {ents : Array MapEntry} {c : Nat} (h : w.heap[k]? = some (.map ents c)) : (froze w b).heap[k]? = some (.map ents c) := by
  rw [froze_heap]; split
  · rw [h]; rfl
  · exact h
theorem froze_stp {ι : Inj} {h : GH} {w : World} (hr : HR ι h w) {g : Nat} {p : Pl} {b : Blk} (hg : g < h.next) (hp : ι g = .live p) (hb : h.get g = some (.row b)) (hro : b.ro = false) (hne : 0 < b.cells.length) : Stp h ι w h ι (froze w p.blk) := by
  have ok := row_at hr hg hp hb
  have hsz := ok.size
  have hext := ok.ext
  have hsize : (froze w p.blk).heap.size = w.heap.size := by show (w.heap.modify _ _).size = _; simp
  refine ⟨Nat.le_refl _, fun _ _ => .inl rfl, fun _ _ => rfl, ⟨fun x q hx hq => ?_, hr.dead, hr.apart, fun x q hq => by rw [hsize]; exact hr.inb x q hq⟩, fun _ _ _ => rfl, ⟨rfl, rfl, rfl, by rw [hsize]; exact Nat.le_refl _, fun k i _ _ => froze_cell w _ k i, fun k i _ hh => by rw [froze_cell]; exact hh, fun k _ hf => froze_fz hf, fun k _ hn => ?_⟩, fun _ _ _ hh => hh⟩
  · exact (hr.obj x q hx hq).mono (Le.refl _) (fun i _ _ => froze_cell w _ _ i) (fun _ => ⟨froze_fz, fun i _ _ hh => by rw [froze_cell]; exact hh⟩) (fun _ _ ents c hh => froze_map hh)
  · rw [froze_heap, if_neg]
    rintro rfl
    exact hn p.off ⟨g, p, hg, hp, ok.ro ▸ hro, rfl, Nat.le_refl _, by omega⟩
theorem markStringish_run {w : World} {a : Addr} {c : Array Value} {e : TypeId} {fr : Nat × Nat} (h : w.heap[a.block]? = some (.cells c e fr)) : (markStringish a).run P w = .ok () (froze w a.block) := by
  have hs : w.shape? a.block = some (e, c.size) := by simp [World.shape?, h]
  have he : w.freeze ⟨a.block, c.size, none⟩ 1 = froze w a.block := by
    unfold World.freeze froze
    simp only [Nat.one_ne_zero, if_false]
    congr 1
    apply Array.ext_getElem?
    intro k
    rw [Array.getElem?_modify, Array.getElem?_modify]
    split
    · subst_vars; rw [h]; rfl
    · rfl
  simp [markStringish, shape, freeze, Sem.run, hs, he]
theorem bytesB_push : ∀ (xs : List Int) (acc : ByteArray), xs.foldl (fun r n => r.push (UInt8.ofNat n.toNat)) acc = ⟨acc.data ++ (xs.map fun n => UInt8.ofNat n.toNat).toArray⟩
  | [], acc => by simp
  | x :: xs, acc => by rw [List.foldl_cons, bytesB_push xs]; simp [ByteArray.push]
theorem gconvX_sim {s d : TypeId} {x : Value} {h : GH} {K : Value → GH → Option β} (hh : gconvX P s d x h K = some r) :
    ∃ v h', K v h' = some r ∧ h.next ≤ h'.next ∧ ∀ ι w rx, Good ι h h'.next w → VR ι x rx → ∃ rv ι' w', (convert s d rx).run P w = .ok rv w' ∧ Stp h ι w h' ι' w' ∧ VR ι' v rv := by
  unfold gconvX at hh
  split at hh
  · rename_i e0 e a n c hs hd
    split at hh
    · rename_i he
      obtain ⟨hc1, hK⟩ := cond_none hh
      unfold gfrz at hK
      split at hK
      rotate_left
      · cases hK
      rename_i b hl
      obtain ⟨hc, hK⟩ := cond_none hK
      simp only [Bool.and_eq_true, Bool.not_eq_true'] at hc
      obtain ⟨⟨hc2, hc3⟩, hc4⟩ := hc
      have hc4 := of_blt' hc4
      obtain rfl := Nat.eq_of_beq_eq_true hc1
      obtain ⟨hg, hb⟩ := look_get hl
      refine ⟨_, h, hK, Nat.le_refl _, fun ι w rx gd hx => ?_⟩
      have key : ∀ p (r : Addr) n' c', ι a.block = .live p → r.block = p.blk → ∃ w', (convert s s (.slice (some r) n' c')).run P w = .ok (.slice (some r) n' c') w' ∧ Stp h ι w h ι w' := fun p r n' c' hp hr => by
        have ok := row_at gd.hr hg hp hb
        obtain ⟨C, E, lo, hi, h1, _⟩ := (ok.room (ok.ro ▸ hc2)).1
        refine ⟨froze w p.blk, ?_, froze_stp gd.hr hg hp hb hc2 (of_blt' hc3)⟩
        have := markStringish_run (P := P) (w := w) (a := r) (by rw [hr]; exact h1)
        rw [hr] at this
        have hee : e0 = e := by rw [hs] at hd; cases hd; rfl
        subst hee
        simp [convert, run_underlying hs, run_underlying he, this]
      cases hx with
      | same _ hx => cases hx
      | sl g o _ _ c' p hp hcc hn =>
        obtain ⟨w', h1, h2⟩ := key p ⟨p.blk, p.off + o, none⟩ n c' hp rfl
        exact ⟨_, ι, w', h1, h2, .sl g o n c c' p hp hcc hn⟩
      | slE _ q c' ho => omega
      | slD _ _ _ c' q hdd hcc => rw [gd.hr.dead _ hg hdd] at hb; cases hb
    · cases hh
  · rename_i e t hs hd
    split at hh
    · rename_i he hz
      obtain ⟨hm, hh⟩ := cond_none hh
      obtain ⟨hall, hh⟩ := gnew_some hh
      have hl : (bcells t).length = t.size := by simp [bcells]
      refine ⟨_, _, hh, Nat.le_succ _, fun ι w rx gd hx => ?_⟩
      rw [hx.str]
      have hrun := run_bytes_of_string (P := P) w s d e t hs hd he
      have hcap : t.size ≤ grownCap w t.size 0 e := grownCap_ge w t.size 0 e
      obtain ⟨row, hrow⟩ : ∃ row, row = bytesRow t (grownCap w t.size 0 e) := ⟨_, rfl⟩
      have hrs : row.size = grownCap w t.size 0 e := by
        have h1 : row.size = t.data.size + (grownCap w t.size 0 e - t.size) := by rw [hrow]; simp [bytesRow]
        have h2 : t.data.size = t.size := rfl
        omega
      have hcells : ∀ i v, nth (bcells t) i = some v → row[i]? = some v ∧ plain1 v = true := fun i v hv => by
        rw [nth_eq] at hv
        have hi : i < (bcells t).length := (List.getElem?_eq_some_iff.1 hv).1
        have h3 : t.data.size = t.size := rfl
        have hi2 : i < t.data.size := by omega
        simp only [bcells, List.getElem?_map, Option.map_eq_some_iff] at hv
        obtain ⟨x, hx, rfl⟩ := hv
        refine ⟨?_, rfl⟩
        rw [hrow, bytesRow, Array.getElem?_append_left (by simpa using hi2), Array.getElem?_map]
        rw [Array.getElem?_toList] at hx
        rw [hx]; rfl
      rw [← hrow] at hrun
      clear hrow
      have hst := newobj_stp gd 1 (.cells row e (row.size, row.size + 1)) (.row ⟨bcells t, 1, false⟩) ⟨w.heap.size, 0, (bcells t).length, grownCap w t.size 0 e, 1, false⟩ rfl (fun ι' hle => ⟨rfl, rfl, rfl, by show 0 + (bcells t).length ≤ grownCap w t.size 0 e; rw [hl, Nat.zero_add]; exact hcap, fun i v hv => ?_, fun _ => ⟨⟨row, e, row.size, row.size + 1, ?_, .inr (Nat.le_refl _)⟩, fun i _ h2 => ?_⟩⟩)
      · refine ⟨_, _, _, hrun, hst, ?_⟩
        exact .sl h.next 0 t.size t.size _ _ (upd_same _ _ _) (.inr ⟨Nat.one_pos, hcap, fun _ => by show 0 + grownCap w t.size 0 e * 1 ≤ grownCap w t.size 0 e; omega⟩) (Nat.le_refl _)
      · obtain ⟨h1, h2⟩ := hcells i v hv
        refine ⟨v, ?_, .same _ h2⟩
        have h4 : ((w.drewN 1).alloc (.cells row e (row.size, row.size + 1))).heap[w.heap.size]? = some (.cells row e (row.size, row.size + 1)) := by
          show (w.heap.push _)[w.heap.size]? = _
          simp
        simp only [World.cell?, h4, Option.isSome_none, Bool.false_eq_true, if_false, Nat.zero_add]
        exact h1
      · show (w.heap.push _)[w.heap.size]? = _
        simp
      · have h4 : ((w.drewN 1).alloc (.cells row e (row.size, row.size + 1))).heap[w.heap.size]? = some (.cells row e (row.size, row.size + 1)) := by
          show (w.heap.push _)[w.heap.size]? = _
          simp
        simp only [World.cell?, h4, Option.isSome_none, Bool.false_eq_true, if_false]
        have h2 : i < grownCap w t.size 0 e := h2
        rw [Array.getElem?_eq_getElem (by omega)]; rfl
    · cases hh
  · rename_i e a n c hs hd
    split at hh
    · rename_i he
      obtain ⟨vs, hh, hvs⟩ := slCells_some hh
      obtain ⟨xs, hx, hK⟩ := exBs_some hh
      subst hx
      refine ⟨_, h, hK, Nat.le_refl _, fun ι w rx gd hx => ?_⟩
      obtain ⟨q, c', hq, _⟩ := hx.slice
      subst hq
      obtain ⟨rs, a1, a2, a3, a4⟩ := slRun gd.hr Nat.one_pos (s := ⟨a, n, c⟩) hvs hx
      have hrs := u8_rel a1
      subst hrs
      simp only [Nat.mul_one, List.length_map] at a2
      refine ⟨_, ι, w, ?_, .refl gd.hr, .same _ rfl⟩
      cases q with
      | none =>
        have h0 := a4 rfl
        have : xs = [] := List.length_eq_zero_iff.1 (a2.trans h0)
        subst this
        simp [convert, run_underlying hs, run_underlying hd, run_underlying he, Conv.bytesToString, bytesB]
        rfl
      | some qa =>
        have hl : (loadCells qa n).run P w = .ok (xs.map (Value.int .u8)).toArray w := by
          have := run_loadCells_list (P := P) w qa (xs.map (Value.int .u8)) (fun j u hj => a3 qa rfl j u hj)
          rw [List.length_map, a2] at this
          exact this
        have hrun := run_bytesToString (P := P) w qa n c' xs hl
        simp only [convert, Sem.run_bind, run_underlying hs, run_underlying hd, run_underlying he, Result.andThen_ok]
        rw [hrun, bytesB_push]
        congr 2
        apply ByteArray.ext
        show (#[] : Array UInt8) ++ _ = _
        simp [bytesB]
    · cases hh
  · obtain ⟨v, hv, hs⟩ := gconv_sim hh
    refine ⟨v, h, hv, Nat.le_refl _, fun ι w rx gd hx => ?_⟩
    obtain ⟨rv, h1, h2⟩ := hs ι rx hx
    exact ⟨rv, ι, w, h2 w, .refl gd.hr, h1⟩
end Go.Proofs.Ytibngikhlgmhaaa.Gx
/- The plain machine and the model: operations that make a block, that read one, that act. No condition. -/
namespace Go.Proofs.Ytibngikhlgmhaaa.Gx
open Go Go.RowKit
set_option linter.unusedVariables false
set_option linter.unusedSimpArgs false
variable {P : Program} {β : Type} {r : β}

theorem reps_length {α : Type} (l : List α) : ∀ n, (reps n l).length = n * l.length
  | 0 => by simp [reps]
  | n + 1 => by simp [reps, reps_length l n, Nat.add_mul, Nat.add_comm]
theorem reps_get {α : Type} (l : List α) : ∀ n i, i < n * l.length → (reps n l)[i]? = l[i % l.length]?
  | 0, i, h => by simp at h
  | n + 1, i, h => by
    rw [reps]
    by_cases hi : i < l.length
    · rw [List.getElem?_append_left hi, Nat.mod_eq_of_lt hi]
    · rw [List.getElem?_append_right (by omega), reps_get l n _ (by rw [Nat.add_mul] at h; omega)]
      congr 1
      exact (Nat.mod_eq_sub_mod (by omega)).symm
theorem made_reps (z : Array Value) (hz : 0 < z.size) (n : Nat) : ((Array.range (n * z.size)).map (z[· % z.size]!)).toList = reps n z.toList := by
  apply List.ext_getElem?
  intro i
  by_cases hi : i < n * z.size
  · rw [reps_get _ _ _ (by simpa using hi)]
    simp [hi]
    have : i % z.size < z.size := Nat.mod_lt _ hz
    simp [this]
  · rw [List.getElem?_eq_none (by simp; omega), List.getElem?_eq_none (by rw [reps_length]; simpa using hi)]
theorem reps_plains {l : List Value} (h : plains l = true) : ∀ n, plains (reps n l) = true := by
  have ap : ∀ (a b : List Value), plains a = true → plains b = true → plains (a ++ b) = true := fun a b => by
    induction a with
    | nil => exact fun _ h => h
    | cons x a ih => intro h1 h2; simp only [plains, Bool.and_eq_true, List.cons_append] at *; exact ⟨h1.1, ih h1.2 h2⟩
  intro n
  induction n with
  | zero => rfl
  | succ n ih => exact ap _ _ h ih
theorem plainC_cells {v : Value} (h : plainC v = true) : plains (vcells v) = true := by
  cases v <;> first | exact h | (simp only [plainC, vcells, plains, Bool.and_true] at *; exact h)
theorem rel_get {ι : Inj} {vs : List Value} {rc : Array Value} (h : All2 (VR ι) vs rc.toList) : ∀ i v, nth vs i = some v → ∃ r, rc[i]? = some r ∧ VR ι v r := fun i v hv => by
  obtain ⟨c, hc, h'⟩ := h.get hv
  exact ⟨c, by rw [nth_eq] at hc; simpa using hc, h'⟩
/-- what an operation that makes a block does -/
def Makes (P : Program) (o : Oper) (e : Env) (h : GH) (v : Value) (blk : Blk) : Prop :=
  blk.ro = false ∧ ∃ mk : Addr → Value, v = mk ⟨h.next, 0, none⟩ ∧ (∀ (ι : Inj) p, ι h.next = .live p → p.off = 0 → VR ι (mk ⟨h.next, 0, none⟩) (mk ⟨p.blk, 0, none⟩)) ∧
    ∀ ι a, ER ι e a → ∃ rc el, blk.cells.length ≤ rc.size ∧ (∀ i v, nth blk.cells i = some v → ∃ r, rc[i]? = some r ∧ VR ι v r) ∧
      ∀ w, (execOp a.eval o).run P w = .ok (.value (mk ⟨w.heap.size, 0, none⟩)) (w.alloc (.cells rc el))
theorem mkP {ι : Inj} {g : Nat} {p : Pl} (h : ι g = .live p) (h0 : p.off = 0) : VR ι (.pointer (some ⟨g, 0, none⟩)) (.pointer (some ⟨p.blk, 0, none⟩)) := by
  have := VR.ptr (ι := ι) g 0 p h
  rw [h0] at this; exact this
theorem mkS {ι : Inj} {g n c : Nat} {p : Pl} (h : ι g = .live p) (h0 : p.off = 0) (hn : n ≤ c) : VR ι (.slice (some ⟨g, 0, none⟩) n c) (.slice (some ⟨p.blk, 0, none⟩) n c) := by
  have := VR.sl (ι := ι) g 0 n c c p h (.inl rfl) hn
  rw [h0] at this; exact this
theorem opKind_convert (s d : TypeId) (x : Operand) : opKind P (.convert s d x) = .pure ∨ opKind P (.convert s d x) = .eff := by
  unfold opKind; simp only []; split <;> simp
theorem gop_alloc {C : Orc β} {o : Oper} {e : Env} {h : GH} {K : Value → GH → Option β} (hk : (match opKind P o.op with | .alloc => true | _ => false) = true) (hg : gop P C o e h K = some r) :
    ∃ v blk, K v (h.push (.row blk)) = some r ∧ Makes P o e h v blk := by
  unfold gop at hg
  cases ho : o.op
  all_goals
    rw [ho] at hg hk
    simp only [] at hg
  all_goals try (simp [opKind] at hk; done)
  case convert s d x => rcases opKind_convert (P := P) s d x with h1 | h1 <;> (rw [h1] at hk; cases hk)
  case alloc t =>
    split at hg
    · rename_i z hz
      have hp := (cond_none hg).1
      obtain ⟨hc, hg⟩ := gnew_some (cond_none hg).2
      refine ⟨_, _, hg, rfl, fun a => .pointer (some a), rfl, fun ι p h1 h2 => mkP h1 h2, fun ι a er => ⟨z.cells, t, ?_, rel_get (by rw [cells_eq]; exact plains_all (plainC_cells hp) ι), fun w => ?_⟩⟩
      · rw [← cells_eq]; simp
      · simp [execOp, ho, Instr.alloc, zero_run hz, newVar, newRow]
    · cases hg
  case box t x =>
    obtain ⟨hc, hg⟩ := gnew_some hg
    refine ⟨_, _, hg, rfl, fun a => .pointer (some a), rfl, fun ι p h1 h2 => mkP h1 h2, fun ι a er => ⟨(a.eval x).cells, t, ?_, rel_get (vcells_rel (er.eval x) hc), fun w => ?_⟩⟩
    · have := (vcells_rel (er.eval x) hc).length; simp at this; exact Nat.le_of_eq this
    · simp [execOp, ho, Instr.box, newVar, newRow]
  case buildSlice t n ps =>
    split at hg
    · rename_i el hel
      split at hg
      · rename_i z v hz hv
        have hb := (cond_none hg).1
        replace hg := (cond_none hg).2
        simp only [Bool.and_eq_true] at hb
        obtain ⟨⟨⟨hp, hl⟩, hz0⟩, hn⟩ := hb
        have hl := Nat.eq_of_beq_eq_true hl
        have hz0 := Nat.le_of_ble_eq_true hz0
        have hn := Nat.le_of_ble_eq_true hn
        obtain ⟨cs, hg, hf⟩ := gfill_sim hg
        obtain ⟨hc, hg⟩ := gnew_some hg
        obtain ⟨i, hi, hiz⟩ := zero_of hv
        obtain ⟨i', hi', hsz⟩ := info_of hz
        rw [hi] at hi'; cases hi'
        have hu : P.underlying t = some (.slice el) := by
          unfold elemT at hel; split at hel
          · rename_i hu; cases hel; exact hu
          · cases hel
        have hvs : v.cells.size = z := by have := cells_eq v; rw [← hl, ← this]; simp
        refine ⟨_, _, hg, rfl, fun a => .slice (some a) n n, rfl, fun ι p h1 h2 => mkS h1 h2 (Nat.le_refl _), fun ι a er => ?_⟩
        obtain ⟨rcs, h1, h2⟩ := hf ι (ps.toList.map fun p => (p.1, a.eval p.2)) ((Array.range (n * z)).map (v.cells[· % v.cells.size]!)) (er.parts ps.toList)
          (by rw [← hvs, made_reps _ (by omega), cells_eq]; exact plains_all (reps_plains (plainC_cells hp) n) ι)
        refine ⟨rcs, el, by have := h2.length; simp at this; exact Nat.le_of_eq this, rel_get h2, fun w => ?_⟩
        have h1' : Instr.fill (fun i => some (i * z, z)) ((Array.range (n * z)).map (v.cells[· % v.cells.size]!)) (ps.map fun (i, x) => (i, a.eval x)).toList = some rcs := by simpa using h1
        by_cases h0 : n * z = 0
        · simp only [execOp, ho, Sem.run_bind]
          simp [Instr.buildSlice, run_underlying hu, sizeOf, typeInfo, zeroValue, hi, hsz, h0, newRow]
          have e0 : Array.map (fun x => v.cells[x % v.cells.size]!) (Array.range 0) = #[] := by simp
          rw [h0, e0] at h1
          have e1 : (Array.map (fun _ => (default : Value)) (Array.range 0)) = #[] := by simp [Array.range]
          rw [e1, h1]
          simp
        · simp only [execOp, ho, Sem.run_bind, run_buildSlice w t el n _ rcs i v hu hi hiz (by rw [hsz]; omega) (by rw [hsz]; exact h0) (by rw [hsz]; exact h1'), Result.andThen_ok, Sem.run_pure]
      · cases hg
    · cases hg
  case makeSlice t l c =>
    split at hg
    · rename_i el hel
      split at hg
      · rename_i kl lv kc cv z v b hl hc hz hv hb
        have hq := (cond_none hg).1
        replace hg := (cond_none hg).2
        simp only [Bool.and_eq_true] at hq
        obtain ⟨⟨hp, hlz⟩, hz0⟩ := hq
        have hlz := Nat.eq_of_beq_eq_true hlz
        have hz0 := Nat.le_of_ble_eq_true hz0
        unfold gmake at hg
        have h0 : 0 ≤ lv := by simpa using (cond_none hg).1
        replace hg := (cond_none hg).2
        have hlc : lv ≤ cv := by simpa using (cond_none hg).1
        replace hg := (cond_none hg).2
        have hm : ((b : Int) + 1) * cv ≤ most := by simpa using (cond_none hg).1
        replace hg := (cond_none hg).2
        obtain ⟨hcs, hg⟩ := gnew_some hg
        obtain ⟨i, hi, hiz⟩ := zero_of hv
        obtain ⟨i', hi', hsz⟩ := info_of hz
        rw [hi] at hi'; cases hi'
        obtain ⟨i', hi', hbz⟩ := bytes_of hb
        rw [hi] at hi'; cases hi'
        have hu : P.underlying t = some (.slice el) := by
          unfold elemT at hel; split at hel
          · rename_i hu; cases hel; exact hu
          · cases hel
        have hvs : v.cells.size = z := by have := cells_eq v; rw [← hlz, ← this]; simp
        have e1 : ((b : Int) + 1) * cv = b * cv + cv := by rw [Int.add_mul]; simp
        have hbc : 0 ≤ (b : Int) * cv := Int.mul_nonneg (by omega) (by omega)
        simp only [most] at hm
        refine ⟨_, _, hg, rfl, fun a => .slice (some a) lv.toNat cv.toNat, rfl, fun ι p h1 h2 => mkS h1 h2 (by omega), fun ι a er => ?_⟩
        refine ⟨madeCells v.cells (cv.toNat * z), el, ?_, rel_get ?_, fun w => ?_⟩
        · rw [size_madeCells]; show (reps cv.toNat (vcells v)).length ≤ _; rw [reps_length, hlz]; exact Nat.le_refl _
        · show All2 (VR ι) (reps cv.toNat (vcells v)) _
          unfold madeCells
          rw [← hvs, made_reps _ (by omega), cells_eq]
          exact plains_all (reps_plains (plainC_cells hp) _) ι
        · have hlr := (er.eval l)
          rw [hl] at hlr
          have hcr := (er.eval c)
          rw [hc] at hcr
          have hr := run_make w t el i v hu hi hiz kl kc lv cv h0 hlc (by rw [hbz]; omega) (by omega)
          rw [hsz] at hr
          simp only [execOp, ho, Sem.run_bind, hlr.int, hcr.int, hr, Result.andThen_ok, Sem.run_pure]
      · cases hg
    · cases hg
  case call c =>
    obtain ⟨cal, args, ats⟩ := c
    cases cal with
    | value f => simp [opKind] at hk
    | invoke f m => simp [opKind] at hk
    | builtin b => cases b <;> (simp [opKind] at hk)

/-- a load -/
theorem gop_read {C : Orc β} {o : Oper} {e : Env} {h : GH} {K : Value → GH → Option β} (hk : (match opKind P o.op with | .read => true | _ => false) = true) (hg : gop P C o e h K = some r) :
    ∃ t x g off v b, o.op = .load t x ∧ e.eval x = .pointer (some ⟨g, off, none⟩) ∧ K v h = some r ∧ 0 < loadN P t ∧ h.look g = some (.row b) ∧ off + loadN P t ≤ b.cells.length ∧
      (∀ (b' : Blk), off + loadN P t ≤ b'.cells.length → (∀ i, i < loadN P t → nth b'.cells (off + i) = nth b.cells (off + i)) → ∀ ι p w, RowOk ι p b' w →
        ∃ rv, VR ι v rv ∧ (Instr.loadAt t (.pointer (some ⟨p.blk, p.off + off, none⟩))).run P w = .ok rv w) := by
  unfold gop at hg
  cases ho : o.op
  all_goals
    rw [ho] at hg hk
    simp only [] at hg
  all_goals try (simp [opKind] at hk; done)
  case convert s d x => rcases opKind_convert (P := P) s d x with h1 | h1 <;> (rw [h1] at hk; cases hk)
  case load t x =>
    split at hg
    · rename_i p hp
      obtain ⟨g, off, rfl, h2⟩ := exA_some hg
      obtain ⟨v, b, h3, h3', h4, h5, h6⟩ := gload_sim h2
      exact ⟨t, x, g, off, v, b, rfl, hp, h3, h3', h4, h5, h6⟩
    · cases hg
  case call c =>
    obtain ⟨cal, args, ats⟩ := c
    cases cal with
    | value f => simp [opKind] at hk
    | invoke f m => simp [opKind] at hk
    | builtin b => cases b <;> (simp [opKind] at hk)

/-! ### calls -/
def CallSim (P : Program) (f : FuncId) (args : List Value) (h : GH) (v : Value) (h' : GH) : Prop :=
  (∃ fn, P.funcs[f]? = some fn ∧ (fn.name == "runtime.NumGoroutine") = false ∧ fn.body.isNone = false) ∧ h.next ≤ h'.next ∧
    ∀ ι w (rargs : List Value), Good ι h h'.next w → All2 (VR ι) args rargs → Calls P f rargs.toArray w (fun e w' => ∃ rv ι', e = .returned rv ∧ Stp h ι w h' ι' w' ∧ VR ι' v rv)
/-- a function without a body: the model's own entry -/
def ExtSim (P : Program) (f : FuncId) (args : List Value) (h : GH) (v : Value) (h' : GH) : Prop :=
  h.next ≤ h'.next ∧ ∀ ι w (rargs : List Value), Good ι h h'.next w → All2 (VR ι) args rargs → ∃ rv ι' w', (callFunc f rargs.toArray).run P w = .ok (.value rv) w' ∧ Stp h ι w h' ι' w' ∧ VR ι' v rv
def AnySim (P : Program) (f : FuncId) (args : List Value) (h : GH) (v : Value) (h' : GH) : Prop := CallSim P f args h v h' ∨ ExtSim P f args h v h'
def SimOrc (P : Program) (C : Orc β) : Prop := ∀ f args h (K : Value → GH → Option β) r, C f args h K = some r → ∃ v h', K v h' = some r ∧ AnySim P f args h v h'
theorem any_call {f : FuncId} {args : List Value} {h : GH} {K : Value → GH → Option β} (x : ∃ v h', K v h' = some r ∧ CallSim P f args h v h') : ∃ v h', K v h' = some r ∧ AnySim P f args h v h' := by
  obtain ⟨v, h', hk, hs⟩ := x; exact ⟨v, h', hk, .inl hs⟩
theorem any_ext {f : FuncId} {args : List Value} {h : GH} {K : Value → GH → Option β} (x : ∃ v h', K v h' = some r ∧ ExtSim P f args h v h') : ∃ v h', K v h' = some r ∧ AnySim P f args h v h' := by
  obtain ⟨v, h', hk, hs⟩ := x; exact ⟨v, h', hk, .inr hs⟩
/-- what an operation does -/
def OpSim (P : Program) (o : Oper) (e : Env) (h : GH) (v : Value) (h' : GH) : Prop :=
  h.next ≤ h'.next ∧ ∀ ι w a, Good ι h h'.next w → ER ι e a → ∀ (next : Act → World → Prop) Q, (∀ rv ι' w', Stp h ι w h' ι' w' → VR ι' v rv → next (a.put o.dst rv) w') → o.wp P a w next Q
theorem gop_eff {C : Orc β} (hC : SimOrc P C) {o : Oper} {e : Env} {h : GH} {K : Value → GH → Option β} (hk : isEff P o = true) (hg : gop P C o e h K = some r) :
    ∃ v h', K v h' = some r ∧ OpSim P o e h v h' := by
  unfold isEff at hk
  unfold gop at hg
  cases ho : o.op
  all_goals
    rw [ho] at hg hk
    simp only [] at hg
  all_goals try (simp [opKind] at hk; done)
  case store t x y =>
    obtain ⟨h', hK, hn, hs⟩ := gstore_sim hg
    refine ⟨_, h', hK, by omega, fun ι w a gd er next Q hnext => ?_⟩
    obtain ⟨w', h1, h2⟩ := hs ι w _ _ gd (er.eval x) (er.eval y)
    have : (execOp a.eval o).run P w = .ok .skip w' := by simp only [execOp, ho, Sem.run_bind, h1, Result.andThen_ok, Sem.run_pure]
    unfold Oper.wp
    rw [this]
    exact hnext _ ι w' h2 (.un _)
  case convert s d x =>
    obtain ⟨v, h', hK, hn, hs⟩ := gconvX_sim hg
    refine ⟨v, h', hK, hn, fun ι w a gd er next Q hnext => ?_⟩
    obtain ⟨rv, ι', w', h1, h2, h3⟩ := hs ι w _ gd (er.eval x)
    have hrun : (execOp a.eval o).run P w = .ok (.value rv) w' := by simp only [execOp, ho, Sem.run_bind, h1, Result.andThen_ok, Sem.run_pure]
    unfold Oper.wp
    rw [hrun]
    exact hnext rv ι' w' h2 h3
  case makeMap t rs =>
    have hm : (∃ kt et, P.underlying t = some (.map kt et)) ∧ (rs.map e.eval = none ∨ ∃ q n, rs.map e.eval = some (.int q n)) ∧ K (.map (some h.next)) (h.push (.map [])) = some r := by
      split at hg
      · rename_i hu hr; exact ⟨⟨_, _, hu⟩, .inl hr, hg⟩
      · rename_i hu hr; exact ⟨⟨_, _, hu⟩, .inr ⟨_, _, hr⟩, hg⟩
      · cases hg
    obtain ⟨⟨kt, et, hu⟩, hr, hg⟩ := hm
    refine ⟨_, _, hg, Nat.le_succ _, fun ι w a gd er next Q hnext => ?_⟩
    have hst := newmap_stp gd
    have hrun : (execOp a.eval o).run P w = .ok (.value (.map (some w.heap.size))) (w.alloc (.map #[] 0)) := by
      have ho' := er.opt rs
      rcases hr with hr | ⟨q, n, hr⟩
      · rw [hr] at ho'
        have := ho'.none'
        simp [execOp, ho, this, Instr.makeMap]
      · rw [hr] at ho'
        have := ho'.int
        simp [execOp, ho, this, Instr.makeMap, run_underlying hu, asInt, asIntOf]
    unfold Oper.wp
    rw [hrun]
    exact hnext _ _ _ hst (.map h.next _ (upd_same _ _ _))
  case lookup t x k ok =>
    obtain ⟨v, hK, hs⟩ := glookup_sim hg
    refine ⟨v, h, hK, Nat.le_refl _, fun ι w a gd er next Q hnext => ?_⟩
    obtain ⟨rv, h1, h2⟩ := hs ι w _ _ gd.hr (er.eval x) (er.eval k)
    have hrun : (execOp a.eval o).run P w = .ok (.value rv) w := by simp only [execOp, ho, Sem.run_bind, h2, Result.andThen_ok, Sem.run_pure]
    unfold Oper.wp
    rw [hrun]
    exact hnext rv ι w (.refl gd.hr) h1
  case mapUpdate t m k x =>
    obtain ⟨h', hK, hn, hs⟩ := gmapPut_sim hg
    refine ⟨_, h', hK, by omega, fun ι w a gd er next Q hnext => ?_⟩
    obtain ⟨w', h1, h2⟩ := hs ι w _ _ _ gd (er.eval m) (er.eval k) (er.eval x)
    have hrun : (execOp a.eval o).run P w = .ok .skip w' := by simp only [execOp, ho, Sem.run_bind, h1, Result.andThen_ok, Sem.run_pure]
    unfold Oper.wp
    rw [hrun]
    exact hnext _ ι w' h2 (.un _)
  case insert t m k x =>
    obtain ⟨h', hK, hn, hs⟩ := gmapPut_sim hg
    refine ⟨_, h', hK, by omega, fun ι w a gd er next Q hnext => ?_⟩
    obtain ⟨w', h1, h2⟩ := hs ι w _ _ _ gd (er.eval m) (er.eval k) (er.eval x)
    have hrun : (execOp a.eval o).run P w = .ok .skip w' := by simp only [execOp, ho, Sem.run_bind, h1, Result.andThen_ok, Sem.run_pure]
    unfold Oper.wp
    rw [hrun]
    exact hnext _ ι w' h2 (.un _)
  case call c =>
    obtain ⟨cal, args, ats⟩ := c
    cases cal with
    | invoke f m => cases hg
    | value f =>
      simp only [] at hg
      unfold gcall at hg
      split at hg
      · rename_i fid first captured hf
        obtain ⟨v, h', hK, hany⟩ := hC _ _ _ _ _ hg
        rcases hany with ⟨⟨fn, hfn, hnm, hbd⟩, hn, hs⟩ | ⟨hn, hs⟩
        rotate_left
        · refine ⟨v, h', hK, hn, fun ι w a gd er next Q hnext => ?_⟩
          have hfv := er.eval f
          rw [hf] at hfv
          obtain ⟨fs', cs', he, h1, h2⟩ := hfv.funcL
          have hargs := er.evs args.toList
          obtain ⟨rv, ι', w', hrun0, h3, h4⟩ := hs ι w (fs'.toList ++ args.toList.map a.eval ++ cs'.toList) gd ((h1.append hargs).append h2)
          have e1 : fs' ++ args.map a.eval ++ cs' = (fs'.toList ++ args.toList.map a.eval ++ cs'.toList).toArray := by apply Array.ext'; simp
          have hrun : (execOp a.eval o).run P w = .ok (.value rv) w' := by
            simp only [execOp, ho, Sem.run_bind, resolve, he, Deferred.ofValue, Sem.run_pure, Result.andThen_ok, invoke]
            rw [e1]; exact hrun0
          unfold Oper.wp
          rw [hrun]
          exact hnext rv ι' w' h3 h4
        refine ⟨v, h', hK, hn, fun ι w a gd er next Q hnext => ?_⟩
        have hfv := er.eval f
        rw [hf] at hfv
        obtain ⟨fs', cs', he, h1, h2⟩ := hfv.funcL
        have hargs := er.evs args.toList
        have hcall := hs ι w (fs'.toList ++ args.toList.map a.eval ++ cs'.toList) gd ((h1.append hargs).append h2)
        have e1 : fs' ++ args.map a.eval ++ cs' = (fs'.toList ++ args.toList.map a.eval ++ cs'.toList).toArray := by apply Array.ext'; simp
        have hrun : (execOp a.eval o).run P w = .ok (.enter fid (fs' ++ args.map a.eval ++ cs')) w := by
          simp only [execOp, ho, Sem.run_bind, resolve, he, Deferred.ofValue, Sem.run_pure, Result.andThen_ok, invoke, callFunc, run_program, hfn, hnm, hbd, Bool.false_eq_true, if_false]
        unfold Oper.wp
        rw [hrun, Oper.upon_enter, e1]
        refine hcall.mono ?_
        rintro ev w' ⟨rv, ι', rfl, h3, h4⟩
        exact hnext rv ι' w' h3 h4
      · cases hg
    | builtin b =>
      simp only [] at hg
      cases b <;> simp only [] at hg <;> try (simp [opKind] at hk; done)
      all_goals try (cases hg; done)
      case append =>
        split at hg
        · rename_i a0 n0 c0 a1 n1 c1 t u hx ht
          split at hg
          · rename_i el hel
            split at hg
            · rename_i z b v hz hb hv
              have hq := (cond_none hg).1
              replace hg := (cond_none hg).2
              simp only [Bool.and_eq_true] at hq
              obtain ⟨⟨hq1, hq2⟩, hq3⟩ := hq
              have hq1 := Nat.eq_of_beq_eq_true hq1
              subst hq1
              have hu : P.underlying t = some (.slice el) := by
                unfold elemT at hel; split at hel
                · rename_i hu; cases hel; exact hu
                · cases hel
              obtain ⟨s', h', hK, hn, hs⟩ := gappS_sim (ty := o.type) hu hz hb hv (Nat.eq_of_beq_eq_true hq2) (Nat.le_of_ble_eq_true hq3) hg
              refine ⟨_, h', hK, hn, fun ι w a gd er next Q hnext => ?_⟩
              have hev := er.evs args.toList
              rw [hx] at hev
              obtain ⟨r0, r1, hr, h1, h2⟩ : ∃ r0 r1, args.toList.map a.eval = [r0, r1] ∧ VR ι (.slice a0 n0 c0) r0 ∧ VR ι (.slice a1 n1 c1) r1 := by
                revert hev
                generalize args.toList.map a.eval = l
                intro hev
                cases hev with
                | cons h1 h2 => cases h2 with
                  | cons h2 h3 => cases h3; exact ⟨_, _, rfl, h1, h2⟩
              obtain ⟨rv, ι', w', h3, h4, h5⟩ := hs ι w r0 r1 gd h1 h2
              have e1 : args.map a.eval = #[r0, r1] := arr_two (by rw [Array.toList_map]; exact hr)
              have e2 : ats = #[t, t] := by apply Array.ext'; simpa using ht
              have hrun : (execOp a.eval o).run P w = .ok (.value rv) w' := by
                simp only [execOp, ho, Sem.run_bind, resolve, Sem.run_pure, Result.andThen_ok, invoke, builtin, e1, e2, h3]
              unfold Oper.wp
              rw [hrun]
              exact hnext rv ι' w' h4 h5
            · cases hg
          · cases hg
        · cases hg
      case copy =>
        split at hg
        · rename_i a0 n0 c0 a1 n1 c1 t u hx ht
          split at hg
          · rename_i el hel
            split at hg
            · rename_i z hz
              have hq3 := (cond_none hg).1
              replace hg := (cond_none hg).2
              have hu : P.underlying t = some (.slice el) := by
                unfold elemT at hel; split at hel
                · rename_i hu; cases hel; exact hu
                · cases hel
              have e2 : ats[0]? = some t := by
                have : ats.toList[0]? = some t := by rw [ht]; rfl
                simpa using this
              obtain ⟨m, h', hK, hn, hs⟩ := gcopy_sim (ty := o.type) e2 hu hz (Nat.le_of_ble_eq_true hq3) hg
              refine ⟨_, h', hK, Nat.le_of_eq hn, fun ι w a gd er next Q hnext => ?_⟩
              have hev := er.evs args.toList
              rw [hx] at hev
              obtain ⟨r0, r1, hr, h1, h2⟩ : ∃ r0 r1, args.toList.map a.eval = [r0, r1] ∧ VR ι (.slice a0 n0 c0) r0 ∧ VR ι (.slice a1 n1 c1) r1 := by
                revert hev
                generalize args.toList.map a.eval = l
                intro hev
                cases hev with
                | cons h1 h2 => cases h2 with
                  | cons h2 h3 => cases h3; exact ⟨_, _, rfl, h1, h2⟩
              obtain ⟨w', h3, h4⟩ := hs ι w r0 r1 gd h1 h2
              have e1 : args.map a.eval = #[r0, r1] := arr_two (by rw [Array.toList_map]; exact hr)
              have hrun : (execOp a.eval o).run P w = .ok (.value (.int .i64 m)) w' := by
                simp only [execOp, ho, Sem.run_bind, resolve, Sem.run_pure, Result.andThen_ok, invoke, builtin, e1, h3]
              unfold Oper.wp
              rw [hrun]
              exact hnext _ ι w' h4 (.same _ rfl)
            · cases hg
          · cases hg
        · cases hg
end Go.Proofs.Ytibngikhlgmhaaa.Gx
/- The plain machine and the model: each operation in one word; regions in the text's order. No condition. -/
namespace Go.Proofs.Ytibngikhlgmhaaa.Gx
open Go Go.RowKit
set_option linter.unusedVariables false
set_option linter.unusedSimpArgs false
variable {P : Program} {β : Type} {r : β}

theorem gop_sim {C : Orc β} (hC : SimOrc P C) {o : Oper} {e : Env} {h : GH} {K : Value → GH → Option β} (hg : gop P C o e h K = some r) :
    ∃ v h', K v h' = some r ∧ OpSim P o e h v h' := by
  cases hk : opKind P o.op with
  | pure =>
    obtain ⟨v, h1, h2⟩ := gop_pure (by rw [hk]) hg
    refine ⟨v, h, h1, Nat.le_refl _, fun ι w a gd er next Q hn => ?_⟩
    obtain ⟨rv, h3, h4⟩ := h2 ι a er
    unfold Oper.wp
    rw [h4 w]
    exact hn rv ι w (Stp.refl gd.hr) h3
  | alloc =>
    obtain ⟨v, blk, h1, hro, mk, hmk, hvr, h2⟩ := gop_alloc (by rw [hk]) hg
    refine ⟨v, _, h1, Nat.le_succ _, fun ι w a gd er next Q hn => ?_⟩
    obtain ⟨rc, el, h3, h4, h5⟩ := h2 ι a er
    unfold Oper.wp
    rw [h5 w]
    obtain ⟨cs, esz, ro⟩ := blk
    simp only at hro
    subst hro
    have st := new_stp gd 0 rc el cs esz h3 h4
    refine hn _ _ _ st ?_
    rw [hmk]
    exact hvr _ _ (upd_same _ _ _) rfl
  | read =>
    obtain ⟨t, x, g, off, v, b, ho, hx, h1, hpos, hb, hle, hs⟩ := gop_read (by rw [hk]) hg
    refine ⟨v, h, h1, Nat.le_refl _, fun ι w a gd er next Q hn => ?_⟩
    obtain ⟨hg1, hg2⟩ := look_get hb
    have hxr := er.eval x
    rw [hx] at hxr
    rcases hxr.someP with ⟨p, hp, he⟩ | ⟨hd, _⟩
    · obtain ⟨rv, h3, h4⟩ := hs b hle (fun _ _ => rfl) ι p w (row_at gd.hr hg1 hp hg2)
      have : (execOp a.eval o).run P w = .ok (.value rv) w := by simp only [execOp, ho, he, Sem.run_bind, h4, Result.andThen_ok, Sem.run_pure]
      unfold Oper.wp
      rw [this]
      exact hn rv ι w (Stp.refl gd.hr) h3
    · rw [gd.hr.dead g hg1 hd] at hg2; cases hg2
  | eff => exact gop_eff hC (by unfold isEff; rw [hk]) hg

/-! ### slots -/
structure AR (ds : List Deferred) (ι : Inj) (N : Nat) (e : Env) (a : Act) : Prop where
  er : ER ι e a
  size : a.tmps.size = N
  defers : a.defers = ds
variable {ds : List Deferred}
theorem put_defers (a : Act) (d : Option Tmp) (v : Value) : (a.put d v).defers = a.defers := by cases d <;> rfl
theorem put_size (a : Act) (d : Option Tmp) (v : Value) : (a.put d v).tmps.size = a.tmps.size := by cases d <;> simp [Act.put]
theorem put_get (a : Act) (d : Option Tmp) (v : Value) (t : Tmp) (hd : ∀ x, d = some x → x < a.tmps.size) : (a.put d v).tmps.getD t undef = if d = some t then v else a.tmps.getD t undef := by
  cases d with
  | none => simp [Act.put]
  | some x =>
    have := hd x rfl
    by_cases hx : x = t
    · subst hx; simp [Act.put, this]
    · rw [if_neg (by simpa using hx)]
      simp only [Act.put, Array.getD_eq_getD_getElem?]
      rw [Array.getElem?_setIfInBounds_ne hx]
theorem env_get_cons (d : Nat) (v : Value) (e : Env) (t : Nat) : Env.get ((d, v) :: e) t = if d = t then v else e.get t := by
  show (bif Nat.beq d t then v else Env.get e t) = _
  by_cases h : d = t
  · subst h; rw [beq_self]; simp
  · rw [beq_ne h, if_neg h]; rfl
theorem env_put_get (e : Env) (d : Option Tmp) (v : Value) (t : Nat) : (e.put d v).get t = if d = some t then v else e.get t := by
  cases d with
  | none => simp [Env.put]
  | some x => rw [show e.put (some x) v = (x, v) :: e from rfl, env_get_cons]; simp
theorem env_lit (e : Env) (t : Nat) (v : Value) (h : e.get t = v) (x : Nat) : Env.get ((t, v) :: e) x = e.get x := by
  rw [env_get_cons]; split
  · rename_i h'; subst h'; exact h.symm
  · rfl
theorem dstOk_lt {N : Nat} {o : Oper} (h : dstOk N o = true) : ∀ x, o.dst = some x → x < N := fun x hx => by
  unfold dstOk at h; rw [hx] at h; exact Nat.le_of_ble_eq_true h
theorem AR.put {ι : Inj} {N : Nat} {e : Env} {a : Act} (h : AR ds ι N e a) {d : Option Tmp} (hd : ∀ x, d = some x → x < N) {v rv : Value} (hv : VR ι v rv) : AR ds ι N (e.put d v) (a.put d rv) :=
  ⟨fun t => by rw [env_put_get, put_get _ _ _ _ (by rw [h.size]; exact hd)]; split; exact hv; exact h.er t, by rw [put_size]; exact h.size, by rw [put_defers]; exact h.defers⟩
theorem AR.mono {ι ι' : Inj} (hl : Le ι ι') {N : Nat} {e : Env} {a : Act} (h : AR ds ι N e a) : AR ds ι' N e a := ⟨h.er.mono hl, h.size, h.defers⟩
theorem AR.lit {ι : Inj} {N : Nat} {e : Env} {a : Act} (h : AR ds ι N e a) {t : Nat} {v : Value} (hv : e.get t = v) : AR ds ι N ((t, v) :: e) a := ⟨fun x => by rw [env_lit e t v hv]; exact h.er x, h.size, h.defers⟩
theorem only_get (e : Env) (l : List Nat) (t : Nat) : (e.only l).get t = e.get t ∨ (e.only l).get t = undef := by
  induction l with
  | nil => exact .inr rfl
  | cons x l ih =>
    rw [show e.only (x :: l) = (x, e.get x) :: e.only l from rfl, env_get_cons]
    split
    · rename_i h; subst h; exact .inl rfl
    · exact ih
theorem AR.only {ι : Inj} {N : Nat} {e : Env} {a : Act} (h : AR ds ι N e a) (l : List Nat) : AR ds ι N (e.only l) a :=
  ⟨fun t => by rcases only_get e l t with h' | h' <;> rw [h']; exact h.er t; exact .un _, h.size, h.defers⟩
theorem tmp_bool {ι : Inj} {e : Env} {a : Act} {t : Nat} {b : Bool} (h : VR ι (e.get t) (a.tmps.getD t undef)) (hb : e.get t = .bool b) : a.tmps[t]? = some (.bool b) := by
  rw [hb] at h
  have := h.bool
  rw [Array.getD_eq_getD_getElem?] at this
  cases hx : a.tmps[t]? with
  | none => rw [hx] at this; cases this
  | some x => rw [hx] at this; simp at this; rw [this]
theorem dstOf_eq {ops : Array Oper} {j : Nat} : dstOf ops.toList j = (ops[j]?).bind (·.dst) := by
  unfold dstOf; rw [nth_eq]; simp only [Array.getElem?_toList]; cases ops[j]? <;> rfl
theorem wanted_of {ops : Array Oper} {o : Oper} {a : Act} {j : Nat} {want b : Bool} {t : Nat} (hg : o.guard = some (j, want)) (hd : dstOf ops.toList j = some t) (ht : a.tmps[t]? = some (.bool b)) :
    Region.wanted o (yielded ops a.tmps) = (b == want) := by
  unfold Region.wanted
  rw [hg]
  simp only [yielded]
  rw [← dstOf_eq, hd]
  simp [ht]
theorem wanted_skip {ops : Array Oper} {o : Oper} {a : Act} {j : Nat} {want : Bool} {t : Nat} (hg : o.guard = some (j, want)) (hd : dstOf ops.toList j = some t) {rs : Array Value} (ht : a.tmps.getD t undef = .tuple rs) :
    Region.wanted o (yielded ops a.tmps) = false := by
  unfold Region.wanted
  rw [hg]
  simp only [yielded]
  rw [← dstOf_eq, hd]
  rw [Array.getD_eq_getD_getElem?] at ht
  cases hx : a.tmps[t]? with
  | none => simp [hx]
  | some x => rw [hx] at ht; simp at ht; subst ht; simp [hx]
theorem wanted_none {ops : Array Oper} {o : Oper} {a : Act} (hg : o.guard = none) : Region.wanted o (yielded ops a.tmps) = true := by unfold Region.wanted; rw [hg]

/-! ### a region in the text's order -/
theorem gops_sim {C : Orc β} (hC : SimOrc P C) {N : Nat} {ops : Array Oper} : ∀ (l : List Oper) (i : Nat), ops.toList.drop i = l → ∀ {e : Env} {h : GH} {K : Env → GH → Option β}, gops P C N ops.toList l e h K = some r →
    ∃ e' h', K e' h' = some r ∧ h.next ≤ h'.next ∧ ∀ ds ι w a, Good ι h h'.next w → AR ds ι N e a → ∀ Q : Exit → Act → World → Prop, (∀ ι' w' a', Stp h ι w h' ι' w' → AR ds ι' N e' a' → Q .normal a' w') →
      wpOps P ops Q (List.range' i l.length) a w := by
  intro l
  induction l with
  | nil =>
    intro i hi e h K hg
    exact ⟨e, h, hg, Nat.le_refl _, fun ds ι w a gd ar Q hQ => hQ ι w a (Stp.refl gd.hr) ar⟩
  | cons o l ih =>
    intro i hi e h K hg
    have hio : ops[i]? = some o := by
      have : (ops.toList.drop i)[0]? = some o := by rw [hi]; rfl
      simpa using this
    have hil : ops.toList.drop (i + 1) = l := by
      have : (ops.toList.drop i).drop 1 = l := by rw [hi]; rfl
      simpa [List.drop_drop] using this
    unfold gops at hg
    have hd := dstOk_lt (cond_none hg).1
    replace hg := (cond_none hg).2
    -- the operation runs, then the others
    have run : ∀ (e : Env), gop P C o e h (fun v h' => gops P C N ops.toList l (e.put o.dst v) h' K) = some r → ∃ e' h', K e' h' = some r ∧ h.next ≤ h'.next ∧
        ∀ ds ι w a, Region.wanted o (yielded ops a.tmps) = true → Good ι h h'.next w → AR ds ι N e a → ∀ Q : Exit → Act → World → Prop, (∀ ι' w' a', Stp h ι w h' ι' w' → AR ds ι' N e' a' → Q .normal a' w') →
          wpOps P ops Q (List.range' i (l.length + 1)) a w := by
      intro e hg
      obtain ⟨v, h1, hg, hn, hop⟩ := gop_sim hC hg
      obtain ⟨e', h', hK, hn', hrest⟩ := ih (i + 1) hil hg
      refine ⟨e', h', hK, Nat.le_trans hn hn', fun ds ι w a hw gd ar Q hQ => ?_⟩
      rw [List.range'_succ, wpOps]
      simp only [hio, hw, if_true]
      refine .inl (hop ι w a (gd.less hn') ar.er _ _ (fun rv ι1 w1 st hv => ?_))
      refine hrest ds ι1 w1 _ (gd.step st) ((ar.mono (st.le fun g h1 h2 => gd.free g h1 (by omega))).put hd hv) Q (fun ι2 w2 a2 st2 ar2 => hQ ι2 w2 a2 (st.trans st2) ar2)
    -- the operation is not wanted
    have skip : ∀ (e : Env), gops P C N ops.toList l (e.put o.dst skipV) h K = some r → ∃ e' h', K e' h' = some r ∧ h.next ≤ h'.next ∧
        ∀ ds ι w a, Region.wanted o (yielded ops a.tmps) = false → Good ι h h'.next w → AR ds ι N e a → ∀ Q : Exit → Act → World → Prop, (∀ ι' w' a', Stp h ι w h' ι' w' → AR ds ι' N e' a' → Q .normal a' w') →
          wpOps P ops Q (List.range' i (l.length + 1)) a w := by
      intro e hg
      obtain ⟨e', h', hK, hn', hrest⟩ := ih (i + 1) hil hg
      refine ⟨e', h', hK, hn', fun ds ι w a hw gd ar Q hQ => ?_⟩
      rw [List.range'_succ, wpOps]
      simp only [hio, hw, Bool.false_eq_true, if_false]
      exact hrest ds ι w _ gd (ar.put hd .sk) Q hQ
    split at hg
    · rename_i hgd
      obtain ⟨e', h', hK, hn, hr⟩ := run e hg
      exact ⟨e', h', hK, hn, fun ds ι w a gd ar Q hQ => hr ds ι w a (wanted_none hgd) gd ar Q hQ⟩
    · rename_i j want hgd
      split at hg
      · cases hg
      · rename_i t ht
        split at hg
        · rename_i b hb
          cases b with
          | true =>
            simp only [cond_true] at hg
            cases want with
            | true =>
              obtain ⟨e', h', hK, hn, hr⟩ := run _ hg
              exact ⟨e', h', hK, hn, fun ds ι w a gd ar Q hQ => hr ds ι w a (wanted_of hgd ht (tmp_bool (ar.er t) hb)) gd (ar.lit hb) Q hQ⟩
            | false =>
              obtain ⟨e', h', hK, hn, hr⟩ := skip _ hg
              exact ⟨e', h', hK, hn, fun ds ι w a gd ar Q hQ => hr ds ι w a (wanted_of hgd ht (tmp_bool (ar.er t) hb)) gd (ar.lit hb) Q hQ⟩
          | false =>
            simp only [cond_false] at hg
            cases want with
            | true =>
              obtain ⟨e', h', hK, hn, hr⟩ := skip _ hg
              exact ⟨e', h', hK, hn, fun ds ι w a gd ar Q hQ => hr ds ι w a (wanted_of hgd ht (tmp_bool (ar.er t) hb)) gd (ar.lit hb) Q hQ⟩
            | false =>
              obtain ⟨e', h', hK, hn, hr⟩ := run _ hg
              exact ⟨e', h', hK, hn, fun ds ι w a gd ar Q hQ => hr ds ι w a (wanted_of hgd ht (tmp_bool (ar.er t) hb)) gd (ar.lit hb) Q hQ⟩
        · have hsk := (cond_none hg).1
          obtain ⟨e', h', hK, hn, hr⟩ := skip _ (cond_none hg).2
          exact ⟨e', h', hK, hn, fun ds ι w a gd ar Q hQ => hr ds ι w a (by
            obtain ⟨rs, hrs⟩ := VR.skip hsk (ar.er t)
            exact wanted_skip hgd ht hrs) gd ar Q hQ⟩

/-! ### an operation looks at its operands alone -/
theorem evs_congr {e e' : Env} : ∀ {l : List Operand}, (∀ x ∈ l, e.eval x = e'.eval x) → evs e l = evs e' l
  | [], _ => rfl
  | x :: l, h => by rw [evs, evs, h x (List.mem_cons_self ..), evs_congr fun y hy => h y (List.mem_cons_of_mem _ hy)]
theorem evParts_congr {e e' : Env} : ∀ {l : List (Nat × Operand)}, (∀ x ∈ l, e.eval x.2 = e'.eval x.2) → evParts e l = evParts e' l
  | [], _ => rfl
  | (i, x) :: l, h => by rw [evParts, evParts, h (i, x) (List.mem_cons_self ..), evParts_congr fun y hy => h y (List.mem_cons_of_mem _ hy)]
theorem map_congr' {e e' : Env} {o : Option Operand} (h : ∀ x, o = some x → e.eval x = e'.eval x) : o.map e.eval = o.map e'.eval := by
  cases o with
  | none => rfl
  | some x => simp [h x rfl]
theorem gop_congr {C : Orc β} {o : Oper} {e e' : Env} {h : GH} {K : Value → GH → Option β} (he : ∀ x ∈ o.op.operands.toList, e.eval x = e'.eval x) : gop P C o e h K = gop P C o e' h K := by
  unfold gop
  cases ho : o.op
  all_goals rw [ho] at he
  all_goals simp only []
  case move x => rw [he x (by simp [Op.operands])]
  case assign x => rw [he x (by simp [Op.operands])]
  case pick c x y => rw [he c (by simp [Op.operands]), he x (by simp [Op.operands]), he y (by simp [Op.operands])]
  case binOp op t x y u => rw [he x (by simp [Op.operands]), he y (by simp [Op.operands])]
  case unOp op t x => rw [he x (by simp [Op.operands])]
  case convert s d x => rw [he x (by simp [Op.operands])]
  case fieldAddr s x i => rw [he x (by simp [Op.operands])]
  case field s x i => rw [he x (by simp [Op.operands])]
  case indexAddr t x i => rw [he x (by simp [Op.operands]), he i (by simp [Op.operands])]
  case index t x i => rw [he x (by simp [Op.operands]), he i (by simp [Op.operands])]
  case slice t x lo hi mx =>
    rw [he x (by simp [Op.operands]), map_congr' (o := lo) (fun y hy => he y (by simp [Op.operands, hy])), map_congr' (o := hi) (fun y hy => he y (by simp [Op.operands, hy])), map_congr' (o := mx) (fun y hy => he y (by simp [Op.operands, hy]))]
  case extract t i => rw [he t (by simp [Op.operands])]
  case nilCheck x => rw [he x (by simp [Op.operands])]
  case build t ps => rw [evParts_congr (l := ps.toList) (fun y hy => he y.2 (by simp [Op.operands]; exact ⟨y.1, by simpa using hy⟩))]
  case makeFunc fn fs cs => rw [evs_congr (l := fs.toList) (fun y hy => he y (by simp [Op.operands]; exact .inl (by simpa using hy))), evs_congr (l := cs.toList) (fun y hy => he y (by simp [Op.operands]; exact .inr (by simpa using hy)))]
  case box t x => rw [he x (by simp [Op.operands])]
  case buildSlice t n ps => rw [evParts_congr (l := ps.toList) (fun y hy => he y.2 (by simp [Op.operands]; exact ⟨y.1, by simpa using hy⟩))]
  case makeSlice t l c => rw [he l (by simp [Op.operands]), he c (by simp [Op.operands])]
  case makeMap t rs => rw [map_congr' (o := rs) (fun y hy => he y (by simp [Op.operands, hy]))]
  case lookup t x k ok => rw [he x (by simp [Op.operands]), he k (by simp [Op.operands])]
  case mapUpdate t m k v => rw [he m (by simp [Op.operands]), he k (by simp [Op.operands]), he v (by simp [Op.operands])]
  case insert t m k v => rw [he m (by simp [Op.operands]), he k (by simp [Op.operands]), he v (by simp [Op.operands])]
  case load t x => rw [he x (by simp [Op.operands])]
  case store t x v => rw [he x (by simp [Op.operands]), he v (by simp [Op.operands])]
  case call c =>
    obtain ⟨cal, args, ats⟩ := c
    have ha : evs e args.toList = evs e' args.toList := evs_congr fun y hy => he y (by simp [Op.operands, Call.operands]; exact .inr (by simpa using hy))
    cases cal with
    | value f => simp only []; rw [ha, he f (by simp [Op.operands, Call.operands])]
    | invoke f m => rfl
    | builtin b => cases b <;> simp only [ha]
end Go.Proofs.Ytibngikhlgmhaaa.Gx
/- The plain machine and the model: regions that draw their order: what was run in the text's order, written down. No condition. -/
namespace Go.Proofs.Ytibngikhlgmhaaa.Gx
open Go Go.RowKit
set_option linter.unusedVariables false
set_option linter.unusedSimpArgs false
variable {P : Program} {β : Type} {r : β}

/-! ### what waits for what -/
inductive Reach (all : List Oper) : Nat → Nat → Prop
  | one {j : Nat} {o : Oper} {ed : Edge} (h : nth all j = some o) (he : ed ∈ o.after.toList) (hb : bindE ed = true) : Reach all j ed.on
  | more {j i : Nat} {o : Oper} {ed : Edge} (h : nth all j = some o) (he : ed ∈ o.after.toList) (hb : bindE ed = true) (t : Reach all ed.on i) : Reach all j i
theorem ancOne_bit {acc : List Nat} {i : Nat} : ∀ {es : List Edge}, (ancOne acc es).testBit i = true → ∃ ed ∈ es, bindE ed = true ∧ (ed.on = i ∨ ∃ b, nth acc ed.on = some b ∧ b.testBit i = true)
  | [], h => by simp [ancOne] at h
  | e :: es, h => by
    unfold ancOne at h
    cases hb : bindE e with
    | false =>
      rw [hb] at h
      obtain ⟨ed, h1, h2⟩ := ancOne_bit (es := es) h
      exact ⟨ed, List.mem_cons_of_mem _ h1, h2⟩
    | true =>
      rw [hb] at h
      simp only [cond_true, Nat.testBit_or, Bool.or_eq_true] at h
      rcases h with (h | h) | h
      · refine ⟨e, List.mem_cons_self .., hb, .inl ?_⟩
        rw [Nat.testBit_two_pow] at h
        simpa using h
      · refine ⟨e, List.mem_cons_self .., hb, .inr ?_⟩
        split at h
        · rename_i b hb'; exact ⟨b, hb', h⟩
        · simp at h
      · obtain ⟨ed, h1, h2⟩ := ancOne_bit (es := es) h
        exact ⟨ed, List.mem_cons_of_mem _ h1, h2⟩
theorem nth_append_left {α : Type} {l m : List α} {i : Nat} (h : i < l.length) : nth (l ++ m) i = nth l i := by rw [nth_eq, nth_eq, List.getElem?_append_left h]
theorem nth_append_right {α : Type} {l m : List α} {i : Nat} (h : l.length ≤ i) : nth (l ++ m) i = nth m (i - l.length) := by rw [nth_eq, nth_eq, List.getElem?_append_right h]
theorem nth_lt {α : Type} {l : List α} {i : Nat} {x : α} (h : nth l i = some x) : i < l.length := by rw [nth_eq] at h; exact (List.getElem?_eq_some_iff.1 h).1
theorem ancs_reach {all : List Oper} : ∀ (l : List Oper) (acc : List Nat), all.drop acc.length = l → (∀ j b i, nth acc j = some b → b.testBit i = true → Reach all j i) →
    ∀ j b i, nth (ancs l acc) j = some b → b.testBit i = true → Reach all j i
  | [], acc, _, h => h
  | o :: l, acc, hd, h => by
    unfold ancs
    have hdl : all.drop (acc.length + 1) = l := by
      have : (all.drop acc.length).drop 1 = l := by rw [hd]; rfl
      simpa [List.drop_drop] using this
    have ho : nth all acc.length = some o := by
      rw [nth_eq]
      have : (all.drop acc.length)[0]? = some o := by rw [hd]; rfl
      simpa using this
    refine ancs_reach l (acc ++ [ancOne acc o.after.toList]) (by simpa using hdl) (fun j b i hj hb => ?_)
    by_cases hlt : j < acc.length
    · rw [nth_append_left hlt] at hj
      exact h j b i hj hb
    · have : j = acc.length := by have := nth_lt hj; simp at this; omega
      subst this
      rw [nth_append_right (Nat.le_refl _), Nat.sub_self] at hj
      simp only [nth, Option.some.injEq] at hj
      subst hj
      obtain ⟨ed, h1, h2, h3⟩ := ancOne_bit hb
      rcases h3 with rfl | ⟨b', h4, h5⟩
      · exact .one ho h1 h2
      · exact .more ho h1 h2 (h _ _ _ h4 h5)
theorem waits_reach {all : List Oper} {j i : Nat} (h : waits (ancs all []) j i = true) : Reach all j i := by
  unfold waits at h
  split at h
  · rename_i b hb
    exact ancs_reach all [] rfl (fun j b i hj => by simp [nth] at hj) j b i hb h
  · cases h
/-- a set that holds whatever its members wait for -/
def Closed (all : List Oper) (L : Nat → Bool) : Prop := ∀ j o, nth all j = some o → L j = true → ∀ ed ∈ o.after.toList, bindE ed = true → L ed.on = true
theorem Reach.mem {all : List Oper} {L : Nat → Bool} (hc : Closed all L) {j i : Nat} (h : Reach all j i) : L j = true → L i = true := by
  induction h with
  | one h he hb => exact fun hj => hc _ _ h hj _ he hb
  | more h he hb _ ih => exact fun hj => ih (hc _ _ h hj _ he hb)
theorem Reach.ready {all : List Oper} {L : Nat → Bool} (hc : Closed all L) {j i : Nat} (h : Reach all j i) (hr : ∀ o, nth all j = some o → ∀ ed ∈ o.after.toList, bindE ed = true → L ed.on = true) : L i = true := by
  cases h with
  | one h he hb => exact hr _ h _ he hb
  | more h he hb t => exact t.mem hc (hr _ h _ he hb)

/-! ### the checks -/
theorem edgesOk_spec {all : List Oper} : ∀ (l : List Oper) (i : Nat), all.drop i = l → edgesOk l i = true → ∀ k o, nth l k = some o → ∀ ed ∈ o.after.toList, bindE ed = true → ed.on < i + k
  | [], _, _, _ => fun k o h => by simp [nth] at h
  | x :: l, i, hd, h => by
    unfold edgesOk at h
    simp only [Bool.and_eq_true] at h
    intro k o hk
    cases k with
    | zero =>
      simp only [nth, Option.some.injEq] at hk
      subst hk
      intro ed he hb
      have := List.all_eq_true.1 h.1.1 ed he
      rw [hb] at this
      simp at this
      omega
    | succ k =>
      have := edgesOk_spec l (i + 1) (by
        have : (all.drop i).drop 1 = l := by rw [hd]; rfl
        simpa [List.drop_drop] using this) h.2 k o hk
      intro ed he hb
      have := this ed he hb
      omega
theorem memN_iff {t : Nat} : ∀ {l : List Nat}, t ∈ l → memN t l = true
  | x :: l, h => by
    unfold memN
    rcases List.mem_cons.1 h with rfl | h
    · simp [beq_self]
    · simp [memN_iff h]
theorem tmpsOkAt_spec {bits : List Nat} {names : List Tmp} {j : Nat} : ∀ (l : List Oper) (i : Nat), tmpsOkAt bits names j l i = true → ∀ k o, nth l k = some o → ∀ d, o.dst = some d → d ∈ names → i + k ≠ j → waits bits (max (i + k) j) (min (i + k) j) = true
  | [], _, _ => fun k o h => by simp [nth] at h
  | x :: l, i, h => by
    unfold tmpsOkAt at h
    simp only [Bool.and_eq_true] at h
    intro k o hk d hd hm hne
    cases k with
    | zero =>
      simp only [nth, Option.some.injEq] at hk
      subst hk
      have h1 := h.1
      rw [hd] at h1
      simp only [memN_iff hm, Bool.not_true, Bool.false_or] at h1
      rw [Nat.add_zero] at hne ⊢
      rw [beq_ne hne] at h1
      simpa using h1
    | succ k =>
      have := tmpsOkAt_spec l (i + 1) h.2 k o hk d hd hm (by omega)
      rwa [show i + 1 + k = i + (k + 1) by omega] at this
theorem tmpsOk_spec {bits : List Nat} {all : List Oper} : ∀ (l : List Oper) (j : Nat), tmpsOk bits all l j = true → ∀ k o, nth l k = some o → ∀ i oi, nth all i = some oi → ∀ d, oi.dst = some d → d ∈ namesOf all o → i ≠ j + k → waits bits (max i (j + k)) (min i (j + k)) = true
  | [], _, _ => fun k o h => by simp [nth] at h
  | x :: l, j, h => by
    unfold tmpsOk at h
    simp only [Bool.and_eq_true] at h
    intro k o hk
    cases k with
    | zero =>
      simp only [nth, Option.some.injEq] at hk
      subst hk
      intro i oi hi d hd hm hne
      have := tmpsOkAt_spec all 0 h.1 i oi hi d hd hm (by omega)
      simpa using this
    | succ k =>
      intro i oi hi d hd hm hne
      have := tmpsOk_spec l (j + 1) h.2 k o hk i oi hi d hd hm (by omega)
      rwa [show j + 1 + k = j + (k + 1) by omega] at this
theorem effsOk_spec {bits : List Nat} : ∀ (l : List Oper) (j : Nat) (seen : List Nat), effsOk P bits l j seen = true →
    (∀ k o, nth l k = some o → isEff P o = true → ∀ i ∈ seen, waits bits (j + k) i = true) ∧ (∀ k o k' o', k < k' → nth l k = some o → nth l k' = some o' → isEff P o = true → isEff P o' = true → waits bits (j + k') (j + k) = true)
  | [], _, _, _ => ⟨fun k o h => by simp [nth] at h, fun k o _ _ _ h => by simp [nth] at h⟩
  | x :: l, j, seen, h => by
    unfold effsOk at h
    cases hx : isEff P x with
    | true =>
      rw [hx] at h
      simp only [cond_true, Bool.and_eq_true] at h
      obtain ⟨h1, h2⟩ := effsOk_spec l (j + 1) (j :: seen) h.2
      refine ⟨fun k o hk he i hi => ?_, fun k o k' o' hlt hk hk' he he' => ?_⟩
      · cases k with
        | zero => exact List.all_eq_true.1 h.1 i hi
        | succ k => rw [show j + (k + 1) = j + 1 + k by omega]; exact h1 k o hk he i (List.mem_cons_of_mem _ hi)
      · cases k' with
        | zero => omega
        | succ k' =>
          cases k with
          | zero => rw [show j + (k' + 1) = j + 1 + k' by omega]; exact h1 k' o' hk' he' j (List.mem_cons_self ..)
          | succ k => rw [show j + (k' + 1) = j + 1 + k' by omega, show j + (k + 1) = j + 1 + k by omega]; exact h2 k o k' o' (by omega) hk hk' he he'
    | false =>
      rw [hx] at h
      simp only [cond_false] at h
      obtain ⟨h1, h2⟩ := effsOk_spec l (j + 1) seen h
      refine ⟨fun k o hk he i hi => ?_, fun k o k' o' hlt hk hk' he he' => ?_⟩
      · cases k with
        | zero => simp only [nth, Option.some.injEq] at hk; subst hk; rw [hx] at he; cases he
        | succ k => rw [show j + (k + 1) = j + 1 + k by omega]; exact h1 k o hk he i hi
      · cases k' with
        | zero => omega
        | succ k' =>
          cases k with
          | zero => simp only [nth, Option.some.injEq] at hk; subst hk; rw [hx] at he; cases he
          | succ k => rw [show j + (k' + 1) = j + 1 + k' by omega, show j + (k + 1) = j + 1 + k by omega]; exact h2 k o k' o' (by omega) hk hk' he he'
theorem veq_eq {a b : Value} (h : veq a b = true) : a = b := by
  unfold veq at h
  split at h <;> simp_all
theorem veqO_eq {a b : Option Value} (h : veqO a b = true) : a = b ∧ a.isSome = true := by
  unfold veqO at h
  split at h
  · rw [veq_eq h]; exact ⟨rfl, rfl⟩
  · cases h
theorem sameAt_spec {g : Nat} {h h' : GH} : ∀ {n o : Nat}, sameAt g o n h h' = true → ∀ k, k < n → h.cell ⟨g, o + k, none⟩ = h'.cell ⟨g, o + k, none⟩ ∧ (h.cell ⟨g, o + k, none⟩).isSome = true
  | 0, _, _ => fun k hk => by omega
  | n + 1, o, hs => by
    unfold sameAt at hs
    simp only [Bool.and_eq_true] at hs
    intro k hk
    cases k with
    | zero => exact veqO_eq hs.1
    | succ k => have := sameAt_spec hs.2 k (by omega); rwa [show o + 1 + k = o + (k + 1) by omega] at this
theorem chkOne_spec {bits : List Nat} {i : Nat} {p : Option Addr} {n : Nat} {K : Option β} : ∀ {ef : Efs}, chkOne bits i p n ef K = some r → K = some r ∧ ∀ j h h', (j, h, h') ∈ ef → apartB bits i j = true → ∃ g o, p = some ⟨g, o, none⟩ ∧ sameAt g o n h h' = true
  | [], hh => ⟨hh, fun j h h' hm => by cases hm⟩
  | (j, h, h') :: ef, hh => by
    unfold chkOne at hh
    cases ha : apartB bits i j with
    | true =>
      rw [ha] at hh
      simp only [cond_true] at hh
      obtain ⟨g, o, hp, hh'⟩ := exA_some hh
      have h1 := (cond_none hh').1
      obtain ⟨h2, h3⟩ := chkOne_spec (cond_none hh').2
      refine ⟨h2, fun j' x x' hm ha' => ?_⟩
      rcases List.mem_cons.1 hm with e | hm
      · cases e; exact ⟨g, o, hp, h1⟩
      · exact h3 _ _ _ hm ha'
    | false =>
      rw [ha] at hh
      simp only [cond_false] at hh
      obtain ⟨h2, h3⟩ := chkOne_spec hh
      refine ⟨h2, fun j' x x' hm ha' => ?_⟩
      rcases List.mem_cons.1 hm with e | hm
      · cases e; rw [ha] at ha'; cases ha'
      · exact h3 _ _ _ hm ha'
theorem chkAll_spec {bits : List Nat} {ef : Efs} {K : Option β} : ∀ {rd : Rds}, chkAll bits ef rd K = some r → K = some r ∧ ∀ i p n, (i, p, n) ∈ rd → ∀ j h h', (j, h, h') ∈ ef → apartB bits i j = true → ∃ g o, p = some ⟨g, o, none⟩ ∧ sameAt g o n h h' = true
  | [], hh => ⟨hh, fun i p n hm => by cases hm⟩
  | (i, p, n) :: rd, hh => by
    unfold chkAll at hh
    obtain ⟨h1, h2⟩ := chkOne_spec hh
    obtain ⟨h3, h4⟩ := chkAll_spec h1
    refine ⟨h3, fun i' p' n' hm => ?_⟩
    rcases List.mem_cons.1 hm with e | hm
    · cases e; exact h2
    · exact h4 _ _ _ hm

/-! ### what was run -/
structure Rec where
  o : Oper
  e : Env
  h : GH
  ran : Bool
  v : Value
  h' : GH
def eo (o : Oper) (e : Env) : Env := e.only (tmpsOf o.op.operands.toList)
theorem only_mem {e : Env} {l : List Nat} {t : Nat} (h : t ∈ l) : (e.only l).get t = e.get t := by
  induction l with
  | nil => cases h
  | cons x l ih =>
    rw [show e.only (x :: l) = (x, e.get x) :: e.only l from rfl, env_get_cons]
    split
    · rename_i h'; rw [h']
    · rename_i h'
      rcases List.mem_cons.1 h with rfl | h
      · exact (h' rfl).elim
      · exact ih h
theorem only_not {e : Env} {l : List Nat} {t : Nat} (h : t ∉ l) : (e.only l).get t = undef := by
  induction l with
  | nil => rfl
  | cons x l ih =>
    rw [show e.only (x :: l) = (x, e.get x) :: e.only l from rfl, env_get_cons]
    rw [if_neg (fun h' => h (by rw [h']; exact List.mem_cons_self ..))]
    exact ih fun h' => h (List.mem_cons_of_mem _ h')
theorem mem_tmpsOf {t : Tmp} : ∀ {l : List Operand}, Operand.tmp t ∈ l → t ∈ tmpsOf l
  | x :: l, h => by
    rcases List.mem_cons.1 h with e | h'
    · subst e; exact List.mem_cons_self ..
    · cases x with
      | tmp u => exact List.mem_cons_of_mem _ (mem_tmpsOf h')
      | const v => exact mem_tmpsOf (l := l) h'
      | global g => exact mem_tmpsOf (l := l) h'
      | func f => exact mem_tmpsOf (l := l) h'
theorem eo_eval {o : Oper} {e : Env} {x : Operand} (hx : x ∈ o.op.operands.toList) : (eo o e).eval x = e.eval x := by
  cases x with
  | tmp t => exact only_mem (mem_tmpsOf hx)
  | const v => rfl
  | global g => rfl
  | func f => rfl
inductive StepOk (P : Program) (rc : Rec) : Prop
  | skip (h : rc.ran = false) (hv : rc.v = skipV) (hh : rc.h' = rc.h)
  | pure (h : rc.ran = true) (hk : opKind P rc.o.op = .pure) (hh : rc.h' = rc.h) (hs : ∀ ι a, ER ι (eo rc.o rc.e) a → ∃ rv, VR ι rc.v rv ∧ ∀ w, (execOp a.eval rc.o).run P w = .ok (.value rv) w)
  | alloc (h : rc.ran = true) (hk : opKind P rc.o.op = .alloc) (blk : Blk) (hh : rc.h' = rc.h.push (.row blk)) (hs : Makes P rc.o (eo rc.o rc.e) rc.h rc.v blk)
  | read (h : rc.ran = true) (hk : opKind P rc.o.op = .read) (hh : rc.h' = rc.h) (t : TypeId) (x : Operand) (g off : Nat) (b : Blk) (ho : rc.o.op = .load t x) (hx : rc.e.eval x = .pointer (some ⟨g, off, none⟩)) (hpos : 0 < loadN P t) (hb : rc.h.look g = some (.row b)) (hle : off + loadN P t ≤ b.cells.length)
      (hs : ∀ (b' : Blk), off + loadN P t ≤ b'.cells.length → (∀ i, i < loadN P t → nth b'.cells (off + i) = nth b.cells (off + i)) → ∀ ι p w, RowOk ι p b' w →
        ∃ rv, VR ι rc.v rv ∧ (Instr.loadAt t (.pointer (some ⟨p.blk, p.off + off, none⟩))).run P w = .ok rv w)
  | eff (h : rc.ran = true) (hk : isEff P rc.o = true) (hs : OpSim P rc.o (eo rc.o rc.e) rc.h rc.v rc.h')
def GuardOk (all : List Oper) (rc : Rec) : Prop := match rc.o.guard with
  | none => rc.ran = true
  | some (j, want) => ∃ t, dstOf all j = some t ∧ ((∃ b, rc.e.get t = .bool b ∧ rc.ran = (b == want)) ∨ (isSkip (rc.e.get t) = true ∧ rc.ran = false))
def TrOk (P : Program) (N : Nat) (all : List Oper) : Nat → Env → GH → List Rec → Env → GH → Prop
  | _, e, h, [], e', h' => (∀ t, e'.get t = e.get t) ∧ h' = h
  | i, e, h, rc :: rs, e', h' => nth all i = some rc.o ∧ rc.h = h ∧ (∀ t, rc.e.get t = e.get t) ∧ (∀ x, rc.o.dst = some x → x < N) ∧ GuardOk all rc ∧ StepOk P rc ∧ TrOk P N all (i + 1) (rc.e.put rc.o.dst rc.v) rc.h' rs e' h'
theorem gop_step {C : Orc β} (hC : SimOrc P C) {o : Oper} {e : Env} {h : GH} {K : Value → GH → Option β} (hg : gop P C o e h K = some r) : ∃ v h', K v h' = some r ∧ StepOk P ⟨o, e, h, true, v, h'⟩ := by
  have hg' : gop P C o (eo o e) h K = some r := by rw [gop_congr (e' := e) (fun x hx => eo_eval hx)]; exact hg
  cases hk : opKind P o.op with
  | pure =>
    obtain ⟨v, h1, h2⟩ := gop_pure (by rw [hk]) hg'
    exact ⟨v, h, h1, .pure rfl hk rfl h2⟩
  | alloc =>
    obtain ⟨v, blk, h1, h2⟩ := gop_alloc (by rw [hk]) hg'
    exact ⟨v, _, h1, .alloc rfl hk blk rfl h2⟩
  | read =>
    obtain ⟨t, x, g, off, v, b, ho, hx, h1, hpos, hb, hle, hs⟩ := gop_read (by rw [hk]) hg
    exact ⟨v, h, h1, .read rfl hk rfl t x g off b ho hx hpos hb hle hs⟩
  | eff =>
    have he : isEff P o = true := by unfold isEff; rw [hk]
    obtain ⟨v, h', h1, h2⟩ := gop_eff hC he hg'
    exact ⟨v, h', h1, .eff rfl he h2⟩
theorem loadLen_eq (t : TypeId) : loadLen P t = loadN P t := rfl
theorem gopsD_tr {C : Orc β} (hC : SimOrc P C) {N : Nat} {all : List Oper} : ∀ (l : List Oper) (i : Nat), all.drop i = l → ∀ {e : Env} {h : GH} {rd : Rds} {ef : Efs} {K : Env → GH → Rds → Efs → Option β}, gopsD P C N all l i e h rd ef K = some r →
    ∃ recs e' h' rd' ef', K e' h' rd' ef' = some r ∧ TrOk P N all i e h recs e' h' ∧ recs.length = l.length ∧ (∀ x ∈ rd, x ∈ rd') ∧ (∀ x ∈ ef, x ∈ ef') ∧
      (∀ k rc, nth recs k = some rc → rc.ran = true → isEff P rc.o = true → (i + k, rc.h, rc.h') ∈ ef') ∧
      (∀ k rc t x g off, nth recs k = some rc → rc.ran = true → rc.o.op = .load t x → rc.e.eval x = .pointer (some ⟨g, off, none⟩) → (i + k, some ⟨g, off, none⟩, loadN P t) ∈ rd') := by
  intro l
  induction l with
  | nil => exact fun i hi e h rd ef K hg => ⟨[], e, h, rd, ef, hg, ⟨fun _ => rfl, rfl⟩, rfl, fun _ h => h, fun _ h => h, fun k rc h => by simp [nth] at h, fun k rc t x g off h => by simp [nth] at h⟩
  | cons o l ih =>
    intro i hi e h rd ef K hg
    have hio : nth all i = some o := by
      rw [nth_eq]
      have : (all.drop i)[0]? = some o := by rw [hi]; rfl
      simpa using this
    have hil : all.drop (i + 1) = l := by
      have : (all.drop i).drop 1 = l := by rw [hi]; rfl
      simpa [List.drop_drop] using this
    unfold gopsD at hg
    have hd := dstOk_lt (cond_none hg).1
    replace hg := (cond_none hg).2
    have run : ∀ (e1 : Env), (∀ t, e1.get t = e.get t) → (∀ rc : Rec, rc.o = o → rc.e = e1 → rc.ran = true → GuardOk all rc) →
        gop P C o e1 h (fun v h' => gopsD P C N all l (i + 1) (e1.put o.dst v) h' (rdOf P i o e1 rd) (efOf P i o h h' ef) K) = some r →
        ∃ recs e' h' rd' ef', K e' h' rd' ef' = some r ∧ TrOk P N all i e h recs e' h' ∧ recs.length = (o :: l).length ∧ (∀ x ∈ rd, x ∈ rd') ∧ (∀ x ∈ ef, x ∈ ef') ∧
          (∀ k rc, nth recs k = some rc → rc.ran = true → isEff P rc.o = true → (i + k, rc.h, rc.h') ∈ ef') ∧
          (∀ k rc t x g off, nth recs k = some rc → rc.ran = true → rc.o.op = .load t x → rc.e.eval x = .pointer (some ⟨g, off, none⟩) → (i + k, some ⟨g, off, none⟩, loadN P t) ∈ rd') := by
      intro e1 he1 hgo hg
      obtain ⟨v, h1, hg, hst⟩ := gop_step hC hg
      obtain ⟨recs, e', h', rd', ef', hK, ht, hlen, hrd, hef, h3, h4⟩ := ih (i + 1) hil hg
      refine ⟨⟨o, e1, h, true, v, h1⟩ :: recs, e', h', rd', ef', hK, ⟨hio, rfl, he1, hd, hgo _ rfl rfl rfl, hst, ht⟩, by simp [hlen], fun x hx => hrd x ?_, fun x hx => hef x ?_, ?_, ?_⟩
      · unfold rdOf; split
        · split
          · exact List.mem_cons_of_mem _ hx
          · exact hx
        · exact hx
      · unfold efOf; cases isEff P o
        · exact hx
        · exact List.mem_cons_of_mem _ hx
      · intro k rc hk hr he
        cases k with
        | zero =>
          simp only [nth, Option.some.injEq] at hk
          subst hk
          refine hef _ ?_
          unfold efOf
          rw [show isEff P o = true from he]
          exact List.mem_cons_self ..
        | succ k => have := h3 k rc hk hr he; rwa [show i + 1 + k = i + (k + 1) by omega] at this
      · intro k rc t x g off hk hr ho hx
        cases k with
        | zero =>
          simp only [nth, Option.some.injEq] at hk
          subst hk
          refine hrd _ ?_
          unfold rdOf
          simp only at ho hx
          rw [ho]
          simp only [hx]
          exact List.mem_cons_self ..
        | succ k => have := h4 k rc t x g off hk hr ho hx; rwa [show i + 1 + k = i + (k + 1) by omega] at this
    have skip : ∀ (e1 : Env), (∀ t, e1.get t = e.get t) → (∀ rc : Rec, rc.o = o → rc.e = e1 → rc.ran = false → GuardOk all rc) → gopsD P C N all l (i + 1) (e1.put o.dst skipV) h rd ef K = some r →
        ∃ recs e' h' rd' ef', K e' h' rd' ef' = some r ∧ TrOk P N all i e h recs e' h' ∧ recs.length = (o :: l).length ∧ (∀ x ∈ rd, x ∈ rd') ∧ (∀ x ∈ ef, x ∈ ef') ∧
          (∀ k rc, nth recs k = some rc → rc.ran = true → isEff P rc.o = true → (i + k, rc.h, rc.h') ∈ ef') ∧
          (∀ k rc t x g off, nth recs k = some rc → rc.ran = true → rc.o.op = .load t x → rc.e.eval x = .pointer (some ⟨g, off, none⟩) → (i + k, some ⟨g, off, none⟩, loadN P t) ∈ rd') := by
      intro e1 he1 hgo hg
      obtain ⟨recs, e', h', rd', ef', hK, ht, hlen, hrd, hef, h3, h4⟩ := ih (i + 1) hil hg
      refine ⟨⟨o, e1, h, false, skipV, h⟩ :: recs, e', h', rd', ef', hK, ⟨hio, rfl, he1, hd, hgo _ rfl rfl rfl, .skip rfl rfl rfl, ht⟩, by simp [hlen], hrd, hef, ?_, ?_⟩
      · intro k rc hk hr he
        cases k with
        | zero => simp only [nth, Option.some.injEq] at hk; subst hk; cases hr
        | succ k => have := h3 k rc hk hr he; rwa [show i + 1 + k = i + (k + 1) by omega] at this
      · intro k rc t x g off hk hr ho hx
        cases k with
        | zero => simp only [nth, Option.some.injEq] at hk; subst hk; cases hr
        | succ k => have := h4 k rc t x g off hk hr ho hx; rwa [show i + 1 + k = i + (k + 1) by omega] at this
    split at hg
    · rename_i hgd
      exact run e (fun _ => rfl) (fun rc h1 h2 h3 => by unfold GuardOk; rw [h1, hgd]; exact h3) hg
    · rename_i j want hgd
      split at hg
      · cases hg
      · rename_i t ht
        split at hg
        · rename_i b hb
          have hgo : ∀ rc : Rec, rc.o = o → rc.e = (t, .bool b) :: e → rc.ran = (b == want) → GuardOk all rc := fun rc h1 h2 h3 => by
            unfold GuardOk; rw [h1, hgd]; exact ⟨t, ht, .inl ⟨b, by rw [h2, env_get_cons, if_pos rfl], h3⟩⟩
          cases b with
          | true =>
            simp only [cond_true] at hg
            cases want with
            | true => exact run _ (env_lit e t _ hb) hgo hg
            | false => exact skip _ (env_lit e t _ hb) hgo hg
          | false =>
            simp only [cond_false] at hg
            cases want with
            | true => exact skip _ (env_lit e t _ hb) hgo hg
            | false => exact run _ (env_lit e t _ hb) hgo hg
        · have hsk := (cond_none hg).1
          exact skip e (fun _ => rfl) (fun rc h1 h2 h3 => by unfold GuardOk; rw [h1, hgd]; exact ⟨t, ht, .inr ⟨by rw [h2]; exact hsk, h3⟩⟩) (cond_none hg).2
end Go.Proofs.Ytibngikhlgmhaaa.Gx
/- The plain machine and the model: regions that draw their order. Whatever order is drawn, the model comes to what the text's order comes to. No condition. -/
namespace Go.Proofs.Ytibngikhlgmhaaa.Gx
open Go Go.RowKit
set_option linter.unusedVariables false
set_option linter.unusedSimpArgs false
variable {P : Program} {ds : List Deferred}

def Hf (recs : List Rec) (hN : GH) (i : Nat) : GH := match nth recs i with | some rc => rc.h | none => hN
def tvAt (recs : List Rec) (L : Nat → Bool) (e : Env) (t : Nat) : Nat → Value
  | 0 => e.get t
  | k + 1 => match nth recs k with
    | some rc => if L k = true ∧ rc.o.dst = some t then rc.v else tvAt recs L e t k
    | none => tvAt recs L e t k
def LT (_ : Nat) : Bool := true
theorem tvAt_cons {rc : Rec} {rs : List Rec} {e : Env} (he : ∀ t, rc.e.get t = e.get t) (t : Nat) : ∀ k, tvAt (rc :: rs) LT e t (k + 1) = tvAt rs LT (rc.e.put rc.o.dst rc.v) t k
  | 0 => by
    show (match nth (rc :: rs) 0 with | some rc' => if LT 0 = true ∧ rc'.o.dst = some t then rc'.v else e.get t | none => e.get t) = (rc.e.put rc.o.dst rc.v).get t
    rw [env_put_get, ← he]
    simp [nth, LT]
  | k + 1 => by
    show (match nth rs k with | some rc' => if LT (k + 1) = true ∧ rc'.o.dst = some t then rc'.v else tvAt (rc :: rs) LT e t (k + 1) | none => tvAt (rc :: rs) LT e t (k + 1)) = _
    rw [tvAt_cons he t k]
    rfl
theorem TrOk.idx {N : Nat} {all : List Oper} {e' : Env} {h' : GH} : ∀ (recs : List Rec) (i : Nat) (e : Env) (h : GH), TrOk P N all i e h recs e' h' →
    Hf recs h' 0 = h ∧ (∀ k rc, nth recs k = some rc → nth all (i + k) = some rc.o ∧ rc.h' = Hf recs h' (k + 1) ∧ (∀ x, rc.o.dst = some x → x < N) ∧ GuardOk all rc ∧ StepOk P rc ∧ ∀ t, rc.e.get t = tvAt recs LT e t k) ∧
      ∀ t, e'.get t = tvAt recs LT e t recs.length
  | [], i, e, h, ht => ⟨ht.2, fun k rc hk => by simp [nth] at hk, ht.1⟩
  | rc :: rs, i, e, h, ht => by
    obtain ⟨h1, h2, h3, h4, h5, h6, h7⟩ := ht
    obtain ⟨i1, i2, i3⟩ := TrOk.idx rs (i + 1) _ _ h7
    refine ⟨h2, fun k r hk => ?_, fun t => ?_⟩
    · cases k with
      | zero =>
        simp only [nth, Option.some.injEq] at hk
        subst hk
        exact ⟨h1, i1.symm, h4, h5, h6, h3⟩
      | succ k =>
        obtain ⟨j1, j2, j3, j4, j5, j6⟩ := i2 k r hk
        refine ⟨by rw [show i + (k + 1) = i + 1 + k by omega]; exact j1, j2, j3, j4, j5, fun t => ?_⟩
        rw [tvAt_cons h3]; exact j6 t
    · rw [i3 t, List.length_cons, tvAt_cons h3]

structure Cx (P : Program) (N : Nat) (ops : Array Oper) (recs : List Rec) (e0 eN : Env) (h0 hN : GH) : Prop where
  len : recs.length = ops.size
  zero : Hf recs hN 0 = h0
  idx : ∀ k rc, nth recs k = some rc → nth ops.toList k = some rc.o ∧ rc.h' = Hf recs hN (k + 1) ∧ (∀ x, rc.o.dst = some x → x < N) ∧ GuardOk ops.toList rc ∧ StepOk P rc ∧ ∀ t, rc.e.get t = tvAt recs LT e0 t k
  fin : ∀ t, eN.get t = tvAt recs LT e0 t recs.length
  edges : ∀ k o, nth ops.toList k = some o → ∀ ed ∈ o.after.toList, bindE ed = true → ed.on < k
  tmps : ∀ j o i oi, nth ops.toList j = some o → nth ops.toList i = some oi → ∀ d, oi.dst = some d → d ∈ namesOf ops.toList o → i ≠ j → Reach ops.toList (max i j) (min i j)
  effs : ∀ i j oi oj, i < j → nth ops.toList i = some oi → nth ops.toList j = some oj → isEff P oi = true → isEff P oj = true → Reach ops.toList j i
  rds : ∀ i j ri rj t x g off, nth recs i = some ri → nth recs j = some rj → ri.ran = true → rj.ran = true → ri.o.op = .load t x → ri.e.eval x = .pointer (some ⟨g, off, none⟩) → isEff P rj.o = true → ¬ Reach ops.toList (max i j) (min i j) →
    ∀ k, k < loadN P t → rj.h.cell ⟨g, off + k, none⟩ = rj.h'.cell ⟨g, off + k, none⟩ ∧ (rj.h.cell ⟨g, off + k, none⟩).isSome = true

section
variable {N : Nat} {ops : Array Oper} {recs : List Rec} {e0 eN : Env} {h0 hN : GH}
def EffAt (P : Program) (recs : List Rec) (k : Nat) : Prop := ∃ rc, nth recs k = some rc ∧ rc.ran = true ∧ isEff P rc.o = true
def Born (P : Program) (recs : List Rec) (k g : Nat) : Prop := ∃ rc, nth recs k = some rc ∧ rc.ran = true ∧ opKind P rc.o.op = .alloc ∧ rc.h.next = g
theorem Hf_at {rc : Rec} {k : Nat} (h : nth recs k = some rc) : Hf recs hN k = rc.h := by unfold Hf; rw [h]
theorem Hf_end : Hf recs hN recs.length = hN := by unfold Hf; rw [nth_eq, List.getElem?_eq_none (Nat.le_refl _)]
theorem rec_at {k : Nat} (h : k < recs.length) : ∃ rc, nth recs k = some rc := ⟨recs[k], by rw [nth_eq]; exact List.getElem?_eq_getElem h⟩
/-- one step, between effects: what is there stays -/
theorem Cx.one (cx : Cx P N ops recs e0 eN h0 hN) {k : Nat} {rc : Rec} (hk : nth recs k = some rc) : (Hf recs hN k).next ≤ (Hf recs hN (k + 1)).next ∧ (¬ EffAt P recs k → ∀ g, g < (Hf recs hN k).next → (Hf recs hN (k + 1)).get g = (Hf recs hN k).get g) := by
  obtain ⟨_, h1, _, _, h2, _⟩ := cx.idx k rc hk
  rw [Hf_at hk, ← h1]
  cases h2 with
  | skip h hv hh => rw [hh]; exact ⟨Nat.le_refl _, fun _ _ _ => rfl⟩
  | pure h hk' hh hs => rw [hh]; exact ⟨Nat.le_refl _, fun _ _ _ => rfl⟩
  | read h hk' hh => rw [hh]; exact ⟨Nat.le_refl _, fun _ _ _ => rfl⟩
  | alloc h hk' blk hh hs => rw [hh]; exact ⟨Nat.le_succ _, fun _ g hg => get_push_ne _ _ (by omega)⟩
  | eff h hk' hs => exact ⟨hs.1, fun hn => (hn ⟨rc, hk, h, hk'⟩).elim⟩
theorem Cx.next_mono (cx : Cx P N ops recs e0 eN h0 hN) {i : Nat} : ∀ {j : Nat}, i ≤ j → j ≤ recs.length → (Hf recs hN i).next ≤ (Hf recs hN j).next := by
  intro j
  induction j with
  | zero => intro h _; have : i = 0 := by omega
            subst this; exact Nat.le_refl _
  | succ j ih =>
    intro h hj
    by_cases e : i = j + 1
    · subst e; exact Nat.le_refl _
    · obtain ⟨rc, hrc⟩ := rec_at (recs := recs) (k := j) (by omega)
      exact Nat.le_trans (ih (by omega) (by omega)) (cx.one hrc).1
theorem Cx.grow (cx : Cx P N ops recs e0 eN h0 hN) {i g : Nat} (hg : g < (Hf recs hN i).next) : ∀ {j : Nat}, i ≤ j → j ≤ recs.length → (∀ k, i ≤ k → k < j → ¬ EffAt P recs k) → (Hf recs hN j).get g = (Hf recs hN i).get g := by
  intro j
  induction j with
  | zero => intro h _ _; have : i = 0 := by omega
            subst this; rfl
  | succ j ih =>
    intro h hj hn
    by_cases e : i = j + 1
    · subst e; rfl
    · obtain ⟨rc, hrc⟩ := rec_at (recs := recs) (k := j) (by omega)
      have := ih (by omega) (by omega) (fun k h1 h2 => hn k h1 (by omega))
      rw [← this]
      exact (cx.one hrc).2 (hn j (by omega) (by omega)) g (Nat.lt_of_lt_of_le hg (cx.next_mono (by omega) (by omega)))
theorem Cx.born (cx : Cx P N ops recs e0 eN h0 hN) {k g : Nat} (h : Born P recs k g) : k < recs.length ∧ g = (Hf recs hN k).next ∧ (Hf recs hN (k + 1)).next = g + 1 := by
  obtain ⟨rc, h1, h2, h3, h4⟩ := h
  obtain ⟨_, i1, _, _, i2, _⟩ := cx.idx k rc h1
  refine ⟨nth_lt h1, by rw [Hf_at h1, h4], ?_⟩
  rw [← i1]
  cases i2 with
  | skip h => rw [h2] at h; cases h
  | pure _ hk => rw [h3] at hk; cases hk
  | read _ hk => rw [h3] at hk; cases hk
  | eff _ hk => unfold isEff at hk; rw [h3] at hk; cases hk
  | alloc _ _ blk hh => rw [hh, ← h4]; rfl
theorem Cx.born_unique (cx : Cx P N ops recs e0 eN h0 hN) {k k' g : Nat} (h : Born P recs k g) (h' : Born P recs k' g) : k = k' := by
  obtain ⟨a1, a2, a3⟩ := cx.born h
  obtain ⟨b1, b2, b3⟩ := cx.born h'
  rcases Nat.lt_trichotomy k k' with hl | hl | hl
  · have := cx.next_mono (i := k + 1) (j := k') hl (by omega); omega
  · exact hl
  · have := cx.next_mono (i := k' + 1) (j := k) hl (by omega); omega
theorem tvAt_stop {L : Nat → Bool} {e : Env} {t i : Nat} : ∀ {m : Nat}, i ≤ m → (∀ k rc, i ≤ k → k < m → nth recs k = some rc → rc.o.dst = some t → L k = false) → tvAt recs L e t m = tvAt recs L e t i := by
  intro m
  induction m with
  | zero => intro h _; have : i = 0 := by omega
            subst this; rfl
  | succ m ih =>
    intro h hn
    by_cases e' : i = m + 1
    · subst e'; rfl
    · rw [← ih (by omega) (fun k rc h1 h2 => hn k rc h1 (by omega))]
      show (match nth recs m with | some rc => if L m = true ∧ rc.o.dst = some t then rc.v else tvAt recs L e t m | none => tvAt recs L e t m) = _
      split
      · rename_i rc hrc
        rw [if_neg]
        rintro ⟨h1, h2⟩
        rw [hn m rc (by omega) (by omega) hrc h2] at h1; cases h1
      · rfl
theorem tvAt_congr {L L' : Nat → Bool} {e : Env} {t : Nat} : ∀ {m : Nat}, (∀ k rc, k < m → nth recs k = some rc → rc.o.dst = some t → L k = L' k) → tvAt recs L e t m = tvAt recs L' e t m := by
  intro m
  induction m with
  | zero => intro _; rfl
  | succ m ih =>
    intro hn
    show (match nth recs m with | some rc => if L m = true ∧ rc.o.dst = some t then rc.v else tvAt recs L e t m | none => tvAt recs L e t m) = (match nth recs m with | some rc => if L' m = true ∧ rc.o.dst = some t then rc.v else tvAt recs L' e t m | none => tvAt recs L' e t m)
    rw [ih fun k rc h1 => hn k rc (by omega)]
    split
    · rename_i rc hrc
      by_cases hd : rc.o.dst = some t
      · rw [hn m rc (by omega) hrc hd]
      · rw [if_neg (fun h => hd h.2), if_neg (fun h => hd h.2)]
    · rfl
def LL (listed : Array Bool) (k : Nat) : Bool := listed.getD k false
theorem LL_set {listed : Array Bool} {i : Nat} (hi : i < listed.size) (k : Nat) : LL (listed.setIfInBounds i true) k = if k = i then true else LL listed k := by
  unfold LL
  by_cases h : k = i
  · subst h; simp [hi]
  · rw [if_neg h]
    simp only [Array.getD_eq_getD_getElem?]
    rw [Array.getElem?_setIfInBounds_ne (Ne.symm h)]

structure Inv (ds : List Deferred) (P : Program) (N : Nat) (ops : Array Oper) (recs : List Rec) (e0 : Env) (h0 hN : GH) (ι0 : Inj) (w0 : World) (listed : Array Bool) (a : Act) (w : World) (ι : Inj) (lo : Nat) (V : GH) : Prop where
  closed : Closed ops.toList (LL listed)
  lsz : listed.size = ops.size
  asz : a.tmps.size = N
  adf : a.defers = ds
  tv : ∀ t, VR ι (tvAt recs (LL listed) e0 t recs.length) (a.tmps.getD t undef)
  lole : lo ≤ recs.length
  lo0 : lo = 0 ∨ ∃ k, lo = k + 1 ∧ EffAt P recs k ∧ LL listed k = true
  hiE : ∀ k, lo ≤ k → EffAt P recs k → LL listed k = false
  vn : V.next = hN.next
  hr : HR ι V w
  vold : ∀ g, g < (Hf recs hN lo).next → ι g ≠ .unborn → V.get g = (Hf recs hN lo).get g
  vnew : ∀ g, (Hf recs hN lo).next ≤ g → g < hN.next → ι g ≠ .unborn → ∃ k, lo ≤ k ∧ Born P recs k g ∧ LL listed k = true ∧ V.get g = (Hf recs hN (k + 1)).get g
  unb : ∀ k g, Born P recs k g → LL listed k = false → ι g = .unborn
  kept : ∀ k g, Born P recs k g → LL listed k = false → k < lo → (Hf recs hN lo).get g = (Hf recs hN (k + 1)).get g
  oldn : ∀ g, g < h0.next → ι g = ι0 g ∨ ((∃ p, ι0 g = .live p ∧ p.ro = false) ∧ ι g = .dead)
  farn : ∀ g, hN.next ≤ g → ι g = ι0 g
  samen : ∀ g, g < h0.next → ι0 g = .unborn → (Hf recs hN lo).get g = h0.get g
  fr : Fr (Cov h0.next ι0) w0 w
  cov : ∀ b i, b < w0.heap.size → Cov hN.next ι b i → Cov h0.next ι0 b i

variable {ι0 : Inj} {w0 : World} {listed : Array Bool} {a : Act} {w : World} {ι : Inj} {lo : Nat} {V : GH}
/-- what an operation that is ready finds in the slots that it names -/
theorem Inv.named (cx : Cx P N ops recs e0 eN h0 hN) (inv : Inv ds P N ops recs e0 h0 hN ι0 w0 listed a w ι lo V) {i : Nat} {rc : Rec} (hi : nth recs i = some rc) (hL : LL listed i = false)
    (hrd : ∀ o, nth ops.toList i = some o → ∀ ed ∈ o.after.toList, bindE ed = true → LL listed ed.on = true) {t : Nat} (ht : t ∈ namesOf ops.toList rc.o) : tvAt recs (LL listed) e0 t recs.length = rc.e.get t := by
  obtain ⟨ho, _, _, _, _, he⟩ := cx.idx i rc hi
  rw [he t, tvAt_stop (i := i) (Nat.le_of_lt (nth_lt hi)) (fun k rk h1 h2 hk hd => ?_)]
  · refine tvAt_congr fun k rk h1 hk hd => ?_
    have hr := cx.tmps i rc.o k rk.o ho (cx.idx k rk hk).1 t hd ht (by omega)
    rw [Nat.max_eq_right (by omega), Nat.min_eq_left (by omega)] at hr
    rw [hr.ready inv.closed hrd]; rfl
  · by_cases e : k = i
    · subst e; exact hL
    · have hr := cx.tmps i rc.o k rk.o ho (cx.idx k rk hk).1 t hd ht e
      rw [Nat.max_eq_left (by omega), Nat.min_eq_right (by omega)] at hr
      cases hlk : LL listed k with
      | false => rfl
      | true => rw [hr.mem inv.closed hlk] at hL; cases hL
theorem Inv.slots (cx : Cx P N ops recs e0 eN h0 hN) (inv : Inv ds P N ops recs e0 h0 hN ι0 w0 listed a w ι lo V) {i : Nat} {rc : Rec} (hi : nth recs i = some rc) (hL : LL listed i = false)
    (hrd : ∀ o, nth ops.toList i = some o → ∀ ed ∈ o.after.toList, bindE ed = true → LL listed ed.on = true) : ER ι (eo rc.o rc.e) a := fun t => by
  by_cases ht : t ∈ tmpsOf rc.o.op.operands.toList
  · have h1 : (eo rc.o rc.e).get t = rc.e.get t := only_mem ht
    rw [h1, ← inv.named cx hi hL hrd (t := t) (by unfold namesOf; simp [ht])]
    exact inv.tv t
  · have : (eo rc.o rc.e).get t = undef := only_not ht
    rw [this]
    exact .un _
/-- the slots behind an operation -/
theorem Inv.tvput (cx : Cx P N ops recs e0 eN h0 hN) (inv : Inv ds P N ops recs e0 h0 hN ι0 w0 listed a w ι lo V) {i : Nat} {rc : Rec} (hi : nth recs i = some rc) (hL : LL listed i = false)
    {ι' : Inj} (hl : Le ι ι') {rv : Value} (hv : VR ι' rc.v rv) (t : Nat) : VR ι' (tvAt recs (LL (listed.setIfInBounds i true)) e0 t recs.length) ((a.put rc.o.dst rv).tmps.getD t undef) := by
  obtain ⟨ho, _, hd, _, _, _⟩ := cx.idx i rc hi
  have hlt : i < listed.size := by rw [inv.lsz, ← cx.len]; exact nth_lt hi
  rw [put_get _ _ _ _ (by rw [inv.asz]; exact hd)]
  by_cases hdt : rc.o.dst = some t
  · rw [if_pos hdt, tvAt_stop (i := i + 1) (nth_lt hi) (fun k rk h1 h2 hk hkd => ?_)]
    · have : tvAt recs (LL (listed.setIfInBounds i true)) e0 t (i + 1) = rc.v := by
        show (match nth recs i with | some rc => if LL (listed.setIfInBounds i true) i = true ∧ rc.o.dst = some t then rc.v else _ | none => _) = _
        rw [hi]
        simp only []
        rw [if_pos ⟨by rw [LL_set hlt, if_pos rfl], hdt⟩]
      rw [this]
      exact hv
    · rw [LL_set hlt, if_neg (by omega)]
      have hr := cx.tmps i rc.o k rk.o ho (cx.idx k rk hk).1 t hkd (by unfold namesOf; rw [hdt]; simp) (by omega)
      rw [Nat.max_eq_left (by omega), Nat.min_eq_right (by omega)] at hr
      cases hlk : LL listed k with
      | false => rfl
      | true => rw [hr.mem inv.closed hlk] at hL; cases hL
  · rw [if_neg hdt, tvAt_congr (L' := LL listed) (fun k rk h1 hk hkd => ?_)]
    · exact (inv.tv t).mono hl
    · rw [LL_set hlt, if_neg]
      intro e; subst e
      rw [hi] at hk; cases hk
      exact hdt hkd
theorem Inv.closedput (cx : Cx P N ops recs e0 eN h0 hN) (inv : Inv ds P N ops recs e0 h0 hN ι0 w0 listed a w ι lo V) {i : Nat} {rc : Rec} (hi : nth recs i = some rc)
    (hrd : ∀ o, nth ops.toList i = some o → ∀ ed ∈ o.after.toList, bindE ed = true → LL listed ed.on = true) : Closed ops.toList (LL (listed.setIfInBounds i true)) := by
  have hlt : i < listed.size := by rw [inv.lsz, ← cx.len]; exact nth_lt hi
  intro j o ho hj ed he hb
  rw [LL_set hlt] at hj ⊢
  split
  · rfl
  · split at hj
    · rename_i h; subst h; exact hrd o ho ed he hb
    · exact inv.closed j o ho hj ed he hb
theorem LL_set_false (cx : Cx P N ops recs e0 eN h0 hN) (inv : Inv ds P N ops recs e0 h0 hN ι0 w0 listed a w ι lo V) {i : Nat} {rc : Rec} (hi : nth recs i = some rc) {k : Nat} (h : LL (listed.setIfInBounds i true) k = false) : k ≠ i ∧ LL listed k = false := by
  have hlt : i < listed.size := by rw [inv.lsz, ← cx.len]; exact nth_lt hi
  rw [LL_set hlt] at h
  split at h
  · cases h
  · rename_i hne; exact ⟨hne, h⟩
theorem LL_set_true (cx : Cx P N ops recs e0 eN h0 hN) (inv : Inv ds P N ops recs e0 h0 hN ι0 w0 listed a w ι lo V) {i : Nat} {rc : Rec} (hi : nth recs i = some rc) {k : Nat} (h : LL listed k = true) : LL (listed.setIfInBounds i true) k = true := by
  have hlt : i < listed.size := by rw [inv.lsz, ← cx.len]; exact nth_lt hi
  rw [LL_set hlt]
  split
  · rfl
  · exact h
/-- an operation that turns no memory -/
theorem Inv.quiet (cx : Cx P N ops recs e0 eN h0 hN) (inv : Inv ds P N ops recs e0 h0 hN ι0 w0 listed a w ι lo V) {i : Nat} {rc : Rec} (hi : nth recs i = some rc) (hL : LL listed i = false)
    (hrd : ∀ o, nth ops.toList i = some o → ∀ ed ∈ o.after.toList, bindE ed = true → LL listed ed.on = true) (hne : ¬ EffAt P recs i) (hnb : ∀ g, ¬ Born P recs i g) {rv : Value} (hv : VR ι rc.v rv) :
    Inv ds P N ops recs e0 h0 hN ι0 w0 (listed.setIfInBounds i true) (a.put rc.o.dst rv) w ι lo V where
  closed := inv.closedput cx hi hrd
  lsz := by simp [inv.lsz]
  asz := by rw [put_size]; exact inv.asz
  adf := by rw [put_defers]; exact inv.adf
  tv := inv.tvput cx hi hL (Le.refl ι) hv
  lole := inv.lole
  lo0 := by
    rcases inv.lo0 with h | ⟨k, h1, h2, h3⟩
    · exact .inl h
    · exact .inr ⟨k, h1, h2, LL_set_true cx inv hi h3⟩
  hiE k h1 h2 := by
    have hlt : i < listed.size := by rw [inv.lsz, ← cx.len]; exact nth_lt hi
    have hki : k ≠ i := fun e => by subst e; exact hne h2
    rw [LL_set hlt, if_neg hki]
    exact inv.hiE k h1 h2
  vn := inv.vn
  hr := inv.hr
  vold := inv.vold
  vnew g h1 h2 h3 := by
    obtain ⟨k, k1, k2, k3, k4⟩ := inv.vnew g h1 h2 h3
    exact ⟨k, k1, k2, LL_set_true cx inv hi k3, k4⟩
  unb k g h1 h2 := inv.unb k g h1 (LL_set_false cx inv hi h2).2
  kept k g h1 h2 h3 := inv.kept k g h1 (LL_set_false cx inv hi h2).2 h3
  oldn := inv.oldn
  farn := inv.farn
  samen := inv.samen
  fr := inv.fr
  cov := inv.cov
end
end Go.Proofs.Ytibngikhlgmhaaa.Gx

