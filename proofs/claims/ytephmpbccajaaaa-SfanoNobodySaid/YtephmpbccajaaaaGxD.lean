/- The plain machine and the model: what a new block, a store, a load do to both memories. No condition. -/
import Derived.Test.YtephmpbccajaaaaGxC
namespace Go.Proofs.Ytephmpbccajaaaa.Gx
open Go Go.RowKit
set_option linter.unusedVariables false

theorem beq_ne {x y : Nat} (h : x ≠ y) : Nat.beq x y = false := by
  cases e : Nat.beq x y with
  | false => rfl
  | true => exact (h (Nat.eq_of_beq_eq_true e)).elim
theorem beq_self (x : Nat) : Nat.beq x x = true := Nat.beq_refl x
theorem get_push_new (h : GH) (o : GObj) : (h.push o).get h.next = some o := by show (bif Nat.beq h.next h.next then _ else _) = _; rw [beq_self]; rfl
theorem get_push_ne (h : GH) (o : GObj) {x : Nat} (hx : x ≠ h.next) : (h.push o).get x = h.get x := by show (bif Nat.beq x h.next then _ else _) = _; rw [beq_ne hx]; rfl
theorem get_put_same (h : GH) (g : Nat) (o : Option GObj) : (h.put g o).get g = o := by show (bif Nat.beq g g then _ else _) = _; rw [beq_self]; rfl
theorem get_put_ne (h : GH) {g : Nat} (o : Option GObj) {x : Nat} (hx : x ≠ g) : (h.put g o).get x = h.get x := by show (bif Nat.beq x g then _ else _) = _; rw [beq_ne hx]; rfl
/-! ### worlds -/
theorem heap_setCells_size (b : Nat) : ∀ (vs : List Value) (o : Nat) (w : World), (w.setCells b o vs).heap.size = w.heap.size
  | [], _, _ => rfl
  | v :: r, o, w => by rw [World.setCells, heap_setCells_size b r]; simp [World.setCell]
theorem heap_setCells_ne (b : Nat) : ∀ (vs : List Value) (o : Nat) (w : World) (k : Nat), k ≠ b → (w.setCells b o vs).heap[k]? = w.heap[k]?
  | [], _, _, _, _ => rfl
  | v :: r, o, w, k, hk => by rw [World.setCells, heap_setCells_ne b r _ _ _ hk, Below.heap_setCell _ _ _ _ hk]
theorem setCells_os (b : Nat) : ∀ (vs : List Value) (o : Nat) (w : World), (w.setCells b o vs).os = w.os ∧ (w.setCells b o vs).tape = w.tape ∧ (w.setCells b o vs).output = w.output
  | [], _, _ => ⟨rfl, rfl, rfl⟩
  | v :: r, o, w => by rw [World.setCells]; exact setCells_os b r (o + 1) _
theorem isSome_setCells' (b : Nat) (vs : List Value) (o : Nat) (w : World) (x : Addr) (h : (w.cell? x).isSome = true) : ((w.setCells b o vs).cell? x).isSome = true := World.isSome_setCells b vs o w x h
/-- a world with one block more, behind draws -/
theorem cell_new (w : World) (k : Nat) (rc : Array Value) (el : TypeId) (i : Nat) : ((w.drewN k).alloc (.cells rc el)).cell? ⟨w.heap.size, i, none⟩ = rc[i]? := by
  have : ((w.drewN k).alloc (.cells rc el)).heap[w.heap.size]? = some (.cells rc el) := by simp [World.alloc, World.drewN]
  unfold World.cell?; simp only []; rw [this]; simp
theorem frozen_new (w : World) (k : Nat) (rc : Array Value) (el : TypeId) (i : Nat) : ((w.drewN k).alloc (.cells rc el)).frozen? ⟨w.heap.size, i, none⟩ = false := by
  have : ((w.drewN k).alloc (.cells rc el)).heap[w.heap.size]? = some (.cells rc el) := by simp [World.alloc, World.drewN]
  unfold World.frozen?; simp only []; rw [this]; simp
theorem heap_old (w : World) (k : Nat) (o : Obj) (b : Nat) (hb : b < w.heap.size) : ((w.drewN k).alloc o).heap[b]? = w.heap[b]? := by
  simp [World.alloc, World.drewN, Array.getElem?_push]; omega
theorem cell_of_heap {w w' : World} {b : Nat} (h : w'.heap[b]? = w.heap[b]?) (i : Nat) : w'.cell? ⟨b, i, none⟩ = w.cell? ⟨b, i, none⟩ := by simp [World.cell?, h]
theorem frozen_of_heap {w w' : World} {b : Nat} (h : w'.heap[b]? = w.heap[b]?) (i : Nat) : w'.frozen? ⟨b, i, none⟩ = w.frozen? ⟨b, i, none⟩ := by simp [World.frozen?, h]
theorem fz_of_heap {w w' : World} {b : Nat} (h : w'.heap[b]? = w.heap[b]?) (hf : FzOk w b) : FzOk w' b := by
  obtain ⟨c, e, lo, hi, h1, h2⟩ := hf; exact ⟨c, e, lo, hi, h.trans h1, h2⟩
theorem fz_new (w : World) (k : Nat) (rc : Array Value) (el : TypeId) : FzOk ((w.drewN k).alloc (.cells rc el)) w.heap.size :=
  ⟨rc, el, 0, 0, by simp [World.alloc, World.drewN], .inl rfl⟩
theorem fz_setCells (b : Nat) : ∀ (vs : List Value) (o : Nat) (w : World) (k : Nat), FzOk w k → FzOk (w.setCells b o vs) k
  | [], _, _, _, h => h
  | v :: vs, o, w, k, h => by
    refine fz_setCells b vs (o + 1) _ k ?_
    obtain ⟨c, e, lo, hi, h1, h2⟩ := h
    by_cases hk : k = b
    · subst hk
      obtain ⟨hlt, hk'⟩ := Array.getElem?_eq_some_iff.1 h1
      refine ⟨c.setIfInBounds o v, e, lo, hi, ?_, by simpa using h2⟩
      show (w.heap.modify k _)[k]? = some _
      rw [Array.getElem?_eq_getElem (by rw [Array.size_modify]; exact hlt), Array.getElem_modify_self, hk']
      rfl
    · refine ⟨c, e, lo, hi, ?_, h2⟩
      show (w.heap.modify b _)[k]? = some _
      rw [Array.getElem?_modify, if_neg (Ne.symm hk)]; exact h1
theorem Fr.alloc (D : Nat → Nat → Prop) (w : World) (k : Nat) (o : Obj) : Fr D w ((w.drewN k).alloc o) :=
  ⟨rfl, rfl, rfl, by simp [World.alloc, World.drewN], fun b i hb _ => cell_of_heap (heap_old w k o b hb) i, fun b i hb h => by rw [cell_of_heap (heap_old w k o b hb) i]; exact h,
   fun b hb => fz_of_heap (heap_old w k o b hb), fun b hb _ => heap_old w k o b hb⟩
theorem Fr.drew (D : Nat → Nat → Prop) (w : World) (k : Nat) : Fr D w (w.drewN k) := ⟨rfl, rfl, rfl, Nat.le_refl _, fun _ _ _ _ => rfl, fun _ _ _ h => h, fun _ _ h => h, fun _ _ _ => rfl⟩
theorem Fr.setCells {D : Nat → Nat → Prop} (w : World) (b o : Nat) (vs : List Value) (hd : ∀ i, o ≤ i → i < o + vs.length → D b i) (hv : vs ≠ []) : Fr D w (w.setCells b o vs) := by
  obtain ⟨h1, h2, h3⟩ := setCells_os b vs o w
  refine ⟨h1, h2, h3, by rw [heap_setCells_size]; exact Nat.le_refl _, fun x i hx hn => World.cell?_setCells_out b vs o w _ (fun e _ => ?_), fun x i hx h => isSome_setCells' b vs o w _ h, fun x hx => fz_setCells b vs o w x, fun x hx hn => ?_⟩
  · simp at e; subst e
    show i < o ∨ o + vs.length ≤ i
    rcases Nat.lt_or_ge i o with h | h
    · exact .inl h
    · rcases Nat.lt_or_ge i (o + vs.length) with h' | h'
      · exact (hn (hd i h h')).elim
      · exact .inr h'
  · refine heap_setCells_ne b vs o w x (fun e => ?_)
    subst e
    have : 0 < vs.length := by cases vs with | nil => exact (hv rfl).elim | cons => simp
    exact hn o (hd o (Nat.le_refl _) (by omega))

/-! ### the names -/
def upd (ι : Inj) (g : Nat) (s : St) : Inj := fun x => if x = g then s else ι x
theorem upd_same (ι : Inj) (g : Nat) (s : St) : upd ι g s g = s := by simp [upd]
theorem upd_ne (ι : Inj) {g x : Nat} (s : St) (h : x ≠ g) : upd ι g s x = ι x := by simp [upd, h]
theorem Le.born {ι : Inj} {g : Nat} (s : St) (h : ι g = .unborn) : Le ι (upd ι g s) := fun x => by
  by_cases e : x = g
  · subst e; exact .inl h
  · exact .inr (.inl (upd_ne ι s e))
theorem Le.kill (ι : Inj) (g : Nat) : Le ι (upd ι g .dead) := fun x => by
  by_cases e : x = g
  · subst e; exact .inr (.inr (upd_same ι x .dead))
  · exact .inr (.inl (upd_ne ι .dead e))
theorem Le.trans {a b c : Inj} (h : Le a b) (k : Le b c) : Le a c := fun g => by
  rcases h g with e | e | e
  · exact .inl e
  · rcases k g with e' | e' | e'
    · exact .inl (e ▸ e')
    · exact .inr (.inl (e'.trans e))
    · exact .inr (.inr e')
  · rcases k g with e' | e' | e'
    · rw [e] at e'; cases e'
    · exact .inr (.inr (e'.trans e))
    · exact .inr (.inr e')
theorem RowOk.mono {ι ι' : Inj} (hl : Le ι ι') {p : Pl} {b : Blk} {w w' : World} (h : RowOk ι p b w) (hc : ∀ i, i < p.size → w'.cell? ⟨p.blk, p.off + i, none⟩ = w.cell? ⟨p.blk, p.off + i, none⟩)
    (hr : p.ro = false → (FzOk w p.blk → FzOk w' p.blk) ∧ ∀ i, p.off ≤ i → i < p.ext → (w.cell? ⟨p.blk, i, none⟩).isSome = true → (w'.cell? ⟨p.blk, i, none⟩).isSome = true) : RowOk ι' p b w' :=
  ⟨h.size, h.esz, h.ro, h.ext, fun i v hv => by
      obtain ⟨r, hr, hv'⟩ := h.cell i v hv
      have hi : i < p.size := by rw [← h.size]; rw [nth_eq] at hv; exact (List.getElem?_eq_some_iff.1 hv).1
      exact ⟨r, (hc i hi).trans hr, hv'.mono hl⟩,
   fun hro => ⟨(hr hro).1 (h.room hro).1, fun i h1 h2 => (hr hro).2 i h1 h2 ((h.room hro).2 i h1 h2)⟩⟩
theorem ObjOk.row {ι : Inj} {p : Pl} {o : Option GObj} {w : World} {b : Blk} (h : ObjOk ι p o w) (hb : o = some (.row b)) : RowOk ι p b w := by subst hb; exact h
theorem ObjOk.mono {ι ι' : Inj} (hl : Le ι ι') {p : Pl} {o : Option GObj} {w w' : World} (h : ObjOk ι p o w) (hc : ∀ i, p.off ≤ i → i < p.ext → w'.cell? ⟨p.blk, i, none⟩ = w.cell? ⟨p.blk, i, none⟩)
    (hr : p.ro = false → (FzOk w p.blk → FzOk w' p.blk) ∧ ∀ i, p.off ≤ i → i < p.ext → (w.cell? ⟨p.blk, i, none⟩).isSome = true → (w'.cell? ⟨p.blk, i, none⟩).isSome = true)
    (hm : ∀ es, o = some (.map es) → ∀ ents c, w.heap[p.blk]? = some (.map ents c) → w'.heap[p.blk]? = some (.map ents c)) : ObjOk ι' p o w' := by
  unfold ObjOk at *
  split at h
  · have := h.ext
    exact h.mono hl (fun i hi => hc _ (by omega) (by omega)) hr
  · obtain ⟨h1, h2, h3, ents, c, h4, h5⟩ := h
    exact ⟨h1, h2, h3, ents, c, hm _ rfl _ _ h4, h5.mono fun a b hab => ⟨hab.1.mono hl, hab.2.mono hl⟩⟩
  · exact h
theorem heap_setCells_map (b : Nat) : ∀ (vs : List Value) (o : Nat) (w : World) (k : Nat) (ents : Array MapEntry) (c : Nat), w.heap[k]? = some (.map ents c) → (w.setCells b o vs).heap[k]? = some (.map ents c)
  | [], _, _, _, _, _, h => h
  | v :: vs, o, w, k, ents, c, h => by
    refine heap_setCells_map b vs (o + 1) _ k ents c ?_
    by_cases e : k = b
    · subst e
      obtain ⟨hlt, hk'⟩ := Array.getElem?_eq_some_iff.1 h
      show (w.heap.modify k _)[k]? = some _
      rw [Array.getElem?_eq_getElem (by rw [Array.size_modify]; exact hlt), Array.getElem_modify_self, hk']
    · show (w.heap.modify b _)[k]? = some _
      rw [Array.getElem?_modify, if_neg (Ne.symm e)]; exact h
theorem cell_of_map {w : World} {k : Nat} {ents : Array MapEntry} {c : Nat} (h : w.heap[k]? = some (.map ents c)) (i : Nat) : w.cell? ⟨k, i, none⟩ = none ∧ w.frozen? ⟨k, i, none⟩ = false := by
  constructor
  · simp [World.cell?, h]
  · simp [World.frozen?, h]

/-- A new block, of whatever kind. -/
theorem newobj_stp {ι : Inj} {h : GH} {w : World} (g : Good ι h (h.next + 1) w) (k : Nat) (ob : Obj) (go : GObj) (pl : Pl) (hblk : pl.blk = w.heap.size) (hok : ∀ ι', Le ι ι' → ObjOk ι' pl (some go) ((w.drewN k).alloc ob)) :
    Stp h ι w (h.push go) (upd ι h.next (.live pl)) ((w.drewN k).alloc ob) := by
  have hu : ι h.next = .unborn := g.free _ (Nat.le_refl _) (Nat.lt_succ_self _)
  have hl : Le ι (upd ι h.next (.live pl)) := Le.born _ hu
  have hsz : ((w.drewN k).alloc ob).heap.size = w.heap.size + 1 := by simp [World.alloc, World.drewN]
  refine ⟨Nat.le_succ _, fun x hx => .inl (upd_ne _ _ (by omega)), fun x hx => upd_ne _ _ (by have : h.next + 1 ≤ x := hx; omega), ⟨?_, ?_, ?_, ?_⟩, fun x hx _ => ?_, Fr.alloc _ w k _, ?_⟩
  · intro x p hx hp
    by_cases e : x = h.next
    · subst e
      rw [upd_same] at hp
      cases hp
      have : (h.push go).get h.next = some go := get_push_new h _
      rw [this]
      exact hok _ hl
    · rw [upd_ne _ _ e] at hp
      have hx' : x < h.next := by have : x < h.next + 1 := hx; omega
      have hg : (h.push go).get x = h.get x := get_push_ne h _ e
      rw [hg]
      have hin := g.hr.inb x p hp
      exact (g.hr.obj x p hx' hp).mono hl (fun i _ _ => cell_of_heap (heap_old w k _ _ hin) _) (fun _ => ⟨fz_of_heap (heap_old w k _ _ hin), fun i _ _ hh => by rw [cell_of_heap (heap_old w k _ _ hin)]; exact hh⟩) (fun _ _ ents c hh => (heap_old w k _ _ hin).trans hh)
  · intro x hx hd
    have e : x ≠ h.next := fun e => by subst e; rw [upd_same] at hd; cases hd
    rw [upd_ne _ _ e] at hd
    have : x < h.next + 1 := hx
    have hg : (h.push go).get x = h.get x := get_push_ne h _ e
    rw [hg]
    exact g.hr.dead x (by omega) hd
  · intro x y p q hp hq hne hb
    by_cases e : x = h.next
    · subst e
      rw [upd_same] at hp; cases hp
      rw [upd_ne _ _ (Ne.symm hne)] at hq
      have := g.hr.inb y q hq
      omega
    · rw [upd_ne _ _ e] at hp
      by_cases e' : y = h.next
      · subst e'
        rw [upd_same] at hq; cases hq
        have := g.hr.inb x p hp
        omega
      · rw [upd_ne _ _ e'] at hq
        exact g.hr.apart x y p q hp hq hne hb
  · intro x p hp
    by_cases e : x = h.next
    · subst e; rw [upd_same] at hp; cases hp; omega
    · rw [upd_ne _ _ e] at hp
      have := g.hr.inb x p hp
      omega
  · exact get_push_ne h _ (by omega)
  · rintro b i hb ⟨x, p, hx, hp, hro, hpb, h1, h2⟩
    by_cases e : x = h.next
    · subst e; rw [upd_same] at hp; cases hp; omega
    · rw [upd_ne _ _ e] at hp
      exact ⟨x, p, by have : x < h.next + 1 := hx; omega, hp, hro, hpb, h1, h2⟩
/-- A new row. -/
theorem new_stp {ι : Inj} {h : GH} {w : World} (g : Good ι h (h.next + 1) w) (k : Nat) (rc : Array Value) (el : TypeId) (cs : List Value) (esz : Nat) (hs : cs.length ≤ rc.size)
    (hc : ∀ i v, nth cs i = some v → ∃ r, rc[i]? = some r ∧ VR ι v r) :
    Stp h ι w (h.push (.row ⟨cs, esz, false⟩)) (upd ι h.next (.live ⟨w.heap.size, 0, cs.length, rc.size, esz, false⟩)) ((w.drewN k).alloc (.cells rc el)) :=
  newobj_stp g k (.cells rc el) (.row ⟨cs, esz, false⟩) ⟨w.heap.size, 0, cs.length, rc.size, esz, false⟩ rfl fun ι' hl => ⟨rfl, rfl, rfl, by simpa using hs, fun i v hv => by
        obtain ⟨r, hr, hv'⟩ := hc i v hv
        exact ⟨r, by simpa [cell_new] using hr, hv'.mono hl⟩, fun _ => ⟨fz_new w k rc el, fun i _ h2 => by simp [cell_new]; exact h2⟩⟩
/-- A new map. -/
theorem newmap_stp {ι : Inj} {h : GH} {w : World} (g : Good ι h (h.next + 1) w) :
    Stp h ι w (h.push (.map [])) (upd ι h.next (.live ⟨w.heap.size, 0, 0, 1, 0, false⟩)) (w.alloc (.map #[] 0)) := by
  refine newobj_stp g 0 (.map #[] 0) (.map []) ⟨w.heap.size, 0, 0, 1, 0, false⟩ rfl fun ι' hl => ⟨rfl, rfl, rfl, #[], 0, ?_, .nil⟩
  show (w.heap.push (.map #[] 0))[w.heap.size]? = _
  simp

/-- A block is no more. -/
theorem kill_stp {ι : Inj} {h : GH} {w : World} (hr : HR ι h w) {g : Nat} {p : Pl} (hg : g < h.next) (hp : ι g = .live p) (hro : p.ro = false) : Stp h ι w (h.put g none) (upd ι g .dead) w := by
  have hl := Le.kill ι g
  have hne : ∀ x q, upd ι g .dead x = .live q → x ≠ g ∧ ι x = .live q := fun x q hx => by
    have e : x ≠ g := fun e => by subst e; rw [upd_same] at hx; cases hx
    exact ⟨e, by rwa [upd_ne _ _ e] at hx⟩
  refine ⟨Nat.le_refl _, fun x hx => ?_, fun x hx => upd_ne _ _ (by have : h.next ≤ x := hx; omega), ⟨?_, ?_, ?_, ?_⟩, fun x hx hu => ?_, Fr.refl _ _, ?_⟩
  · by_cases e : x = g
    · subst e; exact .inr ⟨⟨p, hp, hro⟩, upd_same _ _ _⟩
    · exact .inl (upd_ne _ _ e)
  · intro x q hx hq
    obtain ⟨e, hq⟩ := hne x q hq
    have he : (h.put g none).get x = h.get x := get_put_ne h _ e
    rw [he]
    exact (hr.obj x q hx hq).mono hl (fun _ _ _ => rfl) (fun _ => ⟨fun hh => hh, fun _ _ _ hh => hh⟩) (fun _ _ _ _ hh => hh)
  · intro x hx hd
    by_cases e : x = g
    · subst e; exact get_put_same h _ _
    · rw [upd_ne _ _ e] at hd
      have he : (h.put g none).get x = h.get x := get_put_ne h _ e
      rw [he]; exact hr.dead x hx hd
  · intro x y q q' hq hq' hn hb
    exact hr.apart x y q q' (hne x q hq).2 (hne y q' hq').2 hn hb
  · intro x q hq
    exact hr.inb x q (hne x q hq).2
  · have e : x ≠ g := fun e => by subst e; rw [hu] at hp; cases hp
    exact get_put_ne h _ e
  · rintro b i hb ⟨x, q, hx, hq, rest⟩
    exact ⟨x, q, hx, (hne x q hq).2, rest⟩

/-- A store. -/
theorem put_stp {ι : Inj} {h : GH} {w : World} (hr : HR ι h w) {g : Nat} {p : Pl} {b : Blk} (hg : g < h.next) (hp : ι g = .live p) (hb : h.get g = some (.row b)) (hro : b.ro = false)
    (o : Nat) (vs rs : List Value) (hle : o + vs.length ≤ b.cells.length) (hv : All2 (VR ι) vs rs) :
    Stp h ι w (h.put g (some (.row { b with cells := nlay b.cells o vs }))) ι (w.setCells p.blk (p.off + o) rs) := by
  have ok := (hr.obj g p hg hp).row hb
  have hlen := hv.length
  have hpro : p.ro = false := ok.ro ▸ hro
  have hsz := ok.size
  have hext := ok.ext
  have hcov : ∀ i, p.off + o ≤ i → i < p.off + o + rs.length → Cov h.next ι p.blk i := fun i h1 h2 => ⟨g, p, hg, hp, hpro, rfl, by omega, by omega⟩
  have fr : Fr (Cov h.next ι) w (w.setCells p.blk (p.off + o) rs) := by
    by_cases hrs : rs = []
    · subst hrs; exact Fr.refl _ _
    · exact Fr.setCells w _ _ rs hcov hrs
  refine ⟨Nat.le_refl _, fun _ _ => .inl rfl, fun _ _ => rfl, ⟨?_, ?_, hr.apart, fun x q hq => by rw [heap_setCells_size]; exact hr.inb x q hq⟩, fun x hx hu => ?_, fr, fun _ _ _ hh => hh⟩
  · intro x q hx hq
    by_cases e : x = g
    · subst e
      rw [hp] at hq; cases hq
      have : (h.put x (some (.row { b with cells := nlay b.cells o vs }))).get x = some (.row { b with cells := nlay b.cells o vs }) := get_put_same h _ _
      rw [this]
      refine ⟨by simp [nlay_length hle, hsz], ok.esz, ok.ro, ok.ext, fun i v hv' => ?_, fun hr' => ⟨fz_setCells _ _ _ _ _ (ok.room hr').1, fun i h1 h2 => isSome_setCells' _ _ _ _ _ ((ok.room hr').2 i h1 h2)⟩⟩
      · simp only [nth_nlay hle] at hv'
        split at hv'
        · rename_i hi
          obtain ⟨r, hr1, hr2⟩ := hv.get hv'
          have hj : i - o < rs.length := by omega
          refine ⟨r, ?_, hr2⟩
          have hin := World.cell?_setCells_in p.blk rs (p.off + o) w (fun j hj => (ok.room hpro).2 _ (by omega) (by omega)) (i - o) hj
          rw [show p.off + o + (i - o) = p.off + i by omega] at hin
          rw [hin, nth_eq] at *
          rw [← hr1]
          exact (List.getElem?_eq_getElem hj).symm
        · rename_i hi
          obtain ⟨r, hr1, hr2⟩ := ok.cell i v hv'
          refine ⟨r, ?_, hr2⟩
          rw [World.cell?_setCells_out p.blk rs (p.off + o) w _ (fun _ _ => ?_)]
          · exact hr1
          · show p.off + i < p.off + o ∨ p.off + o + rs.length ≤ p.off + i
            omega
    · have he : (h.put g (some (.row { b with cells := nlay b.cells o vs }))).get x = h.get x := get_put_ne h _ e
      rw [he]
      refine (hr.obj x q hx hq).mono (Le.refl _) (fun i h1 h2 => World.cell?_setCells_out _ _ _ _ _ (fun e1 _ => ?_)) (fun _ => ⟨fz_setCells _ _ _ _ _, fun i _ _ hh => isSome_setCells' _ _ _ _ _ hh⟩) (fun _ _ ents c hh => heap_setCells_map _ _ _ _ _ _ _ hh)
      simp at e1
      show i < p.off + o ∨ p.off + o + rs.length ≤ i
      rcases hr.apart x g q p hq hp e e1 with ⟨_, h2⟩ | h2 | h2
      · rw [hpro] at h2; cases h2
      · omega
      · omega
  · intro x hx hd
    have e : x ≠ g := fun e => by subst e; rw [hp] at hd; cases hd
    have he : (h.put g (some (.row { b with cells := nlay b.cells o vs }))).get x = h.get x := get_put_ne h _ e
    rw [he]; exact hr.dead x hx hd
  · have e : x ≠ g := fun e => by subst e; rw [hu] at hp; cases hp
    exact get_put_ne h _ e

/-- A block that is taken on where it lies: the elder one is no more, the new one has its place. -/
theorem grow_stp {ι : Inj} {h : GH} {w : World} (gd : Good ι h (h.next + 1) w) {g : Nat} {p : Pl} {b : Blk} (hg : g < h.next) (hp : ι g = .live p) (hb : h.get g = some (.row b)) (hro : b.ro = false)
    (m0 : Nat) (olds vs rs : List Value) (hm0 : m0 ≤ b.cells.length) (holds : olds = b.cells.take m0) (hv : All2 (VR ι) vs rs) (hfit : p.off + m0 + vs.length ≤ p.ext) (hne : vs ≠ []) :
    Stp h ι w ((h.put g none).push (.row ⟨olds ++ vs, b.esz, false⟩)) (upd (upd ι g .dead) h.next (.live ⟨p.blk, p.off, olds.length + vs.length, p.ext, b.esz, false⟩)) (w.setCells p.blk (p.off + m0) rs) := by
  have hr := gd.hr
  have hu : ι h.next = .unborn := gd.free _ (Nat.le_refl _) (Nat.lt_succ_self _)
  have ok := (hr.obj g p hg hp).row hb
  have hlen := hv.length
  have hpro : p.ro = false := ok.ro ▸ hro
  have hsz := ok.size
  have hol : olds.length = m0 := by rw [holds]; simp; omega
  have hcov : ∀ i, p.off + m0 ≤ i → i < p.off + m0 + rs.length → Cov h.next ι p.blk i := fun i h1 h2 => ⟨g, p, hg, hp, hpro, rfl, by omega, by omega⟩
  have hrs : rs ≠ [] := fun e => by subst e; simp at hlen; exact hne hlen
  have fr : Fr (Cov h.next ι) w (w.setCells p.blk (p.off + m0) rs) := Fr.setCells w _ _ rs hcov hrs
  have hnn : h.next ≠ g := by omega
  have hl : Le ι (upd (upd ι g .dead) h.next (.live ⟨p.blk, p.off, olds.length + vs.length, p.ext, b.esz, false⟩)) := (Le.kill ι g).trans (Le.born _ (by rw [upd_ne _ _ hnn]; exact hu))
  have hcase : ∀ x q, upd (upd ι g .dead) h.next (.live ⟨p.blk, p.off, olds.length + vs.length, p.ext, b.esz, false⟩) x = .live q →
      (x = h.next ∧ q = ⟨p.blk, p.off, olds.length + vs.length, p.ext, b.esz, false⟩) ∨ (x ≠ h.next ∧ x ≠ g ∧ ι x = .live q) := fun x q hx => by
    by_cases e : x = h.next
    · subst e; rw [upd_same] at hx; cases hx; exact .inl ⟨rfl, rfl⟩
    · rw [upd_ne _ _ e] at hx
      have e' : x ≠ g := fun e' => by subst e'; rw [upd_same] at hx; cases hx
      rw [upd_ne _ _ e'] at hx
      exact .inr ⟨e, e', hx⟩
  have hget : ∀ x, x ≠ h.next → x ≠ g → ((h.put g none).push (.row ⟨olds ++ vs, b.esz, false⟩)).get x = h.get x := fun x e e' => by
    rw [get_push_ne (h.put g none) _ e, get_put_ne h _ e']
  refine ⟨Nat.le_succ _, fun x hx => ?_, fun x hx => ?_, ⟨?_, ?_, ?_, ?_⟩, fun x hx hu' => ?_, fr, ?_⟩
  · rw [upd_ne _ _ (by omega : x ≠ h.next)]
    by_cases e : x = g
    · subst e; exact .inr ⟨⟨p, hp, hpro⟩, upd_same _ _ _⟩
    · exact .inl (upd_ne _ _ e)
  · have hx' : h.next + 1 ≤ x := hx
    rw [upd_ne _ _ (by omega : x ≠ h.next), upd_ne _ _ (by omega : x ≠ g)]
  · intro x q hx hq
    rcases hcase x q hq with ⟨rfl, rfl⟩ | ⟨e, e', hq⟩
    · have : ((h.put g none).push (.row ⟨olds ++ vs, b.esz, false⟩)).get h.next = some (.row ⟨olds ++ vs, b.esz, false⟩) := by
        exact get_push_new (h.put g none) _
      rw [this]
      refine ⟨by simp, rfl, rfl, by show p.off + (olds.length + vs.length) ≤ p.ext; omega, fun i v hv' => ?_, fun _ => ⟨fz_setCells _ _ _ _ _ (ok.room hpro).1, fun i h1 h2 => isSome_setCells' _ _ _ _ _ ((ok.room hpro).2 i h1 h2)⟩⟩
      · show ∃ r, (w.setCells p.blk (p.off + m0) rs).cell? ⟨p.blk, p.off + i, none⟩ = some r ∧ _
        simp only [nth_eq] at hv'
        by_cases hi : i < olds.length
        · rw [List.getElem?_append_left hi, holds, List.getElem?_take, if_pos (by omega), ← nth_eq] at hv'
          obtain ⟨r, hr1, hr2⟩ := ok.cell _ v hv'
          refine ⟨r, ?_, hr2.mono hl⟩
          rw [World.cell?_setCells_out _ _ _ _ _ (fun _ _ => .inl (by show p.off + i < p.off + m0; omega))]
          exact hr1
        · rw [List.getElem?_append_right (by omega), ← nth_eq] at hv'
          obtain ⟨r, hr1, hr2⟩ := hv.get hv'
          have hj : i - olds.length < rs.length := by rw [nth_eq] at hr1; exact (List.getElem?_eq_some_iff.1 hr1).1
          have hin := World.cell?_setCells_in p.blk rs (p.off + m0) w (fun j hj => (ok.room hpro).2 _ (by omega) (by omega)) (i - olds.length) hj
          rw [show p.off + m0 + (i - olds.length) = p.off + i by omega] at hin
          refine ⟨r, ?_, hr2.mono hl⟩
          rw [hin, ← hr1, nth_eq]
          exact (List.getElem?_eq_getElem hj).symm
    · rw [hget x e e']
      have hx' : x < h.next + 1 := hx
      refine (hr.obj x q (by omega) hq).mono hl (fun i h1 h2 => World.cell?_setCells_out _ _ _ _ _ (fun e1 _ => ?_)) (fun _ => ⟨fz_setCells _ _ _ _ _, fun i _ _ hh => isSome_setCells' _ _ _ _ _ hh⟩) (fun _ _ ents c hh => heap_setCells_map _ _ _ _ _ _ _ hh)
      simp at e1
      show i < p.off + m0 ∨ p.off + m0 + rs.length ≤ i
      rcases hr.apart x g q p hq hp e' e1 with ⟨_, h2⟩ | h2 | h2
      · rw [hpro] at h2; cases h2
      · omega
      · omega
  · intro x hx hd
    have hx' : x < h.next + 1 := hx
    have e : x ≠ h.next := fun e => by subst e; rw [upd_same] at hd; cases hd
    rw [upd_ne _ _ e] at hd
    by_cases e' : x = g
    · subst e'
      rw [get_push_ne (h.put x none) _ e, get_put_same]
    · rw [upd_ne _ _ e'] at hd
      rw [hget x e e']; exact hr.dead x (by omega) hd
  · intro x y q q' hq hq' hn hbk
    rcases hcase x q hq with ⟨rfl, rfl⟩ | ⟨e, e', hq⟩
    · rcases hcase y q' hq' with ⟨rfl, rfl⟩ | ⟨e2, e2', hq'⟩
      · exact (hn rfl).elim
      · rcases hr.apart g y p q' hp hq' (Ne.symm e2') hbk with ⟨h1, _⟩ | h2 | h2
        · rw [hpro] at h1; cases h1
        · exact .inr (.inl h2)
        · exact .inr (.inr (by show q'.ext ≤ p.off; omega))
    · rcases hcase y q' hq' with ⟨rfl, rfl⟩ | ⟨e2, e2', hq'⟩
      · rcases hr.apart x g q p hq hp e' hbk with ⟨_, h1⟩ | h2 | h2
        · rw [hpro] at h1; cases h1
        · exact .inr (.inl (by show q.ext ≤ p.off; omega))
        · exact .inr (.inr h2)
      · exact hr.apart x y q q' hq hq' hn hbk
  · intro x q hq
    rw [heap_setCells_size]
    rcases hcase x q hq with ⟨rfl, rfl⟩ | ⟨_, _, hq⟩
    · exact hr.inb g p hp
    · exact hr.inb x q hq
  · have e' : x ≠ g := fun e => by subst e; rw [hu'] at hp; cases hp
    exact hget x (by omega) e'
  · rintro bb i hbb ⟨x, q, hx, hq, hqro, hqb, h1, h2⟩
    rcases hcase x q hq with ⟨rfl, rfl⟩ | ⟨e, e', hq⟩
    · exact ⟨g, p, hg, hp, hpro, hqb, h1, h2⟩
    · exact ⟨x, q, by have : x < h.next + 1 := hx; omega, hq, hqro, hqb, h1, h2⟩

/-- A map's entries put anew. -/
theorem putmap_stp {ι : Inj} {h : GH} {w : World} (hr : HR ι h w) {g : Nat} {p : Pl} {es es' : List (Value × Value)} (hg : g < h.next) (hp : ι g = .live p) (hb : h.get g = some (.map es))
    (ents' : Array MapEntry) (c' : Nat) (hv : All2 (MR ι) es' ents'.toList) :
    Stp h ι w (h.put g (some (.map es'))) ι { w with heap := w.heap.setIfInBounds p.blk (.map ents' c') } := by
  have ok : MapOk ι p es w := by have := hr.obj g p hg hp; rw [hb] at this; exact this
  obtain ⟨k1, k2, k3, ents, c, k4, k5⟩ := ok
  have hin := hr.inb g p hp
  have hset : (w.heap.setIfInBounds p.blk (.map ents' c'))[p.blk]? = some (.map ents' c') := by simp [hin]
  have hsame : ∀ b, b ≠ p.blk → (w.heap.setIfInBounds p.blk (.map ents' c'))[b]? = w.heap[b]? := fun b hb => by simp [Ne.symm hb]
  have hcell : ∀ b i, ({ w with heap := w.heap.setIfInBounds p.blk (.map ents' c') } : World).cell? ⟨b, i, none⟩ = w.cell? ⟨b, i, none⟩ ∧ ({ w with heap := w.heap.setIfInBounds p.blk (.map ents' c') } : World).frozen? ⟨b, i, none⟩ = w.frozen? ⟨b, i, none⟩ := fun b i => by
    by_cases e : b = p.blk
    · subst e
      have q1 := cell_of_map k4 i
      have q2 := cell_of_map (w := { w with heap := w.heap.setIfInBounds p.blk (.map ents' c') }) hset i
      exact ⟨q2.1.trans q1.1.symm, q2.2.trans q1.2.symm⟩
    · exact ⟨cell_of_heap (hsame b e) i, frozen_of_heap (hsame b e) i⟩
  have hfz : ∀ b, FzOk w b → FzOk { w with heap := w.heap.setIfInBounds p.blk (.map ents' c') } b := fun b hf => by
    by_cases e : b = p.blk
    · subst e
      obtain ⟨_, _, _, _, h1, _⟩ := hf
      rw [k4] at h1; cases h1
    · exact fz_of_heap (w := w) (w' := { w with heap := w.heap.setIfInBounds p.blk (.map ents' c') }) (hsame b e) hf
  refine ⟨Nat.le_refl _, fun _ _ => .inl rfl, fun _ _ => rfl, ⟨?_, ?_, hr.apart, fun x q hq => by simpa using hr.inb x q hq⟩, fun x hx hu => ?_, ⟨rfl, rfl, rfl, by simp, fun b i _ _ => (hcell b i).1, fun b i _ hh => by rw [(hcell b i).1]; exact hh, fun b _ => hfz b, fun b hbl hn => ?_⟩, fun _ _ _ hh => hh⟩
  · intro x q hx hq
    by_cases e : x = g
    · subst e
      rw [hp] at hq; cases hq
      have : (h.put x (some (.map es'))).get x = some (.map es') := get_put_same h _ _
      rw [this]
      exact ⟨k1, k2, k3, ents', c', hset, hv⟩
    · have he : (h.put g (some (.map es'))).get x = h.get x := get_put_ne h _ e
      rw [he]
      refine (hr.obj x q hx hq).mono (Le.refl _) (fun i _ _ => (hcell _ i).1) (fun _ => ⟨hfz _, fun i _ _ hh => by rw [(hcell _ i).1]; exact hh⟩) (fun es2 he2 ents2 c2 hh => ?_)
      by_cases e2 : q.blk = p.blk
      · exfalso
        have okx := hr.obj x q hx hq
        rw [he2] at okx
        rcases hr.apart x g q p hq hp e e2 with ⟨_, h2⟩ | h2 | h2
        · rw [k1] at h2; cases h2
        · have := okx.ext; omega
        · have := okx.off; omega
      · exact (hsame _ e2).trans hh
  · intro x hx hd
    have e : x ≠ g := fun e => by subst e; rw [hp] at hd; cases hd
    have he : (h.put g (some (.map es'))).get x = h.get x := get_put_ne h _ e
    rw [he]; exact hr.dead x hx hd
  · have e : x ≠ g := fun e => by subst e; rw [hu] at hp; cases hp
    exact get_put_ne h _ e
  · refine hsame b fun e => ?_
    subst e
    exact hn 0 ⟨g, p, hg, hp, k1, rfl, by omega, by omega⟩
end Go.Proofs.Ytephmpbccajaaaa.Gx

