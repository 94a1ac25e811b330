/- The plain machine: a law's arguments, of whatever cells, slices within slices too. No condition. -/
import Derived.Test.YtibngikhlgmhaaaVec
import Derived.Test.YtibngikhlgmhaaaRow
namespace Go.Proofs.Ytibngikhlgmhaaa.Gx
open Go Go.RowKit Go.ChangeShapes Go.WideShapes Go.ChangeAt Go.Joins Go.Deep
set_option linter.unusedVariables false
/-- a slice that came in: its place, its cells' size, its cells as the ghost has them -/
structure Ar where
  a : Option Addr
  len : Nat
  cap : Nat
  z : Nat
  cells : List Value
def arInj (l : List Ar) : Inj := fun g => match nth l g with
  | some x => (match x.a with | some q => (bif Nat.blt 0 x.len then .live ⟨q.block, q.off, x.cells.length, q.off + x.cap * x.z, x.z, true⟩ else .unborn) | none => .unborn)
  | none => .unborn
def arCells (x : Ar) : List Value := match x.cells with | [] => [.bool false] | c :: r => c :: r
def arGH (l : List Ar) : GH := ⟨l.length, fun g => match nth l g with | some x => some (.row ⟨arCells x, x.z, true⟩) | none => none⟩
structure ArOk (ι : Inj) (W : World) (x : Ar) : Prop where
  lenc : x.cells.length = x.len * x.z
  zpos : 0 < x.z
  le : x.len ≤ x.cap
  nil : x.a = none → x.len = 0 ∧ x.cap = 0
  spot : ∀ q, x.a = some q → 0 < x.len → q.spot = none ∧ q.block < W.heap.size ∧ ∀ i v, nth x.cells i = some v → ∃ r, W.cell? ⟨q.block, q.off + i, none⟩ = some r ∧ VR ι v r
def arSl (g : Nat) (x : Ar) : Sl := match x.a with | none => ⟨none, 0, 0⟩ | some _ => (match x.len with | 0 => ⟨some ⟨g, 1, none⟩, 0, 0⟩ | n + 1 => ⟨some ⟨g, 0, none⟩, n + 1, n + 1⟩)
theorem arCells_pos {x : Ar} (h : 0 < x.cells.length) : arCells x = x.cells := by unfold arCells; cases hc : x.cells with | nil => rw [hc] at h; simp at h | cons a r => rfl
theorem ar_get {l : List Ar} {g : Nat} {x : Ar} (hx : nth l g = some x) : (arGH l).get g = some (.row ⟨arCells x, x.z, true⟩) := by
  show (match nth l g with | some x => some (GObj.row ⟨arCells x, x.z, true⟩) | none => none) = _
  rw [hx]
theorem ar_look {l : List Ar} {g : Nat} {x : Ar} (hx : nth l g = some x) : (arGH l).look g = some (.row ⟨arCells x, x.z, true⟩) := by
  have hlt := nth_lt hx
  unfold GH.look
  rw [blt_of (show g < (arGH l).next from hlt), condT, ar_get hx]
theorem ar_good {W : World} {l : List Ar} (h : ∀ x ∈ l, ArOk (arInj l) W x) (n : Nat) : Good (arInj l) (arGH l) n W := by
  have hlive : ∀ g p, arInj l g = .live p → ∃ x q, nth l g = some x ∧ x ∈ l ∧ x.a = some q ∧ 0 < x.len ∧ p = ⟨q.block, q.off, x.cells.length, q.off + x.cap * x.z, x.z, true⟩ := fun g p hp => by
    unfold arInj at hp
    split at hp
    · rename_i x hx
      split at hp
      · rename_i q hq
        cases hb : Nat.blt 0 x.len with
        | false => rw [hb] at hp; cases hp
        | true =>
          rw [hb] at hp
          cases hp
          exact ⟨x, q, hx, by rw [nth_eq] at hx; exact List.mem_of_getElem? hx, hq, of_blt hb, rfl⟩
      · cases hp
    · cases hp
  refine ⟨⟨fun g p hg hp => ?_, fun g hg hd => ?_, fun g g' p p' hp hp' _ _ => ?_, fun g p hp => ?_⟩, fun g hg _ => ?_⟩
  · obtain ⟨x, q, hx, hm, hq, hlen, rfl⟩ := hlive g p hp
    have hr := h x hm
    obtain ⟨s1, s2, s3⟩ := hr.spot q hq hlen
    have h0 := hr.lenc
    have h1 : 0 < x.cells.length := by rw [h0]; exact Nat.mul_pos hlen hr.zpos
    rw [ar_get hx, arCells_pos h1]
    refine ⟨rfl, rfl, rfl, ?_, fun i v hv => s3 i v hv, fun h => by cases h⟩
    show q.off + x.cells.length ≤ q.off + x.cap * x.z
    have := Nat.mul_le_mul_right x.z hr.le; omega
  · exfalso
    unfold arInj at hd
    split at hd
    · split at hd
      · rename_i x _ _ _ _
        cases hb : Nat.blt 0 x.len <;> rw [hb] at hd <;> cases hd
      · cases hd
    · cases hd
  · obtain ⟨x, q, _, _, _, _, rfl⟩ := hlive g p hp
    obtain ⟨x', q', _, _, _, _, rfl⟩ := hlive g' p' hp'
    exact .inl ⟨rfl, rfl⟩
  · obtain ⟨x, q, hx, hm, hq, hlen, rfl⟩ := hlive g p hp
    exact ((h x hm).spot q hq hlen).2.1
  · unfold arInj
    split
    · rename_i x hx
      have hlt := nth_lt hx
      have : (arGH l).next = l.length := rfl
      omega
    · rfl
theorem ar_vr {W : World} {l : List Ar} {ι : Inj} {g : Nat} {x : Ar} (hx : nth l g = some x) (hr : ArOk ι W x) : VR (arInj l) (.slice (arSl g x).a (arSl g x).n (arSl g x).c) (.slice x.a x.len x.cap) := by
  cases ha : x.a with
  | none =>
    obtain ⟨h1, h2⟩ := hr.nil ha
    have : arSl g x = ⟨none, 0, 0⟩ := by unfold arSl; rw [ha]
    rw [h1, h2, this]
    exact .same _ rfl
  | some q =>
    obtain ⟨b, o, sp⟩ := q
    cases hn : x.len with
    | zero =>
      have : arSl g x = ⟨some ⟨g, 1, none⟩, 0, 0⟩ := by unfold arSl; rw [ha, hn]
      rw [this]
      exact VR.slE _ _ _ (by simp)
    | succ n =>
    obtain ⟨s1, s2, s3⟩ := hr.spot _ ha (by omega)
    simp only at s1
    subst s1
    have hp : arInj l g = .live ⟨b, o, x.cells.length, o + x.cap * x.z, x.z, true⟩ := by
      have hb : Nat.blt 0 x.len = true := blt_of (by omega)
      unfold arInj; rw [hx]; simp only [ha, hb, cond_true]
    have : arSl g x = ⟨some ⟨g, 0, none⟩, x.len, x.len⟩ := by unfold arSl; rw [ha, hn]
    rw [← hn, this]
    exact VR.sl g 0 x.len x.len x.cap _ hp (.inr ⟨hr.zpos, hr.le, fun _ => Nat.le_refl _⟩) (Nat.le_refl _)
theorem ar_row {W : World} {l : List Ar} {ι : Inj} {g : Nat} {x : Ar} (hx : nth l g = some x) (hr : ArOk ι W x) : Row (arGH l) (arSl g x) x.z x.cells := by
  have h0 := hr.lenc
  cases ha : x.a with
  | none =>
    obtain ⟨h1, h2⟩ := hr.nil ha
    have : arSl g x = ⟨none, 0, 0⟩ := by unfold arSl; rw [ha]
    rw [this]
    exact ⟨by rw [h0, h1], Nat.le_refl _, .inl ⟨rfl, rfl, rfl⟩⟩
  | some q =>
    cases hn : x.len with
    | zero =>
      have h1 : x.cells = [] := List.length_eq_zero_iff.1 (by rw [h0, hn]; simp)
      have : arSl g x = ⟨some ⟨g, 1, none⟩, 0, 0⟩ := by unfold arSl; rw [ha, hn]
      rw [this, h1]
      exact ⟨by simp, Nat.le_refl _, .inr ⟨g, 1, _, rfl, ar_look hx, by simp [arCells, h1], by simp⟩⟩
    | succ n =>
      have h1 : 0 < x.cells.length := by rw [h0]; exact Nat.mul_pos (by omega) hr.zpos
      have : arSl g x = ⟨some ⟨g, 0, none⟩, x.len, x.len⟩ := by unfold arSl; rw [ha, hn]
      rw [this]
      exact ⟨h0, Nat.le_refl _, .inr ⟨g, 0, _, rfl, ar_look hx, by rw [arCells_pos h1]; simp, by simp [arCells_pos h1]⟩⟩
/-- a law's run: it answers true, and nothing that was there has turned -/
theorem ar_calls {P : Program} {f : FuncId} {args rargs : List Value} {W : World} {l : List Ar} {h1 : GH} (hl : ∀ x ∈ l, ArOk (arInj l) W x) (s : CallSim P f args (arGH l) (.bool true) h1)
    (ha : All2 (VR (arInj l)) args rargs) : Calls P f rargs.toArray W fun e W' => e = .returned (.bool true) ∧ Below W.heap.size W W' := by
  refine (s.2.2 _ W rargs (ar_good hl _) ha).mono ?_
  rintro e w' ⟨rv, ι', rfl, st, hvr⟩
  refine ⟨by rw [hvr.bool], ⟨st.fr.os, st.fr.tape, st.fr.output, st.fr.size, fun k hk => st.fr.block k hk ?_⟩⟩
  rintro i ⟨g, p, h1, h2, h3, _⟩
  unfold arInj at h2
  split at h2
  · split at h2
    · rename_i x _ _ _ _
      cases hb : Nat.blt 0 x.len <;> rw [hb] at h2 <;> cases h2
      cases h3
    · cases h2
  · cases h2
/-- a row of bytes that came in -/
theorem ar_bytes {W : World} {a : Option Addr} {len cap : Nat} {zs : List Int} (h : IsRow .u8 W a len cap zs) (ι : Inj) : ArOk ι W ⟨a, len, cap, 1, u8s (zs.take len)⟩ := by
  rcases h with ⟨rfl, rfl, rfl, rfl⟩ | ⟨x, rfl, hl, hm, hz, hc, hw⟩
  · exact ⟨rfl, Nat.one_pos, Nat.le_refl _, fun _ => ⟨rfl, rfl⟩, fun q hq => (nomatch hq)⟩
  · refine ⟨by simp [u8s]; omega, Nat.one_pos, hl, fun hq => (nomatch hq), fun q hq hlen => ?_⟩
    cases hq
    simp only at hlen
    have h0 := hc 0 (by omega)
    have hb := World.block_lt_of_cell? W _ h0
    rw [block_of_add] at hb
    have hsp : x.spot = none := by
      cases hsp : x.spot with
      | none => rfl
      | some z =>
        rw [World.cell?] at h0
        split at h0
        · simp [Addr.add, hsp] at h0
        · cases h0
    refine ⟨hsp, hb, fun i v hv => ?_⟩
    simp only at hv
    rw [nth_u8s, List.getElem?_take] at hv
    split at hv
    · rename_i hi
      have := hc i (by omega)
      rw [List.getElem?_eq_getElem (by omega)] at hv
      cases hv
      rw [List.getD_eq_getElem?_getD, List.getElem?_eq_getElem (by omega)] at this
      have hx : (⟨x.block, x.off + i, none⟩ : Addr) = x.add i := by
        cases x
        simp only at hsp
        subst hsp
        simp [Addr.add]
      rw [hx]
      exact ⟨_, this, .same _ rfl⟩
    · cases hv
theorem IsRow.b8 {W : World} {a : Option Addr} {len cap : Nat} {zs : List Int} (h : IsRow .u8 W a len cap zs) : B8 (zs.take len) := fun b hb => u8_bd (h.rn.2.2 b hb)
theorem IsRow.ltop {W : World} {a : Option Addr} {len cap : Nat} {zs : List Int} (h : IsRow .u8 W a len cap zs) : (zs.take len).length = len := by
  rcases h with ⟨rfl, rfl, rfl, rfl⟩ | ⟨x, rfl, hl, hm, hz, hc, hw⟩
  · rfl
  · simp; omega

/-! ### what a type's cells are -/
inductive Lf where
  | int (k : IntKind)
  | bool
  | ints (k : IntKind)
def flds (sz : TypeId → Nat) (lf : TypeId → Option (List Lf)) : Nat → List Field → Option (List Lf)
  | _, [] => some []
  | off, f :: r => if f.offset = off then (lf f.type).bind fun l => if l.length = sz f.type then (flds sz lf (off + l.length) r).map (l ++ ·) else none else none
def leafs (P : Program) : Nat → TypeId → Option (List Lf)
  | 0, _ => none
  | n + 1, t => match P.underlying t with
    | some (.int k) => some [.int k]
    | some .bool => some [.bool]
    | some (.slice e) => (match P.underlying e with | some (.int k) => if P.cellsOf e = 1 then some [.ints k] else none | _ => none)
    | some (.struct fs) => (flds P.cellsOf (leafs P n) 0 fs.toList).bind fun l => if l.length = P.cellsOf t then some l else none
    | _ => none
def LfOk (w : World) : Lf → Value → Prop
  | .int k, v => ∃ n, v = .int k n ∧ (Lit.int k n).wf = true
  | .bool, v => ∃ b, v = .bool b
  | .ints k, v => ∃ a len cap zs, v = .slice a len cap ∧ IsRow k w a len cap zs
section
variable {H : Type} {enc : TypeId × Value → H} {P : Program} {w : World}
theorem trod_flds {lf : TypeId → Option (List Lf)} {fuel : Nat} (ih : ∀ t ls cs x, lf t = some ls → DataW.trod enc P w 0 (fun _ => true) true fuel t cs = some x → All2 (LfOk w) ls cs) {cs : List Value} :
    ∀ (r : List Field) (off : Nat) (ls : List Lf), flds P.cellsOf lf off r = some ls → (∀ f ∈ r, ∃ y, DataW.trod enc P w 0 (fun _ => true) true fuel f.type ((cs.drop f.offset).take (P.cellsOf f.type)) = some y) → All2 (LfOk w) ls ((cs.drop off).take ls.length) := by
  intro r
  induction r with
  | nil => intro off ls h _; simp only [flds, Option.some.injEq] at h; subst h; simp only [List.length_nil, List.take_zero]; exact .nil
  | cons f r ihr =>
    intro off ls h hy
    simp only [flds] at h
    split at h
    · rename_i ho
      rw [Option.bind_eq_some_iff] at h
      obtain ⟨l, hl, h⟩ := h
      split at h
      · rename_i hlen
        rw [Option.map_eq_some_iff] at h
        obtain ⟨l2, h2, rfl⟩ := h
        obtain ⟨y, hy1⟩ := hy f List.mem_cons_self
        have a1 := ih _ _ _ _ hl hy1
        have a2 := ihr _ _ h2 fun g hg => hy g (List.mem_cons_of_mem _ hg)
        rw [ho, ← hlen] at a1
        have : (cs.drop off).take (l ++ l2).length = (cs.drop off).take l.length ++ (cs.drop (off + l.length)).take l2.length := by
          rw [List.length_append, List.take_add, List.drop_drop]
        rw [this]
        exact a1.append a2
      · cases h
    · cases h
theorem trod_leafs : ∀ (n : Nat) (t : TypeId) (ls : List Lf) (cs : List Value) (fuel : Nat) (x : DataW H × List MemPlace), leafs P n t = some ls → DataW.trod enc P w 0 (fun _ => true) true fuel t cs = some x → All2 (LfOk w) ls cs := by
  intro n
  induction n with
  | zero => intro t ls cs fuel x h; cases h
  | succ n ih =>
    intro t ls cs fuel x h hx
    rw [leafs] at h
    split at h
    · rename_i k hk
      cases h
      obtain ⟨m, rfl, _, hw⟩ := DataW.trod_int hk hx
      exact .cons ⟨m, rfl, hw⟩ .nil
    · rename_i hk
      cases h
      obtain ⟨b, rfl, _⟩ := DataW.trod_bool hk hx
      exact .cons ⟨b, rfl⟩ .nil
    · rename_i e he
      split at h
      · rename_i k hk
        split at h
        · rename_i h1
          cases h
          rcases open_ints he hk h1 hx with ⟨rfl, _⟩ | ⟨y, l, c, zs, rfl, _, hl, hm, hz, _, hcell, hwz⟩
          · exact .cons ⟨none, 0, 0, [], rfl, .inl ⟨rfl, rfl, rfl, rfl⟩⟩ .nil
          · exact .cons ⟨_, _, _, zs, rfl, .inr ⟨y, rfl, hl, hm, by simpa using hz, hcell, hwz⟩⟩ .nil
        · cases h
      · cases h
    · rename_i fs hf
      rw [Option.bind_eq_some_iff] at h
      obtain ⟨l, h1, h2⟩ := h
      split at h2
      · rename_i hc
        cases h2
        obtain ⟨xs, m, rfl, _, hl, hxs, hg⟩ := DataW.trod_struct hf hx
        have := trod_flds (enc := enc) (P := P) (w := w) (lf := leafs P n) (fuel := m) (fun t ls cs x a b => ih t ls cs m x a b) (cs := cs) fs.toList 0 _ h1 (fun f hm => by
          obtain ⟨i, hi⟩ := List.getElem?_of_mem hm
          have e := hg i f (by simpa using hi)
          have hlt := (List.getElem?_eq_some_iff.1 hi).1
          have : i < xs.length := by rw [hxs]; simpa using hlt
          exact ⟨xs[i], by rw [e, List.getElem?_eq_getElem this]⟩)
        rw [List.drop_zero, List.take_of_length_le (by omega)] at this
        exact this
      · cases h2
    · cases h
/-- a struct that came in, cell for cell -/
theorem open_struct {t : TypeId} {fs : Array Field} {r : Go.Reach} {base n : Nat} {ls : List Lf} (hs : P.underlying t = some (.struct fs)) (hl : leafs P n t = some ls) {v : Value} {d : DataW H} {p : List MemPlace} (hv : Value.okWide P w r base t v) (h : DataW.Trod enc P w 0 (fun _ => true) true t v d p) :
    ∃ cs : List Value, v = .agg cs.toArray ∧ All2 (LfOk w) ls cs := by
  obtain ⟨cs, rfl, _⟩ := okWide_struct hs hv
  obtain ⟨fuel, hf⟩ := h
  exact ⟨cs.toList, by simp, trod_leafs n t ls _ fuel _ hl (by simpa [Value.cells] using hf)⟩
end
end Go.Proofs.Ytibngikhlgmhaaa.Gx

