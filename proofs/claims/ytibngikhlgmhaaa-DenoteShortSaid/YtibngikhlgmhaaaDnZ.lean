/- A list of items that came in, as ghost blocks. No condition. -/
import Derived.Test.YtibngikhlgmhaaaDnT
import Derived.Deep.Slices
namespace Go.Proofs.Ytibngikhlgmhaaa.Gx
open Go Go.RowKit Go.ChangeShapes Go.WideShapes Go.ChangeAt Go.Joins Go.Deep
set_option linter.unusedVariables false
set_option linter.unusedSimpArgs false
def itL : List Lf := [.int .i64, .int .i64, .int .i64, .int .i64, .int .i64, .int .u32, .int .u32, .int .u32, .ints .u8, .ints .u8, .int .i64, .int .i64, .int .i64, .int .u32, .int .u32, .ints .u8, .ints .u8, .ints .u8]
theorem open_items {H : Type} {enc : TypeId × Value → H} {w : World} {a : Option Addr} {len cap : Nat} {d : DataW H} {p : List MemPlace} (h : DataW.Trod enc Try.prog w 0 (fun _ => true) true 39 (.slice a len cap) d p) :
    (a = none ∧ len = 0 ∧ cap = 0) ∨ ∃ ad, a = some ad ∧ len ≤ cap ∧ ∀ i, i < len → ∃ cs : List Value, cs.length = 18 ∧ (∀ j, j < 18 → w.cell? (ad.add (i * 18 + j)) = cs[j]?) ∧ All2 (LfOk w) itL cs := by
  obtain ⟨fuel, hf⟩ := h
  have hc18 : Try.prog.cellsOf 45 = 18 := by kernel_rfl
  rcases open_slice Try.underlying39 hf with ⟨hcs, _⟩ | ⟨ad, l, c, m, n, D, Pl, hcs, _, hlc, hcm, hm, _, hi⟩
  · simp [Value.cells] at hcs
    obtain ⟨rfl, rfl, rfl⟩ := hcs
    exact .inl ⟨rfl, rfl, rfl⟩
  · simp [Value.cells] at hcs
    obtain ⟨rfl, rfl, rfl⟩ := hcs
    have hm : m = cap := by rw [hm]; simp
    refine .inr ⟨ad, rfl, hlc, fun i hlt => ?_⟩
    obtain ⟨cs, h1, h2⟩ := hi i (by omega)
    rw [hc18] at h1
    obtain ⟨_, h3, h4⟩ := World.cells?_some h1
    refine ⟨cs, h3, fun j hj => ?_, trod_leafs 6 45 itL cs _ _ (by kernel_rfl) h2⟩
    rw [← Go.Deep.add_add]
    exact h4 j hj
theorem u32_bd {n : Int} (h : (Lit.int .u32 n).wf = true) : 0 ≤ n ∧ n ≤ 4294967295 := by
  have h1 : IntKind.u32.min = 0 := rfl
  simp [Lit.wf, h1, u32_max] at h
  omega
/-- an item that came in -/
structure RI where
  (a1 a2 a3 a4 a5 a6 a7 a8 a11 a12 a13 a14 a15 : Int)
  (p9 p10 p16 p17 p18 : Option Addr)
  (l9 l10 l16 l17 l18 : Nat)
  (c9 c10 c16 c17 c18 : Nat)
  (z9 z10 z16 z17 z18 : List Int)
def RI.cells (r : RI) : List Value := [Value.int .i64 r.a1, Value.int .i64 r.a2, Value.int .i64 r.a3, Value.int .i64 r.a4, Value.int .i64 r.a5, Value.int .u32 r.a6, Value.int .u32 r.a7, Value.int .u32 r.a8, Value.slice r.p9 r.l9 r.c9, Value.slice r.p10 r.l10 r.c10, Value.int .i64 r.a11, Value.int .i64 r.a12, Value.int .i64 r.a13, Value.int .u32 r.a14, Value.int .u32 r.a15, Value.slice r.p16 r.l16 r.c16, Value.slice r.p17 r.l17 r.c17, Value.slice r.p18 r.l18 r.c18]
structure RI.Ok (w : World) (r : RI) : Prop where
  i9 : IsRow .u8 w r.p9 r.l9 r.c9 r.z9
  i10 : IsRow .u8 w r.p10 r.l10 r.c10 r.z10
  i16 : IsRow .u8 w r.p16 r.l16 r.c16 r.z16
  i17 : IsRow .u8 w r.p17 r.l17 r.c17 r.z17
  i18 : IsRow .u8 w r.p18 r.l18 r.c18 r.z18
  w6 : 0 ≤ r.a6 ∧ r.a6 ≤ 4294967295
  w8 : 0 ≤ r.a8 ∧ r.a8 ≤ 4294967295
  w14 : 0 ≤ r.a14 ∧ r.a14 ≤ 4294967295
theorem ri_open {w : World} {cs : List Value} (o : All2 (LfOk w) itL cs) : ∃ r : RI, cs = r.cells ∧ r.Ok w := by
  unfold itL at o
  obtain _ | ⟨⟨a1, rfl, wa1⟩, o⟩ := o
  obtain _ | ⟨⟨a2, rfl, wa2⟩, o⟩ := o
  obtain _ | ⟨⟨a3, rfl, wa3⟩, o⟩ := o
  obtain _ | ⟨⟨a4, rfl, wa4⟩, o⟩ := o
  obtain _ | ⟨⟨a5, rfl, wa5⟩, o⟩ := o
  obtain _ | ⟨⟨a6, rfl, wa6⟩, o⟩ := o
  obtain _ | ⟨⟨a7, rfl, wa7⟩, o⟩ := o
  obtain _ | ⟨⟨a8, rfl, wa8⟩, o⟩ := o
  obtain _ | ⟨⟨p9, l9, c9, z9, rfl, i9⟩, o⟩ := o
  obtain _ | ⟨⟨p10, l10, c10, z10, rfl, i10⟩, o⟩ := o
  obtain _ | ⟨⟨a11, rfl, wa11⟩, o⟩ := o
  obtain _ | ⟨⟨a12, rfl, wa12⟩, o⟩ := o
  obtain _ | ⟨⟨a13, rfl, wa13⟩, o⟩ := o
  obtain _ | ⟨⟨a14, rfl, wa14⟩, o⟩ := o
  obtain _ | ⟨⟨a15, rfl, wa15⟩, o⟩ := o
  obtain _ | ⟨⟨p16, l16, c16, z16, rfl, i16⟩, o⟩ := o
  obtain _ | ⟨⟨p17, l17, c17, z17, rfl, i17⟩, o⟩ := o
  obtain _ | ⟨⟨p18, l18, c18, z18, rfl, i18⟩, o⟩ := o
  cases o
  exact ⟨⟨a1, a2, a3, a4, a5, a6, a7, a8, a11, a12, a13, a14, a15, p9, p10, p16, p17, p18, l9, l10, l16, l17, l18, c9, c10, c16, c17, c18, z9, z10, z16, z17, z18⟩, rfl, ⟨i9, i10, i16, i17, i18, u32_bd wa6, u32_bd wa8, u32_bd wa14⟩⟩
def RI.ars (r : RI) : List Ar := [⟨r.p9, r.l9, r.c9, 1, u8s (r.z9.take r.l9)⟩, ⟨r.p10, r.l10, r.c10, 1, u8s (r.z10.take r.l10)⟩, ⟨r.p16, r.l16, r.c16, 1, u8s (r.z16.take r.l16)⟩, ⟨r.p17, r.l17, r.c17, 1, u8s (r.z17.take r.l17)⟩, ⟨r.p18, r.l18, r.c18, 1, u8s (r.z18.take r.l18)⟩]
/-- its ghost, its slices in blocks g, g + 1 .. -/
def RI.itr (r : RI) (g : Nat) : ItR := ⟨⟨r.a1, r.a2, r.a3, r.a4, r.a5, r.a6, r.a7, r.a8, r.z9.take r.l9, r.z10.take r.l10, r.a11, r.a12, r.a13, r.a14, r.a15, r.z16.take r.l16⟩, r.z17.take r.l17, r.z18.take r.l18, arSl g ⟨r.p9, r.l9, r.c9, 1, u8s (r.z9.take r.l9)⟩, arSl (g + 1) ⟨r.p10, r.l10, r.c10, 1, u8s (r.z10.take r.l10)⟩, arSl (g + 2) ⟨r.p16, r.l16, r.c16, 1, u8s (r.z16.take r.l16)⟩, arSl (g + 3) ⟨r.p17, r.l17, r.c17, 1, u8s (r.z17.take r.l17)⟩, arSl (g + 4) ⟨r.p18, r.l18, r.c18, 1, u8s (r.z18.take r.l18)⟩⟩
def itrs : List RI → Nat → List ItR
  | [], _ => []
  | r :: l, g => r.itr g :: itrs l (g + 5)
theorem itrs_len : ∀ (l : List RI) (g : Nat), (itrs l g).length = l.length
  | [], _ => rfl
  | r :: l, g => by rw [itrs, List.length_cons, itrs_len l, List.length_cons]
def riCells (l : List RI) : List Value := l.flatMap RI.cells
def riArs (l : List RI) : List Ar := l.flatMap RI.ars
/-- where the blocks of these items stand -/
def Stand (L : List Ar) (l : List RI) (g : Nat) : Prop := ∀ k x, nth (riArs l) k = some x → nth L (g + k) = some x
theorem Stand.tail {L : List Ar} {r : RI} {l : List RI} {g : Nat} (s : Stand L (r :: l) g) : Stand L l (g + 5) := fun k x hx => by
  have := s (5 + k) x (by
    rw [nth_eq] at hx ⊢
    show (r.ars ++ riArs l)[5 + k]? = some x
    rw [List.getElem?_append_right (by show 5 ≤ 5 + k; omega), show 5 + k - r.ars.length = k by show 5 + k - 5 = k; omega]
    exact hx)
  rw [show g + 5 + k = g + (5 + k) by omega]; exact this
theorem Stand.at_ {L : List Ar} {r : RI} {l : List RI} {g : Nat} (s : Stand L (r :: l) g) : nth L g = some ⟨r.p9, r.l9, r.c9, 1, u8s (r.z9.take r.l9)⟩ ∧ nth L (g + 1) = some ⟨r.p10, r.l10, r.c10, 1, u8s (r.z10.take r.l10)⟩ ∧ nth L (g + 2) = some ⟨r.p16, r.l16, r.c16, 1, u8s (r.z16.take r.l16)⟩ ∧ nth L (g + 3) = some ⟨r.p17, r.l17, r.c17, 1, u8s (r.z17.take r.l17)⟩ ∧ nth L (g + 4) = some ⟨r.p18, r.l18, r.c18, 1, u8s (r.z18.take r.l18)⟩ :=
  ⟨s 0 _ rfl, s 1 _ rfl, s 2 _ rfl, s 3 _ rfl, s 4 _ rfl⟩
theorem itrs_mem {w : World} {L : List Ar} : ∀ (l : List RI) (g : Nat), Stand L l g → (∀ r ∈ l, r.Ok w) → ∀ x ∈ itrs l g, ItOk (arGH L) x ∧ (B8 x.c.nm ∧ B8 x.c.ex ∧ B8 x.c.cm ∧ B8 x.ex ∧ B8 x.da) ∧ (0 ≤ x.c.a6 ∧ x.c.a6 ≤ 4294967295) ∧ (0 ≤ x.c.a8 ∧ x.c.a8 ≤ 4294967295) ∧ (0 ≤ x.c.a14 ∧ x.c.a14 ≤ 4294967295)
  | [], g, s, hr, x, hx => by simp [itrs] at hx
  | r :: l, g, s, hr, x, hx => by
    rw [itrs] at hx
    rcases List.mem_cons.1 hx with rfl | hx
    · obtain ⟨t9, t10, t16, t17, t18⟩ := s.at_
      have ok := hr r (.head _)
      exact ⟨⟨ar_row t9 (ar_bytes ok.i9 (arInj L)), ar_row t10 (ar_bytes ok.i10 (arInj L)), ar_row t16 (ar_bytes ok.i16 (arInj L)), ar_row t17 (ar_bytes ok.i17 (arInj L)), ar_row t18 (ar_bytes ok.i18 (arInj L))⟩, ⟨IsRow.b8 ok.i9, IsRow.b8 ok.i10, IsRow.b8 ok.i16, IsRow.b8 ok.i17, IsRow.b8 ok.i18⟩, ok.w6, ok.w8, ok.w14⟩
    · exact itrs_mem l (g + 5) s.tail (fun z hz => hr z (.tail _ hz)) x hx
theorem itrs_vr {w : World} {L : List Ar} : ∀ (l : List RI) (g : Nat), Stand L l g → (∀ r ∈ l, r.Ok w) → All2 (VR (arInj L)) (itCells (itrs l g)) (riCells l)
  | [], g, s, hr => .nil
  | r :: l, g, s, hr => by
    obtain ⟨t9, t10, t16, t17, t18⟩ := s.at_
    have ok := hr r (.head _)
    have v9 := ar_vr t9 (ar_bytes ok.i9 (arInj L))
    have v10 := ar_vr t10 (ar_bytes ok.i10 (arInj L))
    have v16 := ar_vr t16 (ar_bytes ok.i16 (arInj L))
    have v17 := ar_vr t17 (ar_bytes ok.i17 (arInj L))
    have v18 := ar_vr t18 (ar_bytes ok.i18 (arInj L))
    have one : All2 (VR (arInj L)) (r.itr g).cells r.cells := (.cons (.same _ rfl) (.cons (.same _ rfl) (.cons (.same _ rfl) (.cons (.same _ rfl) (.cons (.same _ rfl) (.cons (.same _ rfl) (.cons (.same _ rfl) (.cons (.same _ rfl) (.cons v9 (.cons v10 (.cons (.same _ rfl) (.cons (.same _ rfl) (.cons (.same _ rfl) (.cons (.same _ rfl) (.cons (.same _ rfl) (.cons v16 (.cons v17 (.cons v18 .nil))))))))))))))))))
    exact one.append (itrs_vr l (g + 5) s.tail (fun z hz => hr z (.tail _ hz)))
theorem riCells_get : ∀ (l : List RI) (k : Nat) (hk : k < l.length) (j : Nat), j < 18 → (riCells l)[k * 18 + j]? = l[k].cells[j]?
  | x :: l, 0, hk, j, hj => by
    show (x.cells ++ riCells l)[0 * 18 + j]? = _
    rw [List.getElem?_append_left (by simp [RI.cells]; omega)]
    simp
  | x :: l, k + 1, hk, j, hj => by
    show (x.cells ++ riCells l)[(k + 1) * 18 + j]? = _
    rw [List.getElem?_append_right (by simp [RI.cells]; omega), show (k + 1) * 18 + j - x.cells.length = k * 18 + j by simp [RI.cells]; omega]
    exact riCells_get l k (by simpa using hk) j hj
/-- a list of items that came in -/
structure RIs (w : World) (a : Option Addr) (len cap : Nat) (l : List RI) : Prop where
  ln : l.length = len
  le : len ≤ cap
  nil : a = none → len = 0 ∧ cap = 0
  ok : ∀ r ∈ l, r.Ok w
  at_ : ∀ ad, a = some ad → ∀ i, (hi : i < l.length) → ∀ j, j < 18 → w.cell? (ad.add (i * 18 + j)) = l[i].cells[j]?
theorem ris_open {H : Type} {enc : TypeId × Value → H} {w : World} {a : Option Addr} {len cap : Nat} {d : DataW H} {p : List MemPlace} (h : DataW.Trod enc Try.prog w 0 (fun _ => true) true 39 (.slice a len cap) d p) : ∃ l, RIs w a len cap l := by
  rcases open_items h with ⟨rfl, rfl, rfl⟩ | ⟨ad, rfl, hle, hi⟩
  · exact ⟨[], rfl, Nat.le_refl _, fun _ => ⟨rfl, rfl⟩, by simp, fun ad h => by cases h⟩
  · have key : ∀ i, ∃ r : RI, i < len → r.Ok w ∧ ∀ j, j < 18 → w.cell? (ad.add (i * 18 + j)) = r.cells[j]? := by
      intro i
      by_cases hlt : i < len
      · obtain ⟨cs, h1, h2, h3⟩ := hi i hlt
        obtain ⟨r, rfl, hok⟩ := ri_open h3
        exact ⟨r, fun _ => ⟨hok, h2⟩⟩
      · exact ⟨⟨0, 0, 0, 0, 0, 0, 0, 0, 0, 0, 0, 0, 0, none, none, none, none, none, 0, 0, 0, 0, 0, 0, 0, 0, 0, 0, [], [], [], [], []⟩, fun h => absurd h hlt⟩
    obtain ⟨f, hf⟩ := Classical.axiomOfChoice key
    refine ⟨(List.range len).map f, by simp, hle, fun h => (by cases h), fun r hr => ?_, fun ad' h i hi' j hj => ?_⟩
    · obtain ⟨i, hi', rfl⟩ := List.mem_map.1 hr
      exact (hf i (by simpa using hi')).1
    · cases h
      have : i < len := by simpa using hi'
      rw [(hf i this).2 j hj]
      simp
theorem ar_items {w : World} {a : Option Addr} {len cap : Nat} {l : List RI} {L : List Ar} {g : Nat} (h : RIs w a len cap l) (s : Stand L l g) : ArOk (arInj L) w ⟨a, len, cap, 18, itCells (itrs l g)⟩ := by
  have hv := itrs_vr l g s h.ok
  have hcl : (itCells (itrs l g)).length = len * 18 := by rw [itCells_len, itrs_len, h.ln]
  refine ⟨hcl, by show 0 < 18; omega, h.le, h.nil, fun q hq hlen => ?_⟩
  have hq' : a = some q := hq
  have hlen' : 0 < len := hlen
  have hat := h.at_ q hq'
  have hl := h.ln
  have h0 := hat 0 (by omega) 0 (by omega)
  have hx : l[0].cells[0]? = some (.int .i64 l[0].a1) := rfl
  rw [hx] at h0
  have hb := World.block_lt_of_cell? w _ h0
  rw [block_of_add] at hb
  have hsp : q.spot = none := by
    cases hsp : q.spot with
    | none => rfl
    | some z =>
      rw [World.cell?] at h0
      split at h0
      · simp [Addr.add, hsp] at h0
      · cases h0
  refine ⟨hsp, hb, fun i v hi => ?_⟩
  have hi' : nth (itCells (itrs l g)) i = some v := hi
  have hlt : i < len * 18 := by
    rw [nth_eq] at hi'
    have := (List.getElem?_eq_some_iff.1 hi').1
    omega
  obtain ⟨r, hr, hvr⟩ := hv.get hi'
  rw [nth_eq] at hr
  have hk : i / 18 < l.length := by omega
  have e1 := riCells_get l (i / 18) hk (i % 18) (by omega)
  rw [show i / 18 * 18 + i % 18 = i by omega, hr] at e1
  have e2 := hat (i / 18) hk (i % 18) (by omega)
  rw [show i / 18 * 18 + i % 18 = i by omega, ← e1] at e2
  have hx2 : (⟨q.block, q.off + i, none⟩ : Addr) = q.add i := by
    cases q
    simp only at hsp
    subst hsp
    simp [Addr.add]
  rw [hx2]
  exact ⟨r, e2, hvr⟩
theorem riArs_ok {w : World} {ι : Inj} : ∀ (l : List RI), (∀ r ∈ l, r.Ok w) → ∀ x ∈ riArs l, ArOk ι w x := fun l hl x hx => by
  obtain ⟨r, hr, hx⟩ := List.mem_flatMap.1 hx
  have ok := hl r hr
  simp only [RI.ars, List.mem_cons, List.not_mem_nil, or_false] at hx
  rcases hx with rfl | rfl | rfl | rfl | rfl
  · exact ar_bytes ok.i9 _
  · exact ar_bytes ok.i10 _
  · exact ar_bytes ok.i16 _
  · exact ar_bytes ok.i17 _
  · exact ar_bytes ok.i18 _
end Go.Proofs.Ytibngikhlgmhaaa.Gx

