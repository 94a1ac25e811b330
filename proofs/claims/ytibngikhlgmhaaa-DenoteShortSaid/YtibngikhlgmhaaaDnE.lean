/- Items in memory; the program's scanner: findEnd, centrals. No condition. -/
import Derived.Test.YtibngikhlgmhaaaDnD
namespace Go.Proofs.Ytibngikhlgmhaaa.Gx
open Go
set_option linter.unusedVariables false
set_option linter.unusedSimpArgs false
/-- an item, and where its pieces lie -/
structure ItR where
  c : Cn
  ex : List Int
  da : List Int
  (s9 s10 s16 s17 s18 : Sl)
def ItR.cells (x : ItR) : List Value := [Value.int .i64 x.c.a1, Value.int .i64 x.c.a2, Value.int .i64 x.c.a3, Value.int .i64 x.c.a4, Value.int .i64 x.c.a5, Value.int .u32 x.c.a6, Value.int .u32 x.c.a7, Value.int .u32 x.c.a8, Value.slice x.s9.a x.s9.n x.s9.c, Value.slice x.s10.a x.s10.n x.s10.c, Value.int .i64 x.c.a11, Value.int .i64 x.c.a12, Value.int .i64 x.c.a13, Value.int .u32 x.c.a14, Value.int .u32 x.c.a15, Value.slice x.s16.a x.s16.n x.s16.c, Value.slice x.s17.a x.s17.n x.s17.c, Value.slice x.s18.a x.s18.n x.s18.c]
def ItR.rows (x : ItR) : List Nat := rowsOf x.s9 ++ rowsOf x.s10 ++ rowsOf x.s16 ++ rowsOf x.s17 ++ rowsOf x.s18
def ItR.it (x : ItR) : It := ⟨x.c, x.ex, x.da⟩
def itCells (l : List ItR) : List Value := l.flatMap ItR.cells
theorem itCells_len (l : List ItR) : (itCells l).length = l.length * 18 := by
  induction l with
  | nil => rfl
  | cons t l ih => simp only [itCells, List.flatMap_cons, List.length_append, List.length_cons] at ih ⊢; rw [ih]; simp [ItR.cells]; omega
theorem itCells_app (a b : List ItR) : itCells (a ++ b) = itCells a ++ itCells b := by simp [itCells]
theorem itCells_get : ∀ (l : List ItR) (k : Nat) (hk : k < l.length) (j : Nat), j < 18 → (itCells l)[k * 18 + j]? = l[k].cells[j]?
  | x :: l, 0, hk, j, hj => by
    show (x.cells ++ itCells l)[0 * 18 + j]? = _
    rw [List.getElem?_append_left (by simp [ItR.cells]; omega)]
    simp
  | x :: l, k + 1, hk, j, hj => by
    show (x.cells ++ itCells l)[(k + 1) * 18 + j]? = _
    rw [List.getElem?_append_right (by simp [ItR.cells]; omega), show (k + 1) * 18 + j - x.cells.length = k * 18 + j by simp [ItR.cells]; omega]
    exact itCells_get l k (by simpa using hk) j hj
structure ItOk (h : GH) (x : ItR) : Prop where
  r9 : Rd h x.s9 x.c.nm
  r10 : Rd h x.s10 x.c.ex
  r16 : Rd h x.s16 x.c.cm
  r17 : Rd h x.s17 x.ex
  r18 : Rd h x.s18 x.da
theorem ItOk.keep {h h' : GH} {x : ItR} {own : List Nat} (o : ItOk h x) (k : Keep h h' own) (hd : ∀ z ∈ x.rows, z ∉ own) : ItOk h' x :=
  ⟨o.r9.keep k fun z hz => hd z (by simp [ItR.rows, hz]), o.r10.keep k fun z hz => hd z (by simp [ItR.rows, hz]), o.r16.keep k fun z hz => hd z (by simp [ItR.rows, hz]), o.r17.keep k fun z hz => hd z (by simp [ItR.rows, hz]), o.r18.keep k fun z hz => hd z (by simp [ItR.rows, hz])⟩
theorem ItOk.lt {h : GH} {x : ItR} (o : ItOk h x) : ∀ z ∈ x.rows, z < h.next := fun z hz => by
  simp only [ItR.rows, List.mem_append] at hz
  rcases hz with (((hz | hz) | hz) | hz) | hz
  · exact o.r9.lt z hz
  · exact o.r10.lt z hz
  · exact o.r16.lt z hz
  · exact o.r17.lt z hz
  · exact o.r18.lt z hz
structure Its (h : GH) (y : Sl) (lo : Nat) (l : List ItR) : Prop where
  vec : Vec h y 18 (itCells l)
  ok : ∀ x ∈ l, ItOk h x
  own : ∀ x ∈ l, ∀ k ∈ x.rows, lo ≤ k ∧ k ∉ rowsOf y
  lo : ∀ k ∈ rowsOf y, lo ≤ k
theorem Its.n {h : GH} {y : Sl} {lo : Nat} {l : List ItR} (s : Its h y lo l) : y.n = l.length := by have := s.vec.len; rw [itCells_len] at this; omega
theorem Its.keep {h h' : GH} {y : Sl} {lo : Nat} {l : List ItR} {own : List Nat} (s : Its h y lo l) (k : Keep h h' own) (h1 : ∀ z ∈ own, z < lo) : Its h' y lo l :=
  ⟨s.vec.keep k fun z hz hm => by have := s.lo z hz; have := h1 z hm; omega, fun x hx => (s.ok x hx).keep k fun z hz hm => by have := (s.own x hx z hz).1; have := h1 z hm; omega, s.own, s.lo⟩
theorem Its.keep' {h h' : GH} {y : Sl} {lo : Nat} {l : List ItR} {own : List Nat} (s : Its h y lo l) (k : Keep h h' own) (h1 : ∀ z ∈ rowsOf y, z ∉ own) (h2 : ∀ x ∈ l, ∀ z ∈ x.rows, z ∉ own) : Its h' y lo l :=
  ⟨s.vec.keep k h1, fun x hx => (s.ok x hx).keep k (h2 x hx), s.own, s.lo⟩
theorem Its.nil {h : GH} {lo : Nat} : Its h ⟨none, 0, 0⟩ lo [] := ⟨Vec.nil, by simp, by simp, by simp [rowsOf]⟩
theorem Its.lt {h : GH} {y : Sl} {lo : Nat} {l : List ItR} (s : Its h y lo l) : ∀ z ∈ rowsOf y, z < h.next := s.vec.lt
theorem Its.app {h : GH} {y : Sl} {lo : Nat} {l : List ItR} (s : Its h y lo l) (x : ItR) (hl : l.length ≤ 1000000) (ox : ItOk h x) (hx : ∀ z ∈ x.rows, lo ≤ z ∧ z ∉ rowsOf y) (hlo : lo ≤ h.next) :
    ∃ h' y', (∀ (β : Type) (K : Sl → GH → Option β), (gnew [Value.int .i64 x.c.a1, Value.int .i64 x.c.a2, Value.int .i64 x.c.a3, Value.int .i64 x.c.a4, Value.int .i64 x.c.a5, Value.int .u32 x.c.a6, Value.int .u32 x.c.a7, Value.int .u32 x.c.a8, Value.slice x.s9.a x.s9.n x.s9.c, Value.slice x.s10.a x.s10.n x.s10.c, Value.int .i64 x.c.a11, Value.int .i64 x.c.a12, Value.int .i64 x.c.a13, Value.int .u32 x.c.a14, Value.int .u32 x.c.a15, Value.slice x.s16.a x.s16.n x.s16.c, Value.slice x.s17.a x.s17.n x.s17.c, Value.slice x.s18.a x.s18.n x.s18.c] 18 h fun g h1 => gappS 18 208 y ⟨(some ⟨g, 0, none⟩), 1, 1⟩ h1 K) = K y' h') ∧ Its h' y' lo (l ++ [x]) ∧ Keep h h' (rowsOf y) ∧ (∀ z ∈ rowsOf y', z ∈ rowsOf y ∨ h.next ≤ z) := by
  have hn := s.n
  obtain ⟨h', y', e, v, k, n, _⟩ := app_one' (by_ := 208) s.vec x.cells rfl (by omega) rfl (by rw [hn]; simp only [most]; omega)
  have hi : ∀ w ∈ l ++ [x], ItOk h w ∧ ∀ z ∈ w.rows, lo ≤ z ∧ z ∉ rowsOf y := fun w hw => by
    rcases List.mem_append.1 hw with q | q
    · exact ⟨s.ok w q, s.own w q⟩
    · obtain rfl := List.mem_singleton.1 q; exact ⟨ox, hx⟩
  refine ⟨h', y', fun β K => e β K, ⟨by rw [itCells_app]; simpa [itCells] using v, fun w hw => (hi w hw).1.keep k (fun z hz => ((hi w hw).2 z hz).2), fun w hw z hz => ⟨((hi w hw).2 z hz).1, fun hy => ?_⟩, fun z hz => ?_⟩, k, n⟩
  · rcases n z hy with q | q
    · exact ((hi w hw).2 z hz).2 q
    · have := (hi w hw).1.lt z hz; omega
  · rcases n z hz with q | q
    · exact s.lo z q
    · omega
theorem Its.at_ {h : GH} {y : Sl} {lo : Nat} {l : List ItR} (s : Its h y lo l) {i : Nat} (hi : i < l.length) {β : Type} (K : Int → Int → Int → Int → Int → Int → Int → Int → Sl → Sl → Int → Int → Int → Int → Int → Sl → Sl → Sl → Option β) :
    (exA y.a fun g o => within (i : Nat) y.n (exI .i64 (h.cell ⟨g, o + ((i : Nat) : Int).toNat * 18, none⟩) fun x0 => exI .i64 (h.cell ⟨g, o + ((i : Nat) : Int).toNat * 18 + 1, none⟩) fun x1 => exI .i64 (h.cell ⟨g, o + ((i : Nat) : Int).toNat * 18 + 1 + 1, none⟩) fun x2 => exI .i64 (h.cell ⟨g, o + ((i : Nat) : Int).toNat * 18 + 1 + 1 + 1, none⟩) fun x3 => exI .i64 (h.cell ⟨g, o + ((i : Nat) : Int).toNat * 18 + 1 + 1 + 1 + 1, none⟩) fun x4 => exI .u32 (h.cell ⟨g, o + ((i : Nat) : Int).toNat * 18 + 1 + 1 + 1 + 1 + 1, none⟩) fun x5 => exI .u32 (h.cell ⟨g, o + ((i : Nat) : Int).toNat * 18 + 1 + 1 + 1 + 1 + 1 + 1, none⟩) fun x6 => exI .u32 (h.cell ⟨g, o + ((i : Nat) : Int).toNat * 18 + 1 + 1 + 1 + 1 + 1 + 1 + 1, none⟩) fun x7 => exS (h.cell ⟨g, o + ((i : Nat) : Int).toNat * 18 + 1 + 1 + 1 + 1 + 1 + 1 + 1 + 1, none⟩) fun x8 => exS (h.cell ⟨g, o + ((i : Nat) : Int).toNat * 18 + 1 + 1 + 1 + 1 + 1 + 1 + 1 + 1 + 1, none⟩) fun x9 => exI .i64 (h.cell ⟨g, o + ((i : Nat) : Int).toNat * 18 + 1 + 1 + 1 + 1 + 1 + 1 + 1 + 1 + 1 + 1, none⟩) fun x10 => exI .i64 (h.cell ⟨g, o + ((i : Nat) : Int).toNat * 18 + 1 + 1 + 1 + 1 + 1 + 1 + 1 + 1 + 1 + 1 + 1, none⟩) fun x11 => exI .i64 (h.cell ⟨g, o + ((i : Nat) : Int).toNat * 18 + 1 + 1 + 1 + 1 + 1 + 1 + 1 + 1 + 1 + 1 + 1 + 1, none⟩) fun x12 => exI .u32 (h.cell ⟨g, o + ((i : Nat) : Int).toNat * 18 + 1 + 1 + 1 + 1 + 1 + 1 + 1 + 1 + 1 + 1 + 1 + 1 + 1, none⟩) fun x13 => exI .u32 (h.cell ⟨g, o + ((i : Nat) : Int).toNat * 18 + 1 + 1 + 1 + 1 + 1 + 1 + 1 + 1 + 1 + 1 + 1 + 1 + 1 + 1, none⟩) fun x14 => exS (h.cell ⟨g, o + ((i : Nat) : Int).toNat * 18 + 1 + 1 + 1 + 1 + 1 + 1 + 1 + 1 + 1 + 1 + 1 + 1 + 1 + 1 + 1, none⟩) fun x15 => exS (h.cell ⟨g, o + ((i : Nat) : Int).toNat * 18 + 1 + 1 + 1 + 1 + 1 + 1 + 1 + 1 + 1 + 1 + 1 + 1 + 1 + 1 + 1 + 1, none⟩) fun x16 => exS (h.cell ⟨g, o + ((i : Nat) : Int).toNat * 18 + 1 + 1 + 1 + 1 + 1 + 1 + 1 + 1 + 1 + 1 + 1 + 1 + 1 + 1 + 1 + 1 + 1, none⟩) fun x17 => K x0 x1 x2 x3 x4 x5 x6 x7 x8 x9 x10 x11 x12 x13 x14 x15 x16 x17)) = K l[i].c.a1 l[i].c.a2 l[i].c.a3 l[i].c.a4 l[i].c.a5 l[i].c.a6 l[i].c.a7 l[i].c.a8 l[i].s9 l[i].s10 l[i].c.a11 l[i].c.a12 l[i].c.a13 l[i].c.a14 l[i].c.a15 l[i].s16 l[i].s17 l[i].s18 := by
  have hn := s.n
  have hl := itCells_len l
  obtain ⟨g, o, ha, hc⟩ := s.vec.row.cell (by omega) (by omega)
  have hq : ∀ j, j < 18 → h.cell ⟨g, o + (((i : Nat) : Int).toNat * 18 + j), none⟩ = l[i].cells[j]? := fun j hj => by
    rw [Int.toNat_natCast, hc _ (by omega), itCells_get l i hi j hj]
  rw [ha]
  simp only [exA_s]
  rw [within_t (by omega) (by omega)]
  have hq0 := hq 0 (by omega)
  rw [Nat.add_zero] at hq0
  simp only [Nat.add_assoc, Nat.reduceAdd]
  rw [hq0, hq 1 (by omega), hq 2 (by omega), hq 3 (by omega), hq 4 (by omega), hq 5 (by omega), hq 6 (by omega), hq 7 (by omega), hq 8 (by omega), hq 9 (by omega), hq 10 (by omega), hq 11 (by omega), hq 12 (by omega), hq 13 (by omega), hq 14 (by omega), hq 15 (by omega), hq 16 (by omega), hq 17 (by omega)]
  rfl
theorem nlay_full {α : Type} (l m : List α) (h : m.length = l.length) : nlay l 0 m = m := by
  rw [nlay_eq, List.take_zero, List.nil_append, Nat.zero_add, List.drop_eq_nil_of_le (by omega), List.append_nil]
theorem tmp_row (h : GH) (z cs : List Value) (hz : allCells z = true) (hc : allCells cs = true) (hl : cs.length = z.length) : ∃ g h', Keep h h' [] ∧ h.next ≤ g ∧ h'.look g = some (.row ⟨cs, 0, false⟩) ∧ ∀ (β : Type) (K : Nat → GH → Option β), (gnew z 0 h fun g h1 => gput g (0) cs h1 fun h2 => K g h2) = K g h' := by
  refine ⟨h.next, (h.push (.row ⟨z, 0, false⟩)).put h.next (some (.row ⟨cs, 0, false⟩)), (keep_push h _ []).trans (keep_put _ _ _) (fun x hx => .inr (by simp at hx; omega)), Nat.le_refl _, look_put_same (by simp [next_push]), fun β K => ?_⟩
  rw [gnew_eq hz, gput_eq look_push_new hc (by omega), nlay_full z cs hl]
/-! ### the end -/
def scC (a : Sl) (b1 b2 b3 b4 b5 b6 : Int) (cm : Sl) (at_ : Int) : List Value := [.slice a.a a.n a.c, .int .i64 b1, .int .i64 b2, .int .i64 b3, .int .i64 b4, .int .u32 b5, .int .u32 b6, .slice cm.a cm.n cm.c, .int .i64 at_]
theorem Cur.t0 {h : GH} {g : Nat} {s : Sl} {bs : List Int} (C : Cur h g s bs 0 0) : CurT h g s bs 0 0 := ⟨fun _ => C, fun q => absurd (Nat.zero_le _) q⟩
theorem scan_findEnd {h : GH} {g2 : Nat} {a : Sl} {bs : List Int} (hl : h.look g2 = some (.row ⟨scC a 0 0 0 0 0 0 ⟨none, 0, 0⟩ 0, 0, false⟩)) (r : Rd h a bs) (hg : g2 ∉ rowsOf a) (h8 : B8 bs) (hm : bs.length ≤ 2000000) {R : Nat} (hR : 4000000 < R) :
    ∃ h' q, (∀ (β : Type) (K : Int → GH → Option β), F_denote_scanner_findEnd R (some ⟨g2, 0, none⟩) h K = K (endE bs) h') ∧ Keep h h' [g2] ∧ (endE bs = 0 → h'.look g2 = some (.row ⟨scC a (endAt bs (findE bs).toNat).b1 (endAt bs (findE bs).toNat).b2 (endAt bs (findE bs).toNat).b3 (endAt bs (findE bs).toNat).b4 (endAt bs (findE bs).toNat).b5 (endAt bs (findE bs).toNat).b6 q (findE bs), 0, false⟩) ∧ Rd h' q (endAt bs (findE bs).toNat).cm ∧ ∀ k ∈ rowsOf q, h.next ≤ k) := by
  have hn := r.n
  have hcap := r.cap
  have hgl := look_lt hl
  have hal := r.lt
  have hge := lastEnd_ge bs (bs.length - 21)
  have k1 := keep_put h g2 (some (.row ⟨scC a 0 0 0 0 0 0 ⟨none, 0, 0⟩ (findE bs), 0, false⟩))
  obtain ⟨h1, eh1⟩ : ∃ h1, h1 = h.put g2 (some (.row ⟨scC a 0 0 0 0 0 0 ⟨none, 0, 0⟩ (findE bs), 0, false⟩)) := ⟨_, rfl⟩
  rw [← eh1] at k1
  have l1 : h1.look g2 = some (.row ⟨scC a 0 0 0 0 0 0 ⟨none, 0, 0⟩ (findE bs), 0, false⟩) := by rw [eh1]; exact look_put_same hgl
  have r1 : Rd h1 a bs := r.keep k1 (fun x hx hm => by simp at hm; subst hm; exact hg hx)
  have c0 := fun o => cell_of hl o
  have c1 := fun o => cell_of l1 o
  have p1 : ∀ (β : Type) (K : GH → Option β), gput g2 8 [Value.int .i64 (findE bs)] h K = K h1 := fun β K => by rw [gput_eq hl rfl (by simp [scC])]; rw [eh1]; rfl
  by_cases c : findE bs < 0
  · refine ⟨h1, ⟨none, 0, 0⟩, fun β K => ?_, k1, fun q => ?_⟩
    · unfold F_denote_scanner_findEnd endE
      rw [F_denote_scanner_findEnd_gen]
      simp only [exA_s, c0, scC, Nat.zero_add, nth_s, nth_0, exS_s']
      rw [find_end r h8 hm hR]
      refine (p1 β _).trans ?_
      simp only [exA_s, c1, scC, Nat.zero_add, Nat.reduceAdd, nth_s, nth_0, exI_s]
      rw [decT c, condT, if_pos c]
    · unfold endE at q; rw [if_pos c] at q; cases q
  · have hE0 : endE bs = endOk (endAt bs (findE bs).toNat) (findE bs) := by unfold endE; rw [if_neg c]
    have hJ : ∃ j : Nat, findE bs = (j : Int) := ⟨(findE bs).toNat, by omega⟩
    obtain ⟨j, hj⟩ := hJ
    have hE : isEnd bs j := by have := lastEnd_is bs (bs.length - 21) (by unfold findE at hj; omega); unfold findE at hj; rw [hj, Int.toNat_natCast] at this; exact this
    obtain ⟨q1, q2⟩ := isEnd_ok hE
    obtain ⟨i1, i2, i3⟩ := hE
    rw [hj] at hE0 c1 p1 l1
    have rc := r1.cut (lo := j) (hi := a.n) (mx := a.c) (by omega) (by omega) (by omega) (Nat.le_refl _)
    rw [List.take_of_length_le (by simp; omega)] at rc
    obtain ⟨h2, gc, s2, e2, C2, k2, n2⟩ := open_cur rc (by simp; omega) R
    have h8d : B8 (bs.drop j) := fun b hb => h8 b (List.mem_of_mem_drop hb)
    obtain ⟨h3, b1, b2, b3, b4, b5, b6, q, cm, e3, k3, w3⟩ := (CL.start C2.t0).readEnd h8d (by simp; omega) (R := R) (by omega)
    rw [q1, q2] at w3
    rw [q1] at e3
    obtain ⟨w4, w5⟩ := w3 rfl
    have sq := w5.sl q cm (by simp)
    obtain ⟨g5, h5, k5, n5, l5, e5⟩ := tmp_row h3 [Value.int .i64 0, Value.int .i64 0, Value.int .i64 0, Value.int .i64 0, Value.int .u32 0, Value.int .u32 0, Value.slice none 0 0] [Value.int .i64 b1, Value.int .i64 b2, Value.int .i64 b3, Value.int .i64 b4, Value.int .u32 b5, Value.int .u32 b6, Value.slice q.a q.n q.c] rfl rfl rfl
    have c5 := fun o => cell_of l5 o
    have hg1 : g2 < h1.next := look_lt l1
    have hgc := n2 gc (by simp [ownC])
    have l2 := k2.look l1 (by simp)
    have l3 := k3.look l2 (by simp; omega)
    have m5 := k5.look l3 (by simp)
    have c5' := fun o => cell_of m5 o
    have hb1 := k1.1
    have hb2 := k2.1
    have hb3 := k3.1
    have hb5 := k5.1
    have rq5 := sq.1.keep k5 (by simp)
    have k05 : Keep h h5 [g2] := ((k1.trans k2 (by simp)).trans k3 (fun x hx => .inr (by simp at hx; omega))).trans k5 (by simp)
    have hbd := fld_bd h8
    have hx : (⟨b1, b2, b3, b4, b5, b6, cm⟩ : En) = endAt bs j := w4
    have x1 : b1 = (endAt bs j).b1 := by rw [← hx]
    have x2 : b2 = (endAt bs j).b2 := by rw [← hx]
    have x3 : b3 = (endAt bs j).b3 := by rw [← hx]
    have x4 : b4 = (endAt bs j).b4 := by rw [← hx]
    have x5 : b5 = (endAt bs j).b5 := by rw [← hx]
    have x6 : b6 = (endAt bs j).b6 := by rw [← hx]
    have xc : cm = (endAt bs j).cm := by rw [← hx]
    have y5 : 0 ≤ b5 ∧ b5 ≤ 4294967295 := by rw [x5]; exact (hbd _).2
    have y6 : 0 ≤ b6 ∧ b6 ≤ 4294967295 := by rw [x6]; exact (hbd _).2
    have way : ∀ (β : Type) (K : Int → GH → Option β), F_denote_scanner_findEnd R (some ⟨g2, 0, none⟩) h K = (bif b1 != 0 then K 12 h5 else (bif b2 != 0 then K 12 h5 else (bif b3 != b4 then K 12 h5 else (bif b5 == 4294967295 then K 12 h5 else (bif b6 == 4294967295 then K 12 h5 else (bif (b6 + b5) != ((j : Nat) : Int) then K 14 h5 else gput g2 1 [Value.int .i64 b1, Value.int .i64 b2, Value.int .i64 b3, Value.int .i64 b4, Value.int .u32 b5, Value.int .u32 b6, Value.slice q.a q.n q.c] h5 fun h54 => K 0 h54)))))) := by
      intro β K
      unfold F_denote_scanner_findEnd
      rw [F_denote_scanner_findEnd_gen]
      simp only [exA_s, c0, scC, Nat.zero_add, nth_s, nth_0, exS_s']
      rw [find_end r h8 hm hR, hj]
      refine (p1 β _).trans ?_
      simp only [exA_s, c1, scC, Nat.zero_add, Nat.reduceAdd, nth_s, nth_0, exI_s, exS_s']
      rw [decF (by omega), condF, bnd_t (by omega) (by omega), Int.toNat_natCast, e2, e3]
      refine (e5 β _).trans ?_
      simp only [exA_s, c5, c5', scC, Nat.zero_add, Nat.reduceAdd, nth_s, nth_0, exI_s, exS_s']
      rw [bne_self_eq_false, condF, i64w (x := b6) (by omega), i64w (x := b5) (by omega), i64w (x := b6 + b5) (by omega)]
    rw [Int.toNat_natCast] at hE0
    rw [hj, Int.toNat_natCast]
    rw [← x1, ← x2, ← x3, ← x4, ← x5, ← x6, ← xc, hE0]
    unfold endOk
    rw [← x1, ← x2, ← x3, ← x4, ← x5, ← x6]
    by_cases d : b1 ≠ 0 ∨ b2 ≠ 0 ∨ b3 ≠ b4 ∨ b5 = 4294967295 ∨ b6 = 4294967295
    · rw [if_pos d]
      refine ⟨h5, q, fun β K => ?_, k05, fun q => by cases q⟩
      rw [way, bne_int, bne_int, bne_int, beq_int, beq_int]
      simp only [cond_dec]
      (repeat' split) <;> first | rfl | (exfalso; omega)
    · rw [if_neg d]
      have way2 : ∀ (β : Type) (K : Int → GH → Option β), F_denote_scanner_findEnd R (some ⟨g2, 0, none⟩) h K = (bif (b6 + b5) != ((j : Nat) : Int) then K 14 h5 else gput g2 1 [Value.int .i64 b1, Value.int .i64 b2, Value.int .i64 b3, Value.int .i64 b4, Value.int .u32 b5, Value.int .u32 b6, Value.slice q.a q.n q.c] h5 fun h54 => K 0 h54) := fun β K => by
        have d1 : b1 = 0 := Decidable.not_not.1 fun q => d (.inl q)
        have d2 : b2 = 0 := Decidable.not_not.1 fun q => d (.inr (.inl q))
        have d3 : b3 = b4 := Decidable.not_not.1 fun q => d (.inr (.inr (.inl q)))
        rw [way, d1, bne_self_eq_false, condF, d2, bne_self_eq_false, condF, d3, bne_self_eq_false, condF, beq_eq_false_iff_ne.2 (fun q => d (.inr (.inr (.inr (.inl q))))), condF, beq_eq_false_iff_ne.2 (fun q => d (.inr (.inr (.inr (.inr q))))), condF]
      by_cases d2 : b6 + b5 = ((j : Nat) : Int)
      · rw [if_neg (by simpa using d2)]
        have k6 := keep_put h5 g2 (some (.row ⟨scC a b1 b2 b3 b4 b5 b6 q ((j : Nat) : Int), 0, false⟩))
        refine ⟨_, q, fun β K => ?_, k05.trans k6 (by simp), fun _ => ⟨look_put_same (look_lt m5), rq5.keep k6 (fun x hx hm => by simp at hm; have := (sq.2 x hx).1; omega), fun k hk => by have := (sq.2 k hk).1; omega⟩⟩
        rw [way2, d2, bne_self_eq_false, condF, gput_eq m5 rfl (by simp [scC])]
        rfl
      · rw [if_pos d2]
        refine ⟨h5, q, fun β K => ?_, k05, fun q => by cases q⟩
        rw [way2, bne_iff_ne.2 d2, condT]
/-! ### the central headers -/
theorem cen_b8 {bs : List Int} (h8 : B8 bs) (p : Nat) : B8 (cenAt bs p).ex := b8_cut h8 _ _
theorem rdCens_le (bs : List Int) : ∀ k p, p ≤ bs.length → (rdCens bs k p).1 = 0 → (rdCens bs k p).2.2 ≤ bs.length ∧ (rdCens bs k p).2.1.length = k
  | 0, p, h, _ => ⟨h, rfl⟩
  | k + 1, p, h, e => by
    rw [rdCens] at e ⊢
    by_cases c : cenErr bs p = 0
    · rw [if_neg (by simpa using c)] at e ⊢
      have hb : p + cenLen bs p ≤ bs.length := by
        unfold cenErr at c
        split at c
        · rename_i q; exact absurd c q
        · split at c
          · cases c
          · omega
      obtain ⟨h1, h2⟩ := rdCens_le bs k (p + cenLen bs p) hb e
      exact ⟨h1, by simp [h2]⟩
    · rw [if_pos c] at e; exact absurd e c
theorem cens_l0 {gc : Nat} {s : Sl} {CB : List Int} (h8 : B8 CB) (hm : CB.length ≤ 2000000) {total lo : Nat} (ht : total ≤ 100000) {R : Nat} (hR : 4000000 < R) (hown : ∀ k ∈ ownC gc s, k < lo) :
    ∀ (k i n p : Nat) (h : GH) (y : Sl) (l : List ItR), i + k = total → k < n → l.length = i → lo ≤ h.next → Cur h gc s CB (p : Nat) 0 → p ≤ CB.length → Its h y lo l →
    ∃ h', Keep h h' (gc :: rowsOf y) ∧ ((rdCens CB k p).1 = 0 → ∃ y' l', Its h' y' lo (l ++ l') ∧ l'.map ItR.c = (rdCens CB k p).2.1 ∧ (∀ x ∈ l', x.ex = [] ∧ x.da = [] ∧ B8 x.c.ex ∧ x.c.ex.length ≤ CB.length) ∧ Cur h' gc s CB ((rdCens CB k p).2.2 : Nat) 0 ∧ ∀ (β : Type) (K0 : Sl → Option Addr → GH → Option β) (Kr : Sl → Int → GH → Option β) (F1 : Sl → GH → (Option Addr → GH → Option β) → Option β) (F3 : Option Addr → GH → (Int → GH → Option β) → Option β) (F4 : Int → Int → Int → Int → Int → Int → Int → Int → Sl → Sl → Int → Int → Int → Int → Int → Sl → GH → (Int → GH → Option β) → Option β),
        F_denote_scanner_centrals_l0 F1 (F_record_ReadCentral R) F3 F4 R n y (some ⟨gc, 0, none⟩) (total : Nat) (i : Nat) h K0 Kr = K0 y' (some ⟨gc, 0, none⟩) h') ∧
      ((rdCens CB k p).1 ≠ 0 → ∀ (β : Type) (K0 : Sl → Option Addr → GH → Option β) (Kr : Sl → Int → GH → Option β) (F1 : Sl → GH → (Option Addr → GH → Option β) → Option β) (F3 : Option Addr → GH → (Int → GH → Option β) → Option β) (F4 : Int → Int → Int → Int → Int → Int → Int → Int → Sl → Sl → Int → Int → Int → Int → Int → Sl → GH → (Int → GH → Option β) → Option β),
        F_denote_scanner_centrals_l0 F1 (F_record_ReadCentral R) F3 F4 R n y (some ⟨gc, 0, none⟩) (total : Nat) (i : Nat) h K0 Kr = Kr ⟨none, 0, 0⟩ (rdCens CB k p).1 h')
  | 0, i, n, p, h, y, l, hi, hn, hl, hlo, C, hp, it => by
    obtain ⟨n, rfl⟩ : ∃ n', n = n' + 1 := ⟨n - 1, by omega⟩
    refine ⟨h, .refl _ _, fun _ => ⟨y, [], by rw [List.append_nil]; exact it, rfl, by simp, C, fun β K0 Kr F1 F3 F4 => ?_⟩, fun q => absurd rfl q⟩
    rw [F_denote_scanner_centrals_l0_succ, decF (by omega), condF]
  | k + 1, i, n, p, h, y, l, hi, hn, hl, hlo, C, hp, it => by
    obtain ⟨n, rfl⟩ : ∃ n', n = n' + 1 := ⟨n - 1, by omega⟩
    have hyl := it.lt
    have C0 : CurT h gc s CB p 0 := ⟨fun _ => C, fun q => absurd hp (by omega)⟩
    obtain ⟨h1, a1, a2, a3, a4, a5, a6, a7, a8, q9, q10, a11, a12, a13, a14, a15, q16, nm, ex, cm, e1, k1, w1⟩ := (CL.start C0).readCentral h8 (by omega) (R := R) (by omega)
    obtain ⟨g2, h2, k2, n2, l2, e2⟩ := tmp_row h1 [Value.int .i64 0, Value.int .i64 0, Value.int .i64 0, Value.int .i64 0, Value.int .i64 0, Value.int .u32 0, Value.int .u32 0, Value.int .u32 0, Value.slice none 0 0, Value.slice none 0 0, Value.int .i64 0, Value.int .i64 0, Value.int .i64 0, Value.int .u32 0, Value.int .u32 0, Value.slice none 0 0] [Value.int .i64 a1, Value.int .i64 a2, Value.int .i64 a3, Value.int .i64 a4, Value.int .i64 a5, Value.int .u32 a6, Value.int .u32 a7, Value.int .u32 a8, Value.slice q9.a q9.n q9.c, Value.slice q10.a q10.n q10.c, Value.int .i64 a11, Value.int .i64 a12, Value.int .i64 a13, Value.int .u32 a14, Value.int .u32 a15, Value.slice q16.a q16.n q16.c] rfl rfl rfl
    have c2 := fun o => cell_of l2 o
    have k02 : Keep h h2 [gc] := k1.trans k2 (by simp)
    have hgc := hown gc (by simp [ownC])
    have it2 := it.keep k02 (fun z hz => by simp at hz; omega)
    have b1 := k1.1
    have b2 := k2.1
    rw [rdCens]
    by_cases c : cenErr CB p = 0
    · rw [if_neg (by simpa using c)]
      rw [c] at e1
      obtain ⟨hc, hC⟩ := w1 c
      have hb : p + cenLen CB p ≤ CB.length := by
        have c := c
        unfold cenErr at c
        split at c
        · rename_i q; exact absurd c q
        · split at c
          · cases c
          · omega
      have o9 := hC.sl q9 nm (by simp)
      have o10 := hC.sl q10 ex (by simp)
      have o16 := hC.sl q16 cm (by simp)
      have C2 := (hC.cur.ok (by omega)).keep k2 (by simp)
      obtain ⟨h3, y3, e3, it3, k3, n3⟩ := it2.app ⟨⟨a1, a2, a3, a4, a5, a6, a7, a8, nm, ex, a11, a12, a13, a14, a15, cm⟩, [], [], q9, q10, q16, ⟨none, 0, 0⟩, ⟨none, 0, 0⟩⟩ (by omega)
        ⟨o9.1.keep k2 (by simp), o10.1.keep k2 (by simp), o16.1.keep k2 (by simp), Row.nil, Row.nil⟩
        (fun z hz => by
          have : h.next ≤ z := by
            simp only [ItR.rows, List.mem_append] at hz
            rcases hz with (((hz | hz) | hz) | hz) | hz
            · exact (o9.2 z hz).1
            · exact (o10.2 z hz).1
            · exact (o16.2 z hz).1
            · simp [rowsOf] at hz
            · simp [rowsOf] at hz
          exact ⟨by omega, fun hy => by have := hyl z hy; omega⟩) (by omega)
      have b3 := k3.1
      have C3 := C2.keep k3 (fun z hz hy => by have := hown z hz; have := it.lo z hy; omega)
      obtain ⟨h4, k4, ok4, no4⟩ := cens_l0 h8 hm ht hR hown k (i + 1) n (p + cenLen CB p) h3 y3 _ (by omega) (by omega) (by simp; omega) (by omega) C3 hb it3
      have k04 : Keep h h4 (gc :: rowsOf y) := ((k02.mono (o1 := gc :: rowsOf y) (by simp)).trans k3 (fun z hz => .inl (by simp [hz]))).trans k4 (fun z hz => by
        rcases List.mem_cons.1 hz with q | q
        · exact .inl (by simp [q])
        · rcases n3 z q with q | q
          · exact .inl (by simp [q])
          · exact .inr (by omega))
      have step : ∀ (β : Type) (K0 : Sl → Option Addr → GH → Option β) (Kr : Sl → Int → GH → Option β) (F1 : Sl → GH → (Option Addr → GH → Option β) → Option β) (F3 : Option Addr → GH → (Int → GH → Option β) → Option β) (F4 : Int → Int → Int → Int → Int → Int → Int → Int → Sl → Sl → Int → Int → Int → Int → Int → Sl → GH → (Int → GH → Option β) → Option β),
          F_denote_scanner_centrals_l0 F1 (F_record_ReadCentral R) F3 F4 R (n + 1) y (some ⟨gc, 0, none⟩) (total : Nat) (i : Nat) h K0 Kr = F_denote_scanner_centrals_l0 F1 (F_record_ReadCentral R) F3 F4 R n y3 (some ⟨gc, 0, none⟩) (total : Nat) ((i + 1 : Nat) : Int) h3 K0 Kr := by
        intro β K0 Kr F1 F3 F4
        rw [F_denote_scanner_centrals_l0_succ, decT (by omega), condT, e1]
        refine (e2 β _).trans ?_
        rw [bne_self_eq_false, condF]
        simp only [c2, Nat.zero_add, Nat.reduceAdd, nth_s, nth_0, exI_s, exS_s']
        refine (e3 β _).trans ?_
        rw [i64w (by omega), show ((i : Nat) : Int) + 1 = ((i + 1 : Nat) : Int) by omega]
      refine ⟨h4, k04, fun q => ?_, fun q β K0 Kr F1 F3 F4 => ?_⟩
      · obtain ⟨y4, l4, i4, m4, x4, C4, e4⟩ := ok4 q
        refine ⟨y4, _ :: l4, by simpa using i4, ?_, fun x hx => ?_, C4, fun β K0 Kr F1 F3 F4 => ?_⟩
        · rw [List.map_cons, m4, ← hc]
        · rcases List.mem_cons.1 hx with rfl | hx
          · refine ⟨rfl, rfl, ?_, ?_⟩
            · show B8 ex
              have : ex = (cenAt CB p).ex := by rw [← hc]
              rw [this]; exact cen_b8 h8 p
            · show ex.length ≤ _
              have : ex = (cenAt CB p).ex := by rw [← hc]
              rw [this]
              show (cutL _ _ _).length ≤ _
              unfold cutL; simp; omega
          · exact x4 x hx
        · rw [step, e4]
      · rw [step, no4 q]
    · rw [if_pos c]
      refine ⟨h2, k02.mono (by simp), fun q => absurd q c, fun _ β K0 Kr F1 F3 F4 => ?_⟩
      rw [F_denote_scanner_centrals_l0_succ, decT (by omega), condT, e1]
      refine (e2 β _).trans ?_
      rw [bne_iff_ne.2 c, condT]
theorem cens_l1 {y0 y : Sl} {lo : Nat} {l : List ItR} (hx : ∀ x ∈ l, B8 x.c.ex ∧ x.c.ex.length ≤ 2000000) (hl : l.length ≤ 1000000) {R : Nat} (hR : 4000000 < R) :
    ∀ (k i n : Nat) (h : GH), i + k = l.length → k < n → Its h y lo l →
    ∃ h', Keep h h' [] ∧ ∀ (β : Type) (K2 : Sl → GH → Option β) (Kr : Sl → Int → GH → Option β) (F1 : Sl → GH → (Option Addr → GH → Option β) → Option β) (F2 : Option Addr → GH → (Int → Int → Int → Int → Int → Int → Int → Int → Sl → Sl → Int → Int → Int → Int → Int → Sl → Int → GH → Option β) → Option β) (F3 : Option Addr → GH → (Int → GH → Option β) → Option β),
      F_denote_scanner_centrals_l1 F1 F2 F3 (F_denote_CheckCentral R) R n y0 y ((l.length : Nat) : Int) (i : Nat) h K2 Kr = if chkCs ((l.drop i).map ItR.c) ≠ 0 then Kr ⟨none, 0, 0⟩ (chkCs ((l.drop i).map ItR.c)) h' else K2 y0 h'
  | 0, i, n, h, hi, hn, it => by
    obtain ⟨n, rfl⟩ : ∃ n', n = n' + 1 := ⟨n - 1, by omega⟩
    refine ⟨h, .refl _ _, fun β K2 Kr F1 F2 F3 => ?_⟩
    rw [F_denote_scanner_centrals_l1_succ, decF (by omega), condF, List.drop_eq_nil_of_le (by omega), List.map_nil, chkCs, if_neg (by simp)]
  | k + 1, i, n, h, hi, hn, it => by
    obtain ⟨n, rfl⟩ : ∃ n', n = n' + 1 := ⟨n - 1, by omega⟩
    have hil : i < l.length := by omega
    have hmem := List.getElem_mem hil
    have hd : l.drop i = l[i] :: l.drop (i + 1) := List.drop_eq_getElem_cons hil
    obtain ⟨g1, h1, k1, n1, l1, e1⟩ := tmp_row h [Value.int .i64 0, Value.int .i64 0, Value.int .i64 0, Value.int .i64 0, Value.int .i64 0, Value.int .u32 0, Value.int .u32 0, Value.int .u32 0, Value.slice none 0 0, Value.slice none 0 0, Value.int .i64 0, Value.int .i64 0, Value.int .i64 0, Value.int .u32 0, Value.int .u32 0, Value.slice none 0 0, Value.slice none 0 0, Value.slice none 0 0] [Value.int .i64 l[i].c.a1, Value.int .i64 l[i].c.a2, Value.int .i64 l[i].c.a3, Value.int .i64 l[i].c.a4, Value.int .i64 l[i].c.a5, Value.int .u32 l[i].c.a6, Value.int .u32 l[i].c.a7, Value.int .u32 l[i].c.a8, Value.slice l[i].s9.a l[i].s9.n l[i].s9.c, Value.slice l[i].s10.a l[i].s10.n l[i].s10.c, Value.int .i64 l[i].c.a11, Value.int .i64 l[i].c.a12, Value.int .i64 l[i].c.a13, Value.int .u32 l[i].c.a14, Value.int .u32 l[i].c.a15, Value.slice l[i].s16.a l[i].s16.n l[i].s16.c, Value.slice l[i].s17.a l[i].s17.n l[i].s17.c, Value.slice l[i].s18.a l[i].s18.n l[i].s18.c] rfl rfl rfl
    have c1 := fun o => cell_of l1 o
    have ok := it.ok _ hmem
    obtain ⟨h2, k2, e2⟩ := check_central h1 l[i].c.a1 l[i].c.a2 l[i].c.a3 l[i].c.a4 l[i].c.a5 l[i].c.a6 l[i].c.a7 l[i].c.a8 l[i].s9 l[i].s10 l[i].c.a11 l[i].c.a12 l[i].c.a13 l[i].c.a14 l[i].c.a15 l[i].s16 (ok.r10.keep k1 (by simp)) (hx _ hmem).1 (hx _ hmem).2 hR
    have k02 := k1.trans k2 (by simp)
    obtain ⟨h3, k3, e3⟩ := cens_l1 hx hl hR (y0 := y0) k (i + 1) n h2 (by omega) (by omega) (it.keep k02 (by simp))
    have hstep : ∀ (β : Type) (K2 : Sl → GH → Option β) (Kr : Sl → Int → GH → Option β) (F1 : Sl → GH → (Option Addr → GH → Option β) → Option β) (F2 : Option Addr → GH → (Int → Int → Int → Int → Int → Int → Int → Int → Sl → Sl → Int → Int → Int → Int → Int → Sl → Int → GH → Option β) → Option β) (F3 : Option Addr → GH → (Int → GH → Option β) → Option β),
        F_denote_scanner_centrals_l1 F1 F2 F3 (F_denote_CheckCentral R) R (n + 1) y0 y ((l.length : Nat) : Int) (i : Nat) h K2 Kr = (bif chkN l[i].c != 0 then Kr ⟨none, 0, 0⟩ (chkN l[i].c) h2 else F_denote_scanner_centrals_l1 F1 F2 F3 (F_denote_CheckCentral R) R n y0 y ((l.length : Nat) : Int) ((i + 1 : Nat) : Int) h2 K2 Kr) := by
      intro β K2 Kr F1 F2 F3
      rw [F_denote_scanner_centrals_l1_succ, decT (by omega), condT]
      refine (it.at_ hil _).trans ?_
      refine (e1 β _).trans ?_
      simp only [c1, Nat.zero_add, Nat.reduceAdd, nth_s, nth_0, exI_s, exS_s']
      refine (e2 β _).trans ?_
      rw [i64w (by omega), show ((i : Nat) : Int) + 1 = ((i + 1 : Nat) : Int) by omega]
      rfl
    by_cases c : chkN l[i].c = 0
    · refine ⟨h3, k02.trans k3 (by simp), fun β K2 Kr F1 F2 F3 => ?_⟩
      have hch : chkCs ((l.drop i).map ItR.c) = chkCs ((l.drop (i + 1)).map ItR.c) := by rw [hd, List.map_cons, chkCs, if_neg (by simpa using c)]
      rw [hstep, c, bne_self_eq_false, condF, e3, hch]
    · refine ⟨h2, k02, fun β K2 Kr F1 F2 F3 => ?_⟩
      have hch : chkCs ((l.drop i).map ItR.c) = chkN l[i].c := by rw [hd, List.map_cons, chkCs, if_pos c]
      rw [hstep, bne_iff_ne.2 c, condT, hch, if_pos c]
theorem scan_centrals {h : GH} {g2 : Nat} {a q : Sl} {bs : List Int} {b1 b2 b3 b4 b5 b6 : Int} {at_ off total : Nat} (hl : h.look g2 = some (.row ⟨scC a b1 b2 b3 (total : Nat) b5 (off : Nat) q (at_ : Nat), 0, false⟩)) (r : Rd h a bs) (h8 : B8 bs) (hm : bs.length ≤ 2000000) (h1 : off ≤ at_) (h2 : at_ ≤ bs.length) (ht : total ≤ 100000) {R : Nat} (hR : 4000000 < R) :
    ∃ h', Keep h h' [] ∧ ((censP ((bs.take at_).drop off) total).1 = 0 → ∃ y l, Its h' y h.next l ∧ l.map ItR.c = (censP ((bs.take at_).drop off) total).2 ∧ (∀ x ∈ l, x.ex = [] ∧ x.da = []) ∧ ∀ (β : Type) (K : Sl → Int → GH → Option β), F_denote_scanner_centrals R (some ⟨g2, 0, none⟩) h K = K y 0 h') ∧
      ((censP ((bs.take at_).drop off) total).1 ≠ 0 → ∀ (β : Type) (K : Sl → Int → GH → Option β), F_denote_scanner_centrals R (some ⟨g2, 0, none⟩) h K = K ⟨none, 0, 0⟩ (censP ((bs.take at_).drop off) total).1 h') := by
  have hn := r.n
  have hcap := r.cap
  have rc := r.cut (lo := off) (hi := at_) (mx := a.c) h1 h2 (by omega) (Nat.le_refl _)
  have hCB : (bs.drop off).take (at_ - off) = (bs.take at_).drop off := by rw [List.drop_take]
  rw [hCB] at rc
  generalize hX : (bs.take at_).drop off = CB at *
  have h8c : B8 CB := fun b hb => by rw [← hX] at hb; exact h8 b (List.mem_of_mem_take (List.mem_of_mem_drop hb))
  have hmc : CB.length ≤ 2000000 := by rw [← hX]; simp; omega
  obtain ⟨h2', gc, s, e2, C2, k2, n2⟩ := open_cur rc (by omega) R
  have l2 := k2.look hl (by simp)
  have c0 := fun o => cell_of hl o
  have c2 := fun o => cell_of l2 o
  have hb2 := k2.1
  have start : ∀ (β : Type) (K : Sl → Int → GH → Option β), F_denote_scanner_centrals R (some ⟨g2, 0, none⟩) h K = F_denote_scanner_centrals_l0 (F_field_Open R) (F_record_ReadCentral R) (F_field_Cursor_Left R) (F_denote_CheckCentral R) R R ⟨none, 0, 0⟩ (some ⟨gc, 0, none⟩) ((total : Nat) : Int) ((0 : Nat) : Int) h2' (fun w67 w68 h69 => F_field_Cursor_Left R w68 h69 fun r70 h71 => (bif decide (r70 > 0) then K ⟨none, 0, 0⟩ 14 h71 else F_denote_scanner_centrals_l1 (F_field_Open R) (F_record_ReadCentral R) (F_field_Cursor_Left R) (F_denote_CheckCentral R) R R w67 w67 ((w67.n : Nat) : Int) 0 h71 (fun w120 h121 => K w120 0 h121) (fun w122 w123 h124 => K w122 w123 h124))) (fun w125 w126 h127 => K w125 w126 h127) := by
    intro β K
    unfold F_denote_scanner_centrals
    rw [F_denote_scanner_centrals_gen]
    simp only [exA_s, c0, scC, Nat.zero_add, Nat.reduceAdd, nth_s, nth_0, exI_s, exS_s']
    rw [bnd_t (by omega) (by omega), bnd_t (by omega) (by omega), Int.toNat_natCast, Int.toNat_natCast, e2]
    simp only [exA_s, c2, scC, Nat.zero_add, Nat.reduceAdd, nth_s, nth_0, exI_s, exS_s']
    rfl
  obtain ⟨h3, k3, ok3, no3⟩ := cens_l0 (lo := h2'.next) h8c hmc ht hR C2.lt total 0 R 0 h2' ⟨none, 0, 0⟩ [] (by omega) (by omega) rfl (Nat.le_refl _) C2 (Nat.zero_le _) Its.nil
  have hgc := n2 gc (by simp [ownC])
  have k03 : Keep h h3 [] := k2.trans k3 (fun z hz => .inr (by simp [rowsOf] at hz; omega))
  unfold censP
  by_cases c : (rdCens CB total 0).1 = 0
  · obtain ⟨y, l, it3, m3, x3, C3, e3⟩ := ok3 c
    rw [List.nil_append] at it3
    have hle := rdCens_le CB total 0 (Nat.zero_le _) c
    have hll : l.length ≤ 100000 := by
      have := congrArg List.length m3
      rw [List.length_map, hle.2] at this; omega
    rw [if_neg (by simpa using c)]
    have hleft := fun β K => left_cur (β := β) C3 ⟨by omega, by omega⟩ (by omega) R K
    by_cases c2 : (rdCens CB total 0).2.2 < CB.length
    · rw [if_pos c2]
      refine ⟨h3, k03, fun q => (by cases q), fun _ β K => ?_⟩
      rw [start]
      refine (e3 β _ _ _ _ _).trans ?_
      rw [hleft, leftP, if_pos rfl, decT (by omega), condT]
    · rw [if_neg c2]
      obtain ⟨h4, k4, e4⟩ := cens_l1 (y0 := y) (fun x hx => ⟨(x3 x hx).2.2.1, by have := (x3 x hx).2.2.2; omega⟩) (by omega) hR l.length 0 R h3 (by omega) (by omega) it3
      rw [List.drop_zero, m3] at e4
      have hyn := it3.n
      have way : ∀ (β : Type) (K : Sl → Int → GH → Option β), F_denote_scanner_centrals R (some ⟨g2, 0, none⟩) h K = if chkCs (rdCens CB total 0).2.1 ≠ 0 then K ⟨none, 0, 0⟩ (chkCs (rdCens CB total 0).2.1) h4 else K y 0 h4 := by
        intro β K
        rw [start]
        refine (e3 β _ _ _ _ _).trans ?_
        rw [hleft, leftP, if_pos rfl, decF (by omega), condF, hyn]
        exact e4 β _ _ _ _ _
      by_cases c3 : chkCs (rdCens CB total 0).2.1 = 0
      · rw [if_neg (by simpa using c3)]
        refine ⟨h4, k03.trans k4 (by simp), fun _ => ⟨y, l, ?_, m3, fun x hx => ⟨(x3 x hx).1, (x3 x hx).2.1⟩, fun β K => ?_⟩, fun q => absurd rfl q⟩
        · have i4 := it3.keep k4 (by simp)
          exact ⟨i4.vec, i4.ok, fun x hx z hz => ⟨by have := (i4.own x hx z hz).1; omega, (i4.own x hx z hz).2⟩, fun z hz => by have := i4.lo z hz; omega⟩
        · rw [way, if_neg (by simpa using c3)]
      · rw [if_pos c3]
        refine ⟨h4, k03.trans k4 (by simp), fun q => absurd q c3, fun _ β K => ?_⟩
        rw [way, if_pos c3]
  · rw [if_pos c]
    refine ⟨h3, k03, fun q => absurd q c, fun _ β K => ?_⟩
    rw [start]
    exact no3 c β _ _ _ _ _
end Go.Proofs.Ytibngikhlgmhaaa.Gx

