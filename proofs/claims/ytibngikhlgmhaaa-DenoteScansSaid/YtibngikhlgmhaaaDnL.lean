/- Central headers in memory; the document's heads, Scan. No condition. -/
import Derived.Test.YtibngikhlgmhaaaDnK
namespace Go.Proofs.Ytibngikhlgmhaaa.Gx
open Go
set_option linter.unusedVariables false
set_option linter.unusedSimpArgs false
structure CnR where
  c : Cn
  (s9 s10 s16 : Sl)
def CnR.cells (x : CnR) : List Value := [Value.int .i64 x.c.a1, Value.int .i64 x.c.a2, Value.int .i64 x.c.a3, Value.int .i64 x.c.a4, Value.int .i64 x.c.a5, Value.int .u32 x.c.a6, Value.int .u32 x.c.a7, Value.int .u32 x.c.a8, Value.slice x.s9.a x.s9.n x.s9.c, Value.slice x.s10.a x.s10.n x.s10.c, Value.int .i64 x.c.a11, Value.int .i64 x.c.a12, Value.int .i64 x.c.a13, Value.int .u32 x.c.a14, Value.int .u32 x.c.a15, Value.slice x.s16.a x.s16.n x.s16.c]
def CnR.rows (x : CnR) : List Nat := rowsOf x.s9 ++ rowsOf x.s10 ++ rowsOf x.s16
def cnCells (l : List CnR) : List Value := l.flatMap CnR.cells
theorem cnCells_len (l : List CnR) : (cnCells l).length = l.length * 16 := by
  induction l with
  | nil => rfl
  | cons t l ih => simp only [cnCells, List.flatMap_cons, List.length_append, List.length_cons] at ih ⊢; rw [ih]; simp [CnR.cells]; omega
theorem cnCells_app (a b : List CnR) : cnCells (a ++ b) = cnCells a ++ cnCells b := by simp [cnCells]
theorem cnCells_get : ∀ (l : List CnR) (k : Nat) (hk : k < l.length) (j : Nat), j < 16 → (cnCells l)[k * 16 + j]? = l[k].cells[j]?
  | x :: l, 0, hk, j, hj => by
    show (x.cells ++ cnCells l)[0 * 16 + j]? = _
    rw [List.getElem?_append_left (by simp [CnR.cells]; omega)]
    simp
  | x :: l, k + 1, hk, j, hj => by
    show (x.cells ++ cnCells l)[(k + 1) * 16 + j]? = _
    rw [List.getElem?_append_right (by simp [CnR.cells]; omega), show (k + 1) * 16 + j - x.cells.length = k * 16 + j by simp [CnR.cells]; omega]
    exact cnCells_get l k (by simpa using hk) j hj
structure CnOk (h : GH) (x : CnR) : Prop where
  r9 : Rd h x.s9 x.c.nm
  r10 : Rd h x.s10 x.c.ex
  r16 : Rd h x.s16 x.c.cm
theorem CnOk.keep {h h' : GH} {x : CnR} {own : List Nat} (o : CnOk h x) (k : Keep h h' own) (hd : ∀ z ∈ x.rows, z ∉ own) : CnOk h' x :=
  ⟨o.r9.keep k fun z hz => hd z (by simp [CnR.rows, hz]), o.r10.keep k fun z hz => hd z (by simp [CnR.rows, hz]), o.r16.keep k fun z hz => hd z (by simp [CnR.rows, hz])⟩
theorem CnOk.lt {h : GH} {x : CnR} (o : CnOk h x) : ∀ z ∈ x.rows, z < h.next := fun z hz => by
  simp only [CnR.rows, List.mem_append] at hz
  rcases hz with (hz | hz) | hz
  · exact o.r9.lt z hz
  · exact o.r10.lt z hz
  · exact o.r16.lt z hz
structure Cts (h : GH) (y : Sl) (lo : Nat) (l : List CnR) : Prop where
  vec : Vec h y 16 (cnCells l)
  ok : ∀ x ∈ l, CnOk h x
  own : ∀ x ∈ l, ∀ k ∈ x.rows, lo ≤ k ∧ k ∉ rowsOf y
  lo : ∀ k ∈ rowsOf y, lo ≤ k
theorem Cts.n {h : GH} {y : Sl} {lo : Nat} {l : List CnR} (s : Cts h y lo l) : y.n = l.length := by have := s.vec.len; rw [cnCells_len] at this; omega
theorem Cts.keep {h h' : GH} {y : Sl} {lo : Nat} {l : List CnR} {own : List Nat} (s : Cts h y lo l) (k : Keep h h' own) (h1 : ∀ z ∈ own, z < lo) : Cts h' y lo l :=
  ⟨s.vec.keep k fun z hz hm => by have := s.lo z hz; have := h1 z hm; omega, fun x hx => (s.ok x hx).keep k fun z hz hm => by have := (s.own x hx z hz).1; have := h1 z hm; omega, s.own, s.lo⟩
theorem Cts.keep' {h h' : GH} {y : Sl} {lo : Nat} {l : List CnR} {own : List Nat} (s : Cts h y lo l) (k : Keep h h' own) (h1 : ∀ z ∈ rowsOf y, z ∉ own) (h2 : ∀ x ∈ l, ∀ z ∈ x.rows, z ∉ own) : Cts h' y lo l :=
  ⟨s.vec.keep k h1, fun x hx => (s.ok x hx).keep k (h2 x hx), s.own, s.lo⟩
theorem Cts.nil {h : GH} {lo : Nat} : Cts h ⟨none, 0, 0⟩ lo [] := ⟨Vec.nil, by simp, by simp, by simp [rowsOf]⟩
theorem Cts.lt {h : GH} {y : Sl} {lo : Nat} {l : List CnR} (s : Cts h y lo l) : ∀ z ∈ rowsOf y, z < h.next := s.vec.lt
theorem Cts.app {h : GH} {y : Sl} {lo : Nat} {l : List CnR} (s : Cts h y lo l) (x : CnR) (hl : l.length ≤ 1000000) (ox : CnOk h x) (hx : ∀ z ∈ x.rows, lo ≤ z ∧ z ∉ rowsOf y) (hlo : lo ≤ h.next) :
    ∃ h' y', (∀ (β : Type) (K : Sl → GH → Option β), (gnew [Value.int .i64 x.c.a1, Value.int .i64 x.c.a2, Value.int .i64 x.c.a3, Value.int .i64 x.c.a4, Value.int .i64 x.c.a5, Value.int .u32 x.c.a6, Value.int .u32 x.c.a7, Value.int .u32 x.c.a8, Value.slice x.s9.a x.s9.n x.s9.c, Value.slice x.s10.a x.s10.n x.s10.c, Value.int .i64 x.c.a11, Value.int .i64 x.c.a12, Value.int .i64 x.c.a13, Value.int .u32 x.c.a14, Value.int .u32 x.c.a15, Value.slice x.s16.a x.s16.n x.s16.c] 16 h fun g h1 => gappS 16 160 y ⟨(some ⟨g, 0, none⟩), 1, 1⟩ h1 K) = K y' h') ∧ Cts h' y' lo (l ++ [x]) ∧ Keep h h' (rowsOf y) ∧ (∀ z ∈ rowsOf y', z ∈ rowsOf y ∨ h.next ≤ z) := by
  have hn := s.n
  obtain ⟨h', y', e, v, k, n, _⟩ := app_one' (by_ := 160) s.vec x.cells rfl (by omega) rfl (by rw [hn]; simp only [most]; omega)
  have hi : ∀ w ∈ l ++ [x], CnOk h w ∧ ∀ z ∈ w.rows, lo ≤ z ∧ z ∉ rowsOf y := fun w hw => by
    rcases List.mem_append.1 hw with q | q
    · exact ⟨s.ok w q, s.own w q⟩
    · obtain rfl := List.mem_singleton.1 q; exact ⟨ox, hx⟩
  refine ⟨h', y', fun β K => e β K, ⟨by rw [cnCells_app]; simpa [cnCells] using v, fun w hw => (hi w hw).1.keep k (fun z hz => ((hi w hw).2 z hz).2), fun w hw z hz => ⟨((hi w hw).2 z hz).1, fun hy => ?_⟩, fun z hz => ?_⟩, k, n⟩
  · rcases n z hy with q | q
    · exact ((hi w hw).2 z hz).2 q
    · have := (hi w hw).1.lt z hz; omega
  · rcases n z hz with q | q
    · exact s.lo z q
    · omega
theorem Cts.at_ {h : GH} {y : Sl} {lo : Nat} {l : List CnR} (s : Cts h y lo l) {i : Nat} (hi : i < l.length) {β : Type} (K : Int → Int → Int → Int → Int → Int → Int → Int → Sl → Sl → Int → Int → Int → Int → Int → Sl → Option β) :
    (exA y.a fun g o => within (i : Nat) y.n (exI .i64 (h.cell ⟨g, o + ((i : Nat) : Int).toNat * 16, none⟩) fun x0 => exI .i64 (h.cell ⟨g, o + ((i : Nat) : Int).toNat * 16 + 1, none⟩) fun x1 => exI .i64 (h.cell ⟨g, o + ((i : Nat) : Int).toNat * 16 + 1 + 1, none⟩) fun x2 => exI .i64 (h.cell ⟨g, o + ((i : Nat) : Int).toNat * 16 + 1 + 1 + 1, none⟩) fun x3 => exI .i64 (h.cell ⟨g, o + ((i : Nat) : Int).toNat * 16 + 1 + 1 + 1 + 1, none⟩) fun x4 => exI .u32 (h.cell ⟨g, o + ((i : Nat) : Int).toNat * 16 + 1 + 1 + 1 + 1 + 1, none⟩) fun x5 => exI .u32 (h.cell ⟨g, o + ((i : Nat) : Int).toNat * 16 + 1 + 1 + 1 + 1 + 1 + 1, none⟩) fun x6 => exI .u32 (h.cell ⟨g, o + ((i : Nat) : Int).toNat * 16 + 1 + 1 + 1 + 1 + 1 + 1 + 1, none⟩) fun x7 => exS (h.cell ⟨g, o + ((i : Nat) : Int).toNat * 16 + 1 + 1 + 1 + 1 + 1 + 1 + 1 + 1, none⟩) fun x8 => exS (h.cell ⟨g, o + ((i : Nat) : Int).toNat * 16 + 1 + 1 + 1 + 1 + 1 + 1 + 1 + 1 + 1, none⟩) fun x9 => exI .i64 (h.cell ⟨g, o + ((i : Nat) : Int).toNat * 16 + 1 + 1 + 1 + 1 + 1 + 1 + 1 + 1 + 1 + 1, none⟩) fun x10 => exI .i64 (h.cell ⟨g, o + ((i : Nat) : Int).toNat * 16 + 1 + 1 + 1 + 1 + 1 + 1 + 1 + 1 + 1 + 1 + 1, none⟩) fun x11 => exI .i64 (h.cell ⟨g, o + ((i : Nat) : Int).toNat * 16 + 1 + 1 + 1 + 1 + 1 + 1 + 1 + 1 + 1 + 1 + 1 + 1, none⟩) fun x12 => exI .u32 (h.cell ⟨g, o + ((i : Nat) : Int).toNat * 16 + 1 + 1 + 1 + 1 + 1 + 1 + 1 + 1 + 1 + 1 + 1 + 1 + 1, none⟩) fun x13 => exI .u32 (h.cell ⟨g, o + ((i : Nat) : Int).toNat * 16 + 1 + 1 + 1 + 1 + 1 + 1 + 1 + 1 + 1 + 1 + 1 + 1 + 1 + 1, none⟩) fun x14 => exS (h.cell ⟨g, o + ((i : Nat) : Int).toNat * 16 + 1 + 1 + 1 + 1 + 1 + 1 + 1 + 1 + 1 + 1 + 1 + 1 + 1 + 1 + 1, none⟩) fun x15 => K x0 x1 x2 x3 x4 x5 x6 x7 x8 x9 x10 x11 x12 x13 x14 x15)) = K l[i].c.a1 l[i].c.a2 l[i].c.a3 l[i].c.a4 l[i].c.a5 l[i].c.a6 l[i].c.a7 l[i].c.a8 l[i].s9 l[i].s10 l[i].c.a11 l[i].c.a12 l[i].c.a13 l[i].c.a14 l[i].c.a15 l[i].s16 := by
  have hn := s.n
  have hl := cnCells_len l
  obtain ⟨g, o, ha, hc⟩ := s.vec.row.cell (by omega) (by omega)
  have hq : ∀ j, j < 16 → h.cell ⟨g, o + (((i : Nat) : Int).toNat * 16 + j), none⟩ = l[i].cells[j]? := fun j hj => by
    rw [Int.toNat_natCast, hc _ (by omega), cnCells_get l i hi j hj]
  rw [ha]
  simp only [exA_s]
  rw [within_t (by omega) (by omega)]
  have hq0 := hq 0 (by omega)
  rw [Nat.add_zero] at hq0
  simp only [Nat.add_assoc, Nat.reduceAdd]
  rw [hq0, hq 1 (by omega), hq 2 (by omega), hq 3 (by omega), hq 4 (by omega), hq 5 (by omega), hq 6 (by omega), hq 7 (by omega), hq 8 (by omega), hq 9 (by omega), hq 10 (by omega), hq 11 (by omega), hq 12 (by omega), hq 13 (by omega), hq 14 (by omega), hq 15 (by omega)]
  rfl
theorem hds_l0 {gc : Nat} {s : Sl} {CB : List Int} (h8 : B8 CB) (hm : CB.length ≤ 2000000) {total lo : Nat} (ht : total ≤ 100000) {R : Nat} (hR : 4000000 < R) (hown : ∀ k ∈ ownC gc s, k < lo) :
    ∀ (k i n p : Nat) (h : GH) (y : Sl) (l : List CnR), i + k = total → k < n → l.length = i → lo ≤ h.next → RCur h gc s CB (p : Nat) 0 → p ≤ CB.length → Cts h y lo l →
    ∃ h', Keep h h' (gc :: rowsOf y) ∧ ((rdCens CB k p).1 = 0 → ∃ y' l', Cts h' y' lo (l ++ l') ∧ l'.map CnR.c = (rdCens CB k p).2.1 ∧ (∀ x ∈ l', B8 x.c.ex ∧ x.c.ex.length ≤ CB.length) ∧ RCur h' gc s CB ((rdCens CB k p).2.2 : Nat) 0 ∧ ∀ (β : Type) (K0 : Sl → Option Addr → GH → Option β) (Kr : Sl → Int → GH → Option β) (F2 : Option Addr → GH → (Int → GH → Option β) → Option β) (F3 : Int → Int → Int → Int → Int → Int → Int → Int → Sl → Sl → Int → Int → Int → Int → Int → Sl → GH → (Int → GH → Option β) → Option β),
        F_ref26_heads_l0 (F_ref24_ReadCentral R) F2 F3 R n (total : Nat) y (some ⟨gc, 0, none⟩) (i : Nat) h K0 Kr = K0 y' (some ⟨gc, 0, none⟩) h') ∧
      ((rdCens CB k p).1 ≠ 0 → ∀ (β : Type) (K0 : Sl → Option Addr → GH → Option β) (Kr : Sl → Int → GH → Option β) (F2 : Option Addr → GH → (Int → GH → Option β) → Option β) (F3 : Int → Int → Int → Int → Int → Int → Int → Int → Sl → Sl → Int → Int → Int → Int → Int → Sl → GH → (Int → GH → Option β) → Option β),
        F_ref26_heads_l0 (F_ref24_ReadCentral R) F2 F3 R n (total : Nat) y (some ⟨gc, 0, none⟩) (i : Nat) h K0 Kr = Kr ⟨none, 0, 0⟩ (rdCens CB k p).1 h')
  | 0, i, n, p, h, y, l, hi, hn, hl, hlo, C, hp, it => by
    obtain ⟨n, rfl⟩ : ∃ n', n = n' + 1 := ⟨n - 1, by omega⟩
    refine ⟨h, .refl _ _, fun _ => ⟨y, [], by rw [List.append_nil]; exact it, rfl, by simp, C, fun β K0 Kr F2 F3 => ?_⟩, fun q => absurd rfl q⟩
    rw [F_ref26_heads_l0_succ, decF (by omega), condF]
  | k + 1, i, n, p, h, y, l, hi, hn, hl, hlo, C, hp, it => by
    obtain ⟨n, rfl⟩ : ∃ n', n = n' + 1 := ⟨n - 1, by omega⟩
    have hyl := it.lt
    obtain ⟨h1, a1, a2, a3, a4, a5, a6, a7, a8, q9, q10, a11, a12, a13, a14, a15, q16, nm, ex, cm, qs', e1, k1, w1⟩ := (RL.start (C.t0 hp)).readCentral h8 hm hR
    obtain ⟨g2, h2, k2, n2, l2, e2⟩ := tmp_row h1 [Value.int .i64 0, Value.int .i64 0, Value.int .i64 0, Value.int .i64 0, Value.int .i64 0, Value.int .u32 0, Value.int .u32 0, Value.int .u32 0, Value.slice none 0 0, Value.slice none 0 0, Value.int .i64 0, Value.int .i64 0, Value.int .i64 0, Value.int .u32 0, Value.int .u32 0, Value.slice none 0 0] [Value.int .i64 a1, Value.int .i64 a2, Value.int .i64 a3, Value.int .i64 a4, Value.int .i64 a5, Value.int .u32 a6, Value.int .u32 a7, Value.int .u32 a8, Value.slice q9.a q9.n q9.c, Value.slice q10.a q10.n q10.c, Value.int .i64 a11, Value.int .i64 a12, Value.int .i64 a13, Value.int .u32 a14, Value.int .u32 a15, Value.slice q16.a q16.n q16.c] rfl rfl rfl
    have c2 := fun o => cell_of l2 o
    have k02 : Keep h h2 [gc] := k1.trans k2 (by simp)
    have hgc := hown gc (by simp [ownC])
    have it2 := it.keep k02 (fun z hz => by simp at hz; omega)
    have b1 := k1.1
    have b2 := k2.1
    rw [rdCens]
    by_cases c : cenErr CB p = 0
    · rw [if_neg (by simpa using c)]
      rw [c] at e1
      obtain ⟨hc, hC, m9, m10, m16⟩ := w1 c
      have hb : p + cenLen CB p ≤ CB.length := by
        have c := c
        unfold cenErr at c
        split at c
        · rename_i q; exact absurd c q
        · split at c
          · cases c
          · omega
      have o9 := hC.sl q9 nm m9
      have o10 := hC.sl q10 ex m10
      have o16 := hC.sl q16 cm m16
      have C2 := (hC.cur.ok (by omega)).keep k2 (by simp)
      obtain ⟨h3, y3, e3, it3, k3, n3⟩ := it2.app ⟨⟨a1, a2, a3, a4, a5, a6, a7, a8, nm, ex, a11, a12, a13, a14, a15, cm⟩, q9, q10, q16⟩ (by omega)
        ⟨o9.1.keep k2 (by simp), o10.1.keep k2 (by simp), o16.1.keep k2 (by simp)⟩
        (fun z hz => by
          have : h.next ≤ z := by
            simp only [CnR.rows, List.mem_append] at hz
            rcases hz with (hz | hz) | hz
            · exact (o9.2 z hz).1
            · exact (o10.2 z hz).1
            · exact (o16.2 z hz).1
          exact ⟨by omega, fun hy => by have := hyl z hy; omega⟩) (by omega)
      have b3 := k3.1
      have C3 := C2.keep k3 (fun z hz hy => by have := hown z hz; have := it.lo z hy; omega)
      obtain ⟨h4, k4, ok4, no4⟩ := hds_l0 h8 hm ht hR hown k (i + 1) n (p + cenLen CB p) h3 y3 _ (by omega) (by omega) (by simp; omega) (by omega) C3 hb it3
      have k04 : Keep h h4 (gc :: rowsOf y) := ((k02.mono (o1 := gc :: rowsOf y) (by simp)).trans k3 (fun z hz => .inl (by simp [hz]))).trans k4 (fun z hz => by
        rcases List.mem_cons.1 hz with q | q
        · exact .inl (by simp [q])
        · rcases n3 z q with q | q
          · exact .inl (by simp [q])
          · exact .inr (by omega))
      have step : ∀ (β : Type) (K0 : Sl → Option Addr → GH → Option β) (Kr : Sl → Int → GH → Option β) (F2 : Option Addr → GH → (Int → GH → Option β) → Option β) (F3 : Int → Int → Int → Int → Int → Int → Int → Int → Sl → Sl → Int → Int → Int → Int → Int → Sl → GH → (Int → GH → Option β) → Option β),
          F_ref26_heads_l0 (F_ref24_ReadCentral R) F2 F3 R (n + 1) (total : Nat) y (some ⟨gc, 0, none⟩) (i : Nat) h K0 Kr = F_ref26_heads_l0 (F_ref24_ReadCentral R) F2 F3 R n (total : Nat) y3 (some ⟨gc, 0, none⟩) ((i + 1 : Nat) : Int) h3 K0 Kr := by
        intro β K0 Kr F2 F3
        rw [F_ref26_heads_l0_succ, decT (by omega), condT, e1]
        refine (e2 β _).trans ?_
        rw [bne_self_eq_false, condF]
        simp only [c2, Nat.zero_add, Nat.reduceAdd, nth_s, nth_0, exI_s, exS_s']
        refine (e3 β _).trans ?_
        rw [i64w (by omega), show ((i : Nat) : Int) + 1 = ((i + 1 : Nat) : Int) by omega]
      refine ⟨h4, k04, fun q => ?_, fun q β K0 Kr F2 F3 => ?_⟩
      · obtain ⟨y4, l4, i4, m4, x4, C4, e4⟩ := ok4 q
        refine ⟨y4, _ :: l4, by simpa using i4, ?_, fun x hx => ?_, C4, fun β K0 Kr F2 F3 => ?_⟩
        · rw [List.map_cons, m4, ← hc]
        · rcases List.mem_cons.1 hx with rfl | hx
          · have : ex = (cenAt CB p).ex := by rw [← hc]
            refine ⟨?_, ?_⟩
            · show B8 ex
              rw [this]; exact cen_b8 h8 p
            · show ex.length ≤ _
              rw [this]
              show (cutL _ _ _).length ≤ _
              unfold cutL; simp; omega
          · exact x4 x hx
        · rw [step, e4]
      · rw [step, no4 q]
    · rw [if_pos c]
      refine ⟨h2, k02.mono (by simp), fun q => absurd q c, fun _ β K0 Kr F2 F3 => ?_⟩
      rw [F_ref26_heads_l0_succ, decT (by omega), condT, e1]
      refine (e2 β _).trans ?_
      rw [bne_iff_ne.2 c, condT]
theorem hds_l1 {y : Sl} {lo : Nat} {l : List CnR} (hx : ∀ x ∈ l, B8 x.c.ex ∧ x.c.ex.length ≤ 2000000) (hl : l.length ≤ 1000000) {R : Nat} (hR : 4000000 < R) :
    ∀ (k i n : Nat) (h : GH), i + k = l.length → k < n → Cts h y lo l →
    ∃ h', Keep h h' [] ∧ ∀ (β : Type) (K2 : Sl → GH → Option β) (Kr : Sl → Int → GH → Option β) (F1 : Option Addr → GH → (Int → Int → Int → Int → Int → Int → Int → Int → Sl → Sl → Int → Int → Int → Int → Int → Sl → Int → GH → Option β) → Option β) (F2 : Option Addr → GH → (Int → GH → Option β) → Option β),
      F_ref26_heads_l1 F1 F2 (F_ref26_CheckCentral R) R n y (i : Nat) h K2 Kr = if chkCs ((l.drop i).map CnR.c) ≠ 0 then Kr ⟨none, 0, 0⟩ (chkCs ((l.drop i).map CnR.c)) h' else K2 y h'
  | 0, i, n, h, hi, hn, it => by
    obtain ⟨n, rfl⟩ : ∃ n', n = n' + 1 := ⟨n - 1, by omega⟩
    have hyn := it.n
    refine ⟨h, .refl _ _, fun β K2 Kr F1 F2 => ?_⟩
    rw [F_ref26_heads_l1_succ, decF (by omega), condF, List.drop_eq_nil_of_le (by omega), List.map_nil, chkCs, if_neg (by simp)]
  | k + 1, i, n, h, hi, hn, it => by
    obtain ⟨n, rfl⟩ : ∃ n', n = n' + 1 := ⟨n - 1, by omega⟩
    have hyn := it.n
    have hil : i < l.length := by omega
    have hmem := List.getElem_mem hil
    have hd : l.drop i = l[i] :: l.drop (i + 1) := List.drop_eq_getElem_cons hil
    have ok := it.ok _ hmem
    obtain ⟨h2, k2, e2⟩ := ref_central h l[i].c.a1 l[i].c.a2 l[i].c.a3 l[i].c.a4 l[i].c.a5 l[i].c.a6 l[i].c.a7 l[i].c.a8 l[i].s9 l[i].s10 l[i].c.a11 l[i].c.a12 l[i].c.a13 l[i].c.a14 l[i].c.a15 l[i].s16 ok.r10 (hx _ hmem).1 (hx _ hmem).2 hR
    obtain ⟨h3, k3, e3⟩ := hds_l1 hx hl hR k (i + 1) n h2 (by omega) (by omega) (it.keep k2 (by simp))
    have hstep : ∀ (β : Type) (K2 : Sl → GH → Option β) (Kr : Sl → Int → GH → Option β) (F1 : Option Addr → GH → (Int → Int → Int → Int → Int → Int → Int → Int → Sl → Sl → Int → Int → Int → Int → Int → Sl → Int → GH → Option β) → Option β) (F2 : Option Addr → GH → (Int → GH → Option β) → Option β),
        F_ref26_heads_l1 F1 F2 (F_ref26_CheckCentral R) R (n + 1) y (i : Nat) h K2 Kr = (bif chkN l[i].c != 0 then Kr ⟨none, 0, 0⟩ (chkN l[i].c) h2 else F_ref26_heads_l1 F1 F2 (F_ref26_CheckCentral R) R n y ((i + 1 : Nat) : Int) h2 K2 Kr) := by
      intro β K2 Kr F1 F2
      rw [F_ref26_heads_l1_succ, decT (by omega), condT]
      refine (it.at_ hil _).trans ?_
      refine (e2 β _).trans ?_
      rw [i64w (by omega), show ((i : Nat) : Int) + 1 = ((i + 1 : Nat) : Int) by omega]
      rfl
    by_cases c : chkN l[i].c = 0
    · refine ⟨h3, k2.trans k3 (by simp), fun β K2 Kr F1 F2 => ?_⟩
      have hch : chkCs ((l.drop i).map CnR.c) = chkCs ((l.drop (i + 1)).map CnR.c) := by rw [hd, List.map_cons, chkCs, if_neg (by simpa using c)]
      rw [hstep, c, bne_self_eq_false, condF, e3, hch]
    · refine ⟨h2, k2, fun β K2 Kr F1 F2 => ?_⟩
      have hch : chkCs ((l.drop i).map CnR.c) = chkN l[i].c := by rw [hd, List.map_cons, chkCs, if_pos c]
      rw [hstep, bne_iff_ne.2 c, condT, hch, if_pos c]
theorem ref_heads {h : GH} {a : Sl} {CB : List Int} (r : Rd h a CB) (h8 : B8 CB) (hm : CB.length ≤ 2000000) {total : Nat} (ht : total ≤ 100000) {R : Nat} (hR : 4000000 < R) :
    ∃ h', Keep h h' [] ∧ ((censP CB total).1 = 0 → ∃ y l, Cts h' y h.next l ∧ l.map CnR.c = (censP CB total).2 ∧ ∀ (β : Type) (K : Sl → Int → GH → Option β), F_ref26_heads R a (total : Nat) h K = K y 0 h') ∧
      ((censP CB total).1 ≠ 0 → ∀ (β : Type) (K : Sl → Int → GH → Option β), F_ref26_heads R a (total : Nat) h K = K ⟨none, 0, 0⟩ (censP CB total).1 h') := by
  obtain ⟨h2, gc, e2, C2, k2, hgc⟩ := rcur_new r
  have hb2 := k2.1
  have start : ∀ (β : Type) (K : Sl → Int → GH → Option β), F_ref26_heads R a (total : Nat) h K = F_ref26_heads_l0 (F_ref24_ReadCentral R) (F_ref02_Cursor_Left R) (F_ref26_CheckCentral R) R R ((total : Nat) : Int) ⟨none, 0, 0⟩ (some ⟨gc, 0, none⟩) ((0 : Nat) : Int) h2 (fun w54 w55 h56 => F_ref02_Cursor_Left R w55 h56 fun r57 h58 => (bif decide (r57 > 0) then K ⟨none, 0, 0⟩ 14 h58 else F_ref26_heads_l1 (F_ref24_ReadCentral R) (F_ref02_Cursor_Left R) (F_ref26_CheckCentral R) R R w54 0 h58 (fun w84 h85 => K w84 0 h85) (fun w86 w87 h88 => K w86 w87 h88))) (fun w89 w90 h91 => K w89 w90 h91) := by
    intro β K
    unfold F_ref26_heads
    rw [F_ref26_heads_gen]
    refine (e2 β _).trans ?_
    rfl
  obtain ⟨h3, k3, ok3, no3⟩ := hds_l0 (lo := h2.next) h8 hm ht hR C2.lt total 0 R 0 h2 ⟨none, 0, 0⟩ [] (by omega) (by omega) rfl (Nat.le_refl _) C2 (Nat.zero_le _) Cts.nil
  have k03 : Keep h h3 [] := k2.trans k3 (fun z hz => .inr (by simp [rowsOf] at hz; omega))
  unfold censP
  by_cases c : (rdCens CB total 0).1 = 0
  · obtain ⟨y, l, it3, m3, x3, C3, e3⟩ := ok3 c
    rw [List.nil_append] at it3
    have hle := rdCens_le CB total 0 (Nat.zero_le _) c
    have hll : l.length ≤ 100000 := by
      have := congrArg List.length m3
      rw [List.length_map, hle.2] at this; omega
    rw [if_neg (by simpa using c)]
    have hleft := fun β K => rleft_eq (β := β) C3 (by omega) hm R K
    by_cases c2 : (rdCens CB total 0).2.2 < CB.length
    · rw [if_pos c2]
      refine ⟨h3, k03, fun q => (by cases q), fun _ β K => ?_⟩
      rw [start]
      refine (e3 β _ _ _ _).trans ?_
      rw [hleft, decT (by omega), condT]
    · rw [if_neg c2]
      obtain ⟨h4, k4, e4⟩ := hds_l1 (fun x hx => ⟨(x3 x hx).1, by have := (x3 x hx).2; omega⟩) (by omega) hR l.length 0 R h3 (by omega) (by omega) it3
      rw [List.drop_zero, m3] at e4
      have way : ∀ (β : Type) (K : Sl → Int → GH → Option β), F_ref26_heads R a (total : Nat) h K = if chkCs (rdCens CB total 0).2.1 ≠ 0 then K ⟨none, 0, 0⟩ (chkCs (rdCens CB total 0).2.1) h4 else K y 0 h4 := by
        intro β K
        rw [start]
        refine (e3 β _ _ _ _).trans ?_
        rw [hleft, decF (by omega), condF]
        exact e4 β _ _ _ _
      by_cases c3 : chkCs (rdCens CB total 0).2.1 = 0
      · rw [if_neg (by simpa using c3)]
        refine ⟨h4, k03.trans k4 (by simp), fun _ => ⟨y, l, ?_, m3, fun β K => ?_⟩, fun q => absurd rfl q⟩
        · have i4 := it3.keep k4 (by simp)
          exact ⟨i4.vec, i4.ok, fun x hx z hz => ⟨by have := (i4.own x hx z hz).1; omega, (i4.own x hx z hz).2⟩, fun z hz => by have := i4.lo z hz; omega⟩
        · rw [way, if_neg (by simpa using c3)]
      · rw [if_pos c3]
        refine ⟨h4, k03.trans k4 (by simp), fun q => absurd q c3, fun _ β K => ?_⟩
        rw [way, if_pos c3]
  · rw [if_pos c]
    refine ⟨h3, k03, fun q => absurd q c, fun _ β K => ?_⟩
    rw [start]
    exact no3 c β _ _ _ _
theorem rdCens_len (bs : List Int) : ∀ k p, ∀ c ∈ (rdCens bs k p).2.1, c.nm.length ≤ bs.length
  | 0, p, c, h => by simp [rdCens] at h
  | k + 1, p, c, h => by
    rw [rdCens] at h
    split at h
    · simp at h
    · rcases List.mem_cons.1 h with rfl | h
      · show (cutL _ _ _).length ≤ _
        unfold cutL; simp; omega
      · exact rdCens_len bs k _ c h
theorem censP_len (bs : List Int) (t : Nat) : ∀ c ∈ (censP bs t).2, c.nm.length ≤ bs.length := fun c h => by
  unfold censP at h
  split at h
  · simp at h
  · split at h
    · simp at h
    · split at h
      · simp at h
      · exact rdCens_len bs t 0 c h
theorem rscan_l0 {gc g2 : Nat} {s y : Sl} {LB : List Int} (h8 : B8 LB) (hm : LB.length ≤ 2000000) {lo B : Nat} {cl : List CnR} {R : Nat} (hR : 4000000 < R) (hgB : ∀ z ∈ ownC gc s, z < B) (hyB : ∀ z ∈ rowsOf y, z < B ∧ z ≠ gc) (hcB : ∀ x ∈ cl, ∀ z ∈ x.rows, z < B ∧ z ≠ gc) (hloB : lo ≤ B) (hgd : ∀ x ∈ cl, GoodC x.c ∧ x.c.nm.length ≤ 2000000) (hcl : cl.length ≤ 1000000) :
    ∀ (k i n p : Nat) (h : GH) (out : Sl) (l : List ItR), i + k = cl.length → k < n → l.length = i → B ≤ h.next → Cts h y lo cl → Its h out lo l → (∀ z ∈ rowsOf out, B ≤ z) → (∀ x ∈ l, ∀ z ∈ x.rows, z ≠ gc) → RCur h gc s LB (p : Nat) 0 → p ≤ LB.length →
    ∃ h', Keep h h' (gc :: rowsOf out) ∧ ((rdLocs LB ((cl.drop i).map CnR.c) p).1 = 0 → ∃ out' l', Its h' out' lo (l ++ l') ∧ l'.map ItR.it = (rdLocs LB ((cl.drop i).map CnR.c) p).2.1 ∧ (∀ z ∈ rowsOf out', B ≤ z) ∧ RCur h' gc s LB ((rdLocs LB ((cl.drop i).map CnR.c) p).2.2 : Nat) 0 ∧ (rdLocs LB ((cl.drop i).map CnR.c) p).2.2 ≤ LB.length ∧ ∀ (β : Type) (K0 : Option Addr → Option Addr → Sl → GH → Option β) (Kr : Sl → Sl → Int → GH → Option β) (F1 : Sl → GH → (Int → Int → Int → Int → Int → Int → Sl → Int → Int → GH → Option β) → Option β) (F2 : Sl → Int → GH → (Sl → Int → GH → Option β) → Option β) (F4 : Option Addr → GH → (Int → GH → Option β) → Option β),
        F_ref26_Scan_l0 F1 F2 (F_ref26_one R) F4 R n (some ⟨g2, 0, none⟩) y (some ⟨gc, 0, none⟩) out (i : Nat) h K0 Kr = K0 (some ⟨g2, 0, none⟩) (some ⟨gc, 0, none⟩) out' h') ∧
      ((rdLocs LB ((cl.drop i).map CnR.c) p).1 ≠ 0 → ∀ (β : Type) (K0 : Option Addr → Option Addr → Sl → GH → Option β) (Kr : Sl → Sl → Int → GH → Option β) (F1 : Sl → GH → (Int → Int → Int → Int → Int → Int → Sl → Int → Int → GH → Option β) → Option β) (F2 : Sl → Int → GH → (Sl → Int → GH → Option β) → Option β) (F4 : Option Addr → GH → (Int → GH → Option β) → Option β),
        F_ref26_Scan_l0 F1 F2 (F_ref26_one R) F4 R n (some ⟨g2, 0, none⟩) y (some ⟨gc, 0, none⟩) out (i : Nat) h K0 Kr = Kr ⟨none, 0, 0⟩ ⟨none, 0, 0⟩ (rdLocs LB ((cl.drop i).map CnR.c) p).1 h')
  | 0, i, n, p, h, out, l, hi, hn, hl, hB, ct, it, hoB, hlg, C, hp => by
    obtain ⟨n, rfl⟩ : ∃ n', n = n' + 1 := ⟨n - 1, by omega⟩
    have hyn := ct.n
    have hd : cl.drop i = [] := List.drop_eq_nil_of_le (by omega)
    rw [hd, List.map_nil, rdLocs]
    refine ⟨h, .refl _ _, fun _ => ⟨out, [], by rw [List.append_nil]; exact it, rfl, hoB, C, hp, fun β K0 Kr F1 F2 F4 => ?_⟩, fun q => absurd rfl q⟩
    rw [F_ref26_Scan_l0_succ, decF (by omega), condF]
  | k + 1, i, n, p, h, out, l, hi, hn, hl, hB, ct, it, hoB, hlg, C, hp => by
    obtain ⟨n, rfl⟩ : ∃ n', n = n' + 1 := ⟨n - 1, by omega⟩
    have hyn := ct.n
    have hil : i < cl.length := by omega
    have hmem := List.getElem_mem hil
    have hd : cl.drop i = cl[i] :: cl.drop (i + 1) := List.drop_eq_getElem_cons hil
    have hg := hgd _ hmem
    have ok := ct.ok _ hmem
    have hgc := hgB gc (by simp [ownC])
    have hcr := hcB _ hmem
    obtain ⟨h1, q17, q18, k1, ok1, no1⟩ := ref_one C hp h8 hm cl[i].c ok.r9 (s10 := cl[i].s10) (s16 := cl[i].s16) (fun hz => (hcr gc (by simp [CnR.rows, hz])).2 rfl) hg.2 hg.1.2.2.2 hR
    have b1 := k1.1
    rw [hd, List.map_cons, rdLocs]
    by_cases c : oneErr LB cl[i].c p = 0
    · rw [if_neg (by simpa using c)]
      obtain ⟨C1, r17, r18, n17, n18, e1⟩ := ok1 c
      obtain ⟨hle, h70⟩ := oneErr_le h8 c
      obtain ⟨g5, h2, k2, n2, l2, e2⟩ := tmp_row h1 [Value.int .i64 0, Value.int .i64 0, Value.int .i64 0, Value.int .i64 0, Value.int .i64 0, Value.int .u32 0, Value.int .u32 0, Value.int .u32 0, Value.slice none 0 0, Value.slice none 0 0, Value.int .i64 0, Value.int .i64 0, Value.int .i64 0, Value.int .u32 0, Value.int .u32 0, Value.slice none 0 0, Value.slice none 0 0, Value.slice none 0 0] [Value.int .i64 cl[i].c.a1, Value.int .i64 cl[i].c.a2, Value.int .i64 cl[i].c.a3, Value.int .i64 cl[i].c.a4, Value.int .i64 cl[i].c.a5, Value.int .u32 cl[i].c.a6, Value.int .u32 cl[i].c.a7, Value.int .u32 cl[i].c.a8, Value.slice cl[i].s9.a cl[i].s9.n cl[i].s9.c, Value.slice cl[i].s10.a cl[i].s10.n cl[i].s10.c, Value.int .i64 cl[i].c.a11, Value.int .i64 cl[i].c.a12, Value.int .i64 cl[i].c.a13, Value.int .u32 cl[i].c.a14, Value.int .u32 cl[i].c.a15, Value.slice cl[i].s16.a cl[i].s16.n cl[i].s16.c, Value.slice q17.a q17.n q17.c, Value.slice q18.a q18.n q18.c] rfl rfl rfl
      have c2 := fun o => cell_of l2 o
      have b2 := k2.1
      have k02 : Keep h h2 [gc] := k1.trans k2 (by simp)
      have it2 := it.keep' k02 (fun z hz hm => by simp at hm; have := hoB z hz; omega) (fun x hx z hz hm => by simp at hm; exact hlg x hx z hz hm)
      have ok2 : CnOk h2 cl[i] := ok.keep k02 (fun z hz hm => by simp at hm; exact (hcr z hz).2 hm)
      have hol := it.lt
      obtain ⟨h3, out3, e3, it3, k3, n3⟩ := it2.app ⟨cl[i].c, (oneIt LB cl[i].c p).ex, (oneIt LB cl[i].c p).da, cl[i].s9, cl[i].s10, cl[i].s16, q17, q18⟩ (by omega) ⟨ok2.r9, ok2.r10, ok2.r16, r17.keep k2 (by simp), r18.keep k2 (by simp)⟩ (fun z hz => by
        simp only [ItR.rows, List.mem_append] at hz
        rcases hz with (hz | hz) | hz
        · have hz' : z ∈ cl[i].rows := by simp only [CnR.rows, List.mem_append]; exact hz
          have := (ct.own _ hmem z hz').1
          have := (hcr z hz').1
          exact ⟨by omega, fun hy => by have := hoB z hy; omega⟩
        · have := n17 z hz
          exact ⟨by omega, fun hy => by have := hol z hy; omega⟩
        · have := n18 z hz
          exact ⟨by omega, fun hy => by have := hol z hy; omega⟩) (by omega)
      have b3 := k3.1
      have k03 : Keep h h3 (gc :: rowsOf out) := (k02.mono (o1 := gc :: rowsOf out) (by simp)).trans k3 (fun z hz => .inl (by simp [hz]))
      have ho3 : ∀ z ∈ rowsOf out3, B ≤ z := fun z hz => by
        rcases n3 z hz with q | q
        · exact hoB z q
        · omega
      have hnot : ∀ z, z < B → z ≠ gc → z ∉ (gc :: rowsOf out) := fun z h1 h2 hm => by
        rcases List.mem_cons.1 hm with q | q
        · exact h2 q
        · have := hoB z q; omega
      obtain ⟨h4, k4, ok4, no4⟩ := rscan_l0 h8 hm hR hgB hyB hcB hloB hgd hcl (g2 := g2) k (i + 1) n (p + oneLen LB p) h3 out3 _ (by omega) (by omega) (by simp; omega) (by omega) (ct.keep' k03 (fun z hz => hnot z (hyB z hz).1 (hyB z hz).2) (fun x hx z hz => hnot z (hcB x hx z hz).1 (hcB x hx z hz).2)) it3 ho3 (fun x hx z hz => by
        rcases List.mem_append.1 hx with q | q
        · exact hlg x q z hz
        · obtain rfl := List.mem_singleton.1 q
          simp only [ItR.rows, List.mem_append] at hz
          rcases hz with (hz | hz) | hz
          · exact (hcr z (by simp only [CnR.rows, List.mem_append]; exact hz)).2
          · have := n17 z hz; omega
          · have := n18 z hz; omega) ((C1.keep k2 (by simp)).keep k3 (fun z hz hm => by have := hgB z hz; have := hoB z hm; omega)) hle
      have step : ∀ (β : Type) (K0 : Option Addr → Option Addr → Sl → GH → Option β) (Kr : Sl → Sl → Int → GH → Option β) (F1 : Sl → GH → (Int → Int → Int → Int → Int → Int → Sl → Int → Int → GH → Option β) → Option β) (F2 : Sl → Int → GH → (Sl → Int → GH → Option β) → Option β) (F4 : Option Addr → GH → (Int → GH → Option β) → Option β),
          F_ref26_Scan_l0 F1 F2 (F_ref26_one R) F4 R (n + 1) (some ⟨g2, 0, none⟩) y (some ⟨gc, 0, none⟩) out (i : Nat) h K0 Kr = F_ref26_Scan_l0 F1 F2 (F_ref26_one R) F4 R n (some ⟨g2, 0, none⟩) y (some ⟨gc, 0, none⟩) out3 ((i + 1 : Nat) : Int) h3 K0 Kr := by
        intro β K0 Kr F1 F2 F4
        rw [F_ref26_Scan_l0_succ, decT (by omega), condT]
        refine (ct.at_ hil _).trans ?_
        refine (e1 β _).trans ?_
        refine (e2 β _).trans ?_
        rw [bne_self_eq_false, condF]
        simp only [c2, Nat.zero_add, Nat.reduceAdd, nth_s, nth_0, exI_s, exS_s']
        refine (e3 β _).trans ?_
        rw [i64w (by omega), show ((i : Nat) : Int) + 1 = ((i + 1 : Nat) : Int) by omega]
      refine ⟨h4, k03.trans k4 (fun z hz => by
        rcases List.mem_cons.1 hz with q | q
        · exact .inl (by simp [q])
        · rcases n3 z q with q | q
          · exact .inl (by simp [q])
          · exact .inr (by omega)), fun q => ?_, fun q β K0 Kr F1 F2 F4 => ?_⟩
      · obtain ⟨out4, l4, i4, m4, o4, C4, p4, e4⟩ := ok4 q
        refine ⟨out4, _ :: l4, by simpa using i4, ?_, o4, C4, p4, fun β K0 Kr F1 F2 F4 => ?_⟩
        · rw [List.map_cons, m4]; rfl
        · rw [step, e4]
      · rw [step, no4 q]
    · rw [if_pos c]
      obtain ⟨g5, h2, k2, n2, l2, e2⟩ := tmp_row h1 [Value.int .i64 0, Value.int .i64 0, Value.int .i64 0, Value.int .i64 0, Value.int .i64 0, Value.int .u32 0, Value.int .u32 0, Value.int .u32 0, Value.slice none 0 0, Value.slice none 0 0, Value.int .i64 0, Value.int .i64 0, Value.int .i64 0, Value.int .u32 0, Value.int .u32 0, Value.slice none 0 0, Value.slice none 0 0, Value.slice none 0 0] [Value.int .i64 0, Value.int .i64 0, Value.int .i64 0, Value.int .i64 0, Value.int .i64 0, Value.int .u32 0, Value.int .u32 0, Value.int .u32 0, Value.slice none 0 0, Value.slice none 0 0, Value.int .i64 0, Value.int .i64 0, Value.int .i64 0, Value.int .u32 0, Value.int .u32 0, Value.slice none 0 0, Value.slice none 0 0, Value.slice none 0 0] rfl rfl rfl
      refine ⟨h2, (k1.trans k2 (by simp)).mono (by simp), fun q => absurd q c, fun _ β K0 Kr F1 F2 F4 => ?_⟩
      rw [F_ref26_Scan_l0_succ, decT (by omega), condT]
      refine (ct.at_ hil _).trans ?_
      refine (no1 c β _).trans ?_
      refine (e2 β _).trans ?_
      rw [bne_iff_ne.2 c, condT]
theorem scan_ref {h : GH} {a : Sl} {bs : List Int} (r : Rd h a bs) (h8 : B8 bs) (hm : bs.length ≤ 1000000) {R : Nat} (hR : 4000000 < R) :
    ∃ h', Keep h h' [] ∧ ((scanP bs).err = 0 → ∃ y q l, Its h' y h.next l ∧ l.map ItR.it = (scanP bs).its ∧ Rd h' q (scanP bs).cm ∧ (∀ z ∈ rowsOf q, h.next ≤ z) ∧ ∀ (β : Type) (K : Sl → Sl → Int → GH → Option β), F_ref26_Scan R a h K = K y q 0 h') ∧
      ((scanP bs).err ≠ 0 → ∀ (β : Type) (K : Sl → Sl → Int → GH → Option β), F_ref26_Scan R a h K = K ⟨none, 0, 0⟩ ⟨none, 0, 0⟩ (scanP bs).err h') := by
  have hn := r.n
  have hcap := r.cap
  obtain ⟨h1, q, k1, ok1, no1⟩ := ref_end r h8 (by omega) hR
  have b1 := k1.1
  by_cases c0 : endE bs = 0
  · obtain ⟨rq1, nq1, e1⟩ := ok1 c0
    have hfe : ¬ findE bs < 0 := fun q => by unfold endE at c0; rw [if_pos q] at c0; cases c0
    have hok : endOk (scX bs) (findE bs) = 0 := by unfold endE at c0; rwa [if_neg hfe] at c0
    have hbd := fld_bd h8
    have y4 : 0 ≤ (scX bs).b4 ∧ (scX bs).b4 ≤ 65535 := (hbd _).1
    have y5 : 0 ≤ (scX bs).b5 ∧ (scX bs).b5 ≤ 4294967295 := (hbd _).2
    have y6 : 0 ≤ (scX bs).b6 ∧ (scX bs).b6 ≤ 4294967295 := (hbd _).2
    have hsum : (scX bs).b6 + (scX bs).b5 = findE bs := by
      unfold endOk at hok
      split at hok
      · cases hok
      · split at hok
        · cases hok
        · rename_i q; exact Decidable.not_not.1 q
    have hge := lastEnd_ge bs (bs.length - 21)
    have hfl : findE bs < bs.length := by unfold findE at *; omega
    obtain ⟨g12, h2, k2, n2, l2, e2⟩ := tmp_row h1 [Value.int .i64 0, Value.int .i64 0, Value.int .i64 0, Value.int .i64 0, Value.int .u32 0, Value.int .u32 0, Value.slice none 0 0] [Value.int .i64 (scX bs).b1, Value.int .i64 (scX bs).b2, Value.int .i64 (scX bs).b3, Value.int .i64 (scX bs).b4, Value.int .u32 (scX bs).b5, Value.int .u32 (scX bs).b6, Value.slice q.a q.n q.c] rfl rfl rfl
    have c2 := fun o => cell_of l2 o
    have b2 := k2.1
    have k02 := k1.trans k2 (by simp)
    have r2 := r.keep k02 (by simp)
    have rc := r2.cut (lo := (scX bs).b6.toNat) (hi := (findE bs).toNat) (mx := a.c) (by omega) (by omega) (by omega) (Nat.le_refl _)
    rw [show (bs.drop (scX bs).b6.toNat).take ((findE bs).toNat - (scX bs).b6.toNat) = (bs.take (findE bs).toNat).drop (scX bs).b6.toNat by rw [List.drop_take]] at rc
    obtain ⟨h3, k3, ok3, no3⟩ := ref_heads rc (fun b hb => h8 b (List.mem_of_mem_take (List.mem_of_mem_drop hb))) (by simp; omega) (total := (scX bs).b4.toNat) (by omega) hR
    have hcs : censP ((bs.take (findE bs).toNat).drop (scX bs).b6.toNat) (scX bs).b4.toNat = scCs bs := rfl
    rw [hcs, Int.toNat_of_nonneg y4.1] at ok3 no3
    have b3 := k3.1
    have k03 := k02.trans k3 (by simp)
    have hw6 : IntKind.wrap .i64 (scX bs).b6 = (scX bs).b6 := i64w (by omega)
    have way0 : ∀ (β : Type) (K : Sl → Sl → Int → GH → Option β) (T : Option β), (F_ref26_heads R ⟨addO a.a ((scX bs).b6.toNat * 1), (findE bs).toNat - (scX bs).b6.toNat, a.c - (scX bs).b6.toNat⟩ (scX bs).b4 h2 (fun r19 r20 h21 => (bif r20 != 0 then K ⟨none, 0, 0⟩ ⟨none, 0, 0⟩ r20 h21 else exI .u32 (h21.cell ⟨g12, 0 + 5, none⟩) fun x22 => bnd (IntKind.wrap .i64 x22) a.c fun m23 => gnew [Value.slice (addO a.a (0 * 1)) (m23 - 0) (a.c - 0), Value.int .i64 0, Value.int .i64 0] 0 h21 fun g24 h25 => F_ref26_Scan_l0 (F_ref26_end R) (F_ref26_heads R) (F_ref26_one R) (F_ref02_Cursor_Left R) R R (some ⟨g12, 0, none⟩) r19 (some ⟨g24, 0, none⟩) ⟨none, 0, 0⟩ 0 h25 (fun w100 w101 w102 h103 => F_ref02_Cursor_Left R w101 h103 fun r104 h105 => (bif decide (r104 > 0) then K ⟨none, 0, 0⟩ ⟨none, 0, 0⟩ 14 h105 else exA w100 fun g106 o107 => exS (h105.cell ⟨g106, o107 + 6, none⟩) fun x108 => K w102 x108 0 h105)) (fun w109 w110 w111 h112 => K w109 w110 w111 h112))) = T) → F_ref26_Scan R a h K = T := by
      intro β K T hT
      unfold F_ref26_Scan
      rw [F_ref26_Scan_gen, e1]
      refine (e2 β _).trans ?_
      rw [bne_self_eq_false, condF]
      rw [show h2.cell ⟨g12, 0 + 5, none⟩ = some (.int .u32 (scX bs).b6) from c2 5, exI_s, bnd_t (by omega) (by omega), hw6, bnd_t (by omega) (by omega), show h2.cell ⟨g12, 0 + 3, none⟩ = some (.int .i64 (scX bs).b4) from c2 3, exI_s]
      exact hT
    unfold scanP
    rw [if_neg (by simpa using c0)]
    by_cases c1 : (scCs bs).1 = 0
    · rw [if_neg (by simpa using c1)]
      obtain ⟨y, cl, ct3, m3, e3⟩ := ok3 c1
      have l3 := k3.look l2 (by simp)
      have c3 := fun o => cell_of l3 o
      have r3 := r.keep k03 (by simp)
      have rl := r3.cut (lo := 0) (hi := (scX bs).b6.toNat) (mx := a.c) (by omega) (by omega) (by omega) (Nat.le_refl _)
      rw [List.drop_zero, Nat.sub_zero] at rl
      obtain ⟨h4, gc, e4, C4, k4, hgc⟩ := rcur_new rl
      have l4 := k4.look l3 (by simp)
      have b4 := k4.1
      have hg4 := C4.lt
      have ct4 := ct3.keep k4 (by simp)
      have hyl := ct3.lt
      have hal := r.lt
      have hcl0 : cl.length ≤ 1000000 := by
        have h1 := congrArg List.length m3
        rw [List.length_map] at h1
        have h2 : (scCs bs).2.length ≤ 65535 := by
          unfold scCs censP
          split
          · simp
          · rename_i q
            split
            · simp
            · split
              · simp
              · have := (rdCens_le ((bs.take (findE bs).toNat).drop (scX bs).b6.toNat) (scX bs).b4.toNat 0 (Nat.zero_le _) (Decidable.not_not.1 q)).2
                simp only at this ⊢
                omega
        omega
      have hLB8 : B8 (bs.take (scX bs).b6.toNat) := fun b hb => h8 b (List.mem_of_mem_take hb)
      have hgood : ∀ x ∈ cl, GoodC x.c ∧ x.c.nm.length ≤ 2000000 := fun x hx => by
        have h9 : x.c ∈ (scCs bs).2 := by rw [← m3]; exact List.mem_map_of_mem hx
        exact ⟨censP_good (fun b hb => h8 b (List.mem_of_mem_take (List.mem_of_mem_drop hb))) _ _ h9, by
          have := censP_len ((bs.take (findE bs).toNat).drop (scX bs).b6.toNat) _ _ h9
          simp at this; omega⟩
      obtain ⟨h5, k5, ok5, no5⟩ := rscan_l0 (g2 := g12) hLB8 (by simp; omega) (lo := h2.next) (B := h4.next) hR hg4 (fun z hz => by have := hyl z hz; exact ⟨by omega, by omega⟩) (fun x hx z hz => by have := (ct3.ok x hx).lt z hz; exact ⟨by omega, by omega⟩) (by omega) hgood hcl0 cl.length 0 R 0 h4 ⟨none, 0, 0⟩ [] (by omega) (by omega) rfl (Nat.le_refl _) ct4 Its.nil (by simp [rowsOf]) (by simp) C4 (Nat.zero_le _)
      rw [List.drop_zero, m3] at ok5 no5
      have hls : rdLocs (bs.take (scX bs).b6.toNat) (scCs bs).2 0 = scLs bs := rfl
      rw [hls] at ok5 no5
      have k05 : Keep h h5 [] := (k03.trans k4 (by simp)).trans k5 (fun z hz => .inr (by simp [rowsOf] at hz; omega))
      have way : ∀ (β : Type) (K : Sl → Sl → Int → GH → Option β) (T : Option β), (F_ref26_Scan_l0 (F_ref26_end R) (F_ref26_heads R) (F_ref26_one R) (F_ref02_Cursor_Left R) R R (some ⟨g12, 0, none⟩) y (some ⟨gc, 0, none⟩) ⟨none, 0, 0⟩ ((0 : Nat) : Int) h4 (fun w100 w101 w102 h103 => F_ref02_Cursor_Left R w101 h103 fun r104 h105 => (bif decide (r104 > 0) then K ⟨none, 0, 0⟩ ⟨none, 0, 0⟩ 14 h105 else exA w100 fun g106 o107 => exS (h105.cell ⟨g106, o107 + 6, none⟩) fun x108 => K w102 x108 0 h105)) (fun w109 w110 w111 h112 => K w109 w110 w111 h112) = T) → F_ref26_Scan R a h K = T := by
        intro β K T hT
        refine way0 β K T ?_
        refine (e3 β _).trans ?_
        rw [bne_self_eq_false, condF, show h3.cell ⟨g12, 0 + 5, none⟩ = some (.int .u32 (scX bs).b6) from c3 5, exI_s, hw6, bnd_t (by omega) (by omega)]
        refine (e4 β _).trans ?_
        exact hT
      by_cases c2' : (scLs bs).1 = 0
      · obtain ⟨out, l', it5, m5, o5, C5, p5, e5⟩ := ok5 c2'
        rw [List.nil_append] at it5
        rw [if_neg (by simpa using c2')]
        have hleft := fun β K => rleft_eq (β := β) C5 p5 (by simp; omega) R K
        by_cases c3' : (scLs bs).2.2 < (bs.take (scX bs).b6.toNat).length
        · rw [if_pos c3']
          refine ⟨h5, k05, fun q => (by cases q), fun _ β K => way β K _ ?_⟩
          refine (e5 β _ _ _ _ _).trans ?_
          rw [hleft, decT (by omega), condT]
        · rw [if_neg c3']
          have g12l := look_lt l2
          have l5 := k5.look l4 (by simp [rowsOf]; omega)
          have c5 := fun o => cell_of l5 o
          have hql := rq1.lt
          refine ⟨h5, k05, fun _ => ⟨out, q, l', ⟨it5.vec, it5.ok, fun x hx z hz => ⟨by have := (it5.own x hx z hz).1; omega, (it5.own x hx z hz).2⟩, fun z hz => by have := it5.lo z hz; omega⟩, m5, (((rq1.keep k2 (by simp)).keep k3 (by simp)).keep k4 (by simp)).keep k5 (fun z hz hm => by have := hql z hz; simp [rowsOf] at hm; omega), nq1, fun β K => way β K _ ?_⟩, fun q => absurd rfl q⟩
          refine (e5 β _ _ _ _ _).trans ?_
          rw [hleft, decF (by omega), condF]
          simp only [exA_s, c5, Nat.zero_add, Nat.reduceAdd, nth_s, nth_0, exS_s']
      · rw [if_pos c2']
        refine ⟨h5, k05, fun q => absurd q c2', fun _ β K => way β K _ ?_⟩
        exact no5 c2' β _ _ _ _ _
    · rw [if_pos c1]
      refine ⟨h3, k03, fun q => absurd q c1, fun _ β K => way0 β K _ ?_⟩
      refine (no3 c1 β _).trans ?_
      rw [bne_iff_ne.2 c1, condT]
  · obtain ⟨g12, h2, k2, n2, l2, e2⟩ := tmp_row h1 [Value.int .i64 0, Value.int .i64 0, Value.int .i64 0, Value.int .i64 0, Value.int .u32 0, Value.int .u32 0, Value.slice none 0 0] [Value.int .i64 0, Value.int .i64 0, Value.int .i64 0, Value.int .i64 0, Value.int .u32 0, Value.int .u32 0, Value.slice none 0 0] rfl rfl rfl
    unfold scanP
    rw [if_pos c0]
    refine ⟨h2, k1.trans k2 (by simp), fun q => absurd q c0, fun _ β K => ?_⟩
    unfold F_ref26_Scan
    rw [F_ref26_Scan_gen, no1 c0]
    refine (e2 β _).trans ?_
    rw [bne_iff_ne.2 c0, condT]
end Go.Proofs.Ytibngikhlgmhaaa.Gx

