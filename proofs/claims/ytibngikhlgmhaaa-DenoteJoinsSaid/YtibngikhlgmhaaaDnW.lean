/- The document's Join. No condition. -/
import Derived.Test.YtibngikhlgmhaaaDnV
import Derived.Test.YtibngikhlgmhaaaDnT
import Derived.Test.YtibngikhlgmhaaaDnX
namespace Go.Proofs.Ytibngikhlgmhaaa.Gx
open Go
set_option linter.unusedVariables false
set_option linter.unusedSimpArgs false
/-- numbers of four bytes are -/
structure UO (c : Cn) : Prop where
  a6 : 0 ≤ c.a6 ∧ c.a6 ≤ 4294967295
  a8 : 0 ≤ c.a8 ∧ c.a8 ≤ 4294967295
  a14 : 0 ≤ c.a14 ∧ c.a14 ≤ 4294967295
set_option maxHeartbeats 4000000 in
theorem rjoin_one {h0 h : GH} {y y4 y5 y6 : Sl} {lo i n : Nat} {l : List ItR} {x : ItR} {o t : List Int} (it0 : Its h0 y lo l) (hi : i < l.length) (hx : x = l[i]) (j : JS h0 h y5 y6 o t) (hs : Sm x.it) (hu : UO x.c) (hl : l.length ≤ 90) (ho : o.length ≤ i * 10000) (ht : t.length ≤ i * 10000) {R : Nat} (hR : 4000000 < R) :
    (∀ a b, locW (hdJ x.it) = some a → cenW (cnJ x.it o.length) = some b → ∃ h' y5' y6', JS h0 h' y5' y6' (o ++ a ++ x.da) (t ++ b) ∧ (o ++ a ++ x.da).length ≤ (i + 1) * 10000 ∧ (t ++ b).length ≤ (i + 1) * 10000 ∧ ∀ (β : Type) (K0 : Sl → Sl → Sl → Sl → GH → Option β) (Kr : Sl → Int → GH → Option β), F_ref26_Join_l0 (F_ref24_Local R) (F_ref24_Central R) (F_ref24_End R) (F_ref24_FindEnd R) R (n + 1) y y4 y5 y6 ((i : Nat) : Int) h K0 Kr = F_ref26_Join_l0 (F_ref24_Local R) (F_ref24_Central R) (F_ref24_End R) (F_ref24_FindEnd R) R n y y4 y5' y6' ((i + 1 : Nat) : Int) h' K0 Kr) ∧
    (locW (hdJ x.it) = none ∨ cenW (cnJ x.it o.length) = none → ∃ h', Keep h0 h' [] ∧ ∀ (β : Type) (K0 : Sl → Sl → Sl → Sl → GH → Option β) (Kr : Sl → Int → GH → Option β), F_ref26_Join_l0 (F_ref24_Local R) (F_ref24_Central R) (F_ref24_End R) (F_ref24_FindEnd R) R (n + 1) y y4 y5 y6 ((i : Nat) : Int) h K0 Kr = Kr ⟨none, 0, 0⟩ 18 h') := by
  have hyn := it0.n
  have ok0 : ItOk h0 x := by rw [hx]; exact it0.ok _ (List.getElem_mem hi)
  have ok : ItOk h x := ok0.keep j.keep (by simp)
  have xlt := ok0.lt
  have hn5 := j.v5.n
  have hn18 := ok.r18.n
  have hda : x.da.length ≤ 3000 := hs.da.2
  have snm : x.c.nm.length ≤ 3000 := hs.nm.2
  have sxx : x.c.ex.length ≤ 3000 := hs.xx.2
  have scm : x.c.cm.length ≤ 3000 := hs.cm.2
  have sex : x.ex.length ≤ 3000 := hs.ex.2
  have hw18 : IntKind.wrap .u32 ((x.s18.n : Nat) : Int) = ((x.da.length : Nat) : Int) := by rw [hn18, u32w (by omega)]
  obtain ⟨gy, hya, cy0⟩ := its_cells it0 hi
  have cy : ∀ h' : GH, Keep h0 h' [] → ∀ j, j < 18 → h'.cell ⟨gy, i * 18 + j, none⟩ = x.cells[j]? := fun h' k j hj => by rw [hx]; exact cy0 h' k j hj
  have q := cy h j.keep
  have q0 := q 0 (by omega)
  rw [Nat.add_zero] at q0
  obtain ⟨g2, h2, k2, n2, l2, e2⟩ := tmp_row h [Value.int .i64 0, Value.int .i64 0, Value.int .i64 0, Value.int .i64 0, Value.int .i64 0, Value.int .u32 0, Value.int .u32 0, Value.int .u32 0, Value.slice none 0 0, Value.slice none 0 0, Value.int .i64 0, Value.int .i64 0, Value.int .i64 0, Value.int .u32 0, Value.int .u32 0, Value.slice none 0 0] [Value.int .i64 x.c.a1, Value.int .i64 x.c.a2, Value.int .i64 x.c.a3, Value.int .i64 x.c.a4, Value.int .i64 x.c.a5, Value.int .u32 x.c.a6, Value.int .u32 x.c.a7, Value.int .u32 x.c.a8, Value.slice x.s9.a x.s9.n x.s9.c, Value.slice x.s10.a x.s10.n x.s10.c, Value.int .i64 x.c.a11, Value.int .i64 x.c.a12, Value.int .i64 x.c.a13, Value.int .u32 x.c.a14, Value.int .u32 x.c.a15, Value.slice x.s16.a x.s16.n x.s16.c] rfl rfl rfl
  have c2 := fun o => cell_of l2 o
  have lt2 := look_lt l2
  obtain ⟨h3, k3, l3', e3⟩ := gput_row l2 14 (.int .u32 ((o.length : Nat) : Int)) rfl (by simp)
  have l3 : h3.look g2 = some (.row ⟨[Value.int .i64 x.c.a1, Value.int .i64 x.c.a2, Value.int .i64 x.c.a3, Value.int .i64 x.c.a4, Value.int .i64 x.c.a5, Value.int .u32 x.c.a6, Value.int .u32 x.c.a7, Value.int .u32 x.c.a8, Value.slice x.s9.a x.s9.n x.s9.c, Value.slice x.s10.a x.s10.n x.s10.c, Value.int .i64 x.c.a11, Value.int .i64 x.c.a12, Value.int .i64 x.c.a13, Value.int .u32 x.c.a14, Value.int .u32 ((o.length : Nat) : Int), Value.slice x.s16.a x.s16.n x.s16.c], 0, false⟩) := l3'
  have k03 : Keep h h3 [] := k2.trans k3 (fun z hz => .inr (by simp at hz; omega))
  have q3 := cy h3 (j.keep.trans k03 (by simp)) 17 (by omega)
  obtain ⟨h4, k4, l4', e4⟩ := gput_row l3 6 (.int .u32 ((x.da.length : Nat) : Int)) rfl (by simp)
  have l4 : h4.look g2 = some (.row ⟨[Value.int .i64 x.c.a1, Value.int .i64 x.c.a2, Value.int .i64 x.c.a3, Value.int .i64 x.c.a4, Value.int .i64 x.c.a5, Value.int .u32 x.c.a6, Value.int .u32 ((x.da.length : Nat) : Int), Value.int .u32 x.c.a8, Value.slice x.s9.a x.s9.n x.s9.c, Value.slice x.s10.a x.s10.n x.s10.c, Value.int .i64 x.c.a11, Value.int .i64 x.c.a12, Value.int .i64 x.c.a13, Value.int .u32 x.c.a14, Value.int .u32 ((o.length : Nat) : Int), Value.slice x.s16.a x.s16.n x.s16.c], 0, false⟩) := l4'
  have c4 := fun o => cell_of l4 o
  obtain ⟨g5, h5, k5, n5, l5, e5⟩ := tmp_row h4 [Value.int .i64 0, Value.int .i64 0, Value.int .i64 0, Value.int .i64 0, Value.int .i64 0, Value.int .u32 0, Value.int .u32 0, Value.int .u32 0, Value.slice none 0 0, Value.slice none 0 0] [Value.int .i64 x.c.a1, Value.int .i64 x.c.a2, Value.int .i64 x.c.a3, Value.int .i64 x.c.a4, Value.int .i64 x.c.a5, Value.int .u32 x.c.a6, Value.int .u32 ((x.da.length : Nat) : Int), Value.int .u32 x.c.a8, Value.slice x.s9.a x.s9.n x.s9.c, Value.slice x.s10.a x.s10.n x.s10.c] rfl rfl rfl
  have p5 := k5.look l4 (by simp)
  have lt4' := look_lt l4
  have b2 := k2.1
  have b3 := k3.1
  have b4 := k4.1
  have k05 : Keep h h5 [] := (k03.trans k4 (fun z hz => .inr (by simp at hz; omega))).trans k5 (by simp)
  have q5 := cy h5 (j.keep.trans k05 (by simp)) 16 (by omega)
  obtain ⟨h6, k6, l6', e6⟩ := gput_row l5 9 (.slice x.s17.a x.s17.n x.s17.c) rfl (by simp)
  have l6 : h6.look g5 = some (.row ⟨[Value.int .i64 x.c.a1, Value.int .i64 x.c.a2, Value.int .i64 x.c.a3, Value.int .i64 x.c.a4, Value.int .i64 x.c.a5, Value.int .u32 x.c.a6, Value.int .u32 ((x.da.length : Nat) : Int), Value.int .u32 x.c.a8, Value.slice x.s9.a x.s9.n x.s9.c, Value.slice x.s17.a x.s17.n x.s17.c], 0, false⟩) := l6'
  have c6 := fun o => cell_of l6 o
  have p6 := k6.look p5 (by simp; omega)
  have b5 := k5.1
  have b6 := k6.1
  have k06 : Keep h h6 [] := k05.trans k6 (fun z hz => .inr (by simp at hz; omega))
  have ok6 := ok.keep k06 (by simp)
  obtain ⟨h7, qa, k7, n7, v7, e7⟩ := local_ref (h := h6) (hdJ x.it) (s9 := x.s9) (s10 := x.s17) ok6.r9 ok6.r17 (by show x.c.nm.length ≤ _; omega) (by show x.ex.length ≤ _; omega) hu.a6 (by show (0 : Int) ≤ ((x.da.length : Nat) : Int) ∧ ((x.da.length : Nat) : Int) ≤ 4294967295; omega) hu.a8 (R := R) (by omega)
  have ok7 := ok6.keep k7 (by simp)
  have p7 := k7.look p6 (by simp)
  have c7 := fun o => cell_of p7 o
  obtain ⟨h8, qb, k8, n8, v8, e8⟩ := central_ref (h := h7) (cnJ x.it o.length) (s9 := x.s9) (s10 := x.s10) (s16 := x.s16) ok7.r9 ok7.r10 ok7.r16 (by show x.c.nm.length ≤ _; omega) (by show x.c.ex.length ≤ _; omega) (by show x.c.cm.length ≤ _; omega) hu.a6 (by show (0 : Int) ≤ ((x.da.length : Nat) : Int) ∧ ((x.da.length : Nat) : Int) ≤ 4294967295; omega) hu.a8 hu.a14 (by show (0 : Int) ≤ ((o.length : Nat) : Int) ∧ ((o.length : Nat) : Int) ≤ 4294967295; omega) (R := R) (by omega)
  have ok8 := ok7.keep k8 (by simp)
  have k08 : Keep h h8 [] := (k06.trans k7 (by simp)).trans k8 (by simp)
  have way : ∀ (β : Type) (K0 : Sl → Sl → Sl → Sl → GH → Option β) (Kr : Sl → Int → GH → Option β), F_ref26_Join_l0 (F_ref24_Local R) (F_ref24_Central R) (F_ref24_End R) (F_ref24_FindEnd R) R (n + 1) y y4 y5 y6 ((i : Nat) : Int) h K0 Kr = (bif (if (locW (hdJ x.it)).isSome then (0 : Int) else 18) != 0 then Kr ⟨none, 0, 0⟩ (if (locW (hdJ x.it)).isSome then (0 : Int) else 18) h7 else (bif (if (cenW (cnJ x.it o.length)).isSome then (0 : Int) else 18) != 0 then Kr ⟨none, 0, 0⟩ (if (cenW (cnJ x.it o.length)).isSome then (0 : Int) else 18) h8 else gappS 1 1 y5 qa h8 fun s89 h90 => exS (h90.cell ⟨gy, i * 18 + 17, none⟩) fun x93 => gappS 1 1 s89 x93 h90 fun s94 h95 => gappS 1 1 y6 qb h95 fun s96 h97 => F_ref26_Join_l0 (F_ref24_Local R) (F_ref24_Central R) (F_ref24_End R) (F_ref24_FindEnd R) R n y y4 s94 s96 ((i + 1 : Nat) : Int) h97 K0 Kr)) := by
    intro β K0 Kr
    have wt : ∀ K : Option β, within ((i : Nat) : Int) y.n K = K := fun K => within_t (by omega) (by omega) K
    rw [F_ref26_Join_l0_succ, decT (by omega), condT]
    simp only [hya, exA_s, wt, Int.toNat_natCast, Nat.zero_add, Nat.add_zero]
    simp only [Nat.add_assoc, Nat.reduceAdd]
    simp only [q0, q 1 (by omega), q 2 (by omega), q 3 (by omega), q 4 (by omega), q 5 (by omega), q 6 (by omega), q 7 (by omega), q 8 (by omega), q 9 (by omega), q 10 (by omega), q 11 (by omega), q 12 (by omega), q 13 (by omega), q 14 (by omega), q 15 (by omega), q 16 (by omega), q 17 (by omega), ItR.cells, List.getElem?_cons_succ, List.getElem?_cons_zero, exI_s, exS_s]
    refine (e2 β _).trans ?_
    rw [hn5, u32w (x := ((o.length : Nat) : Int)) (by omega)]
    refine (e3 β _).trans ?_
    rw [q3]
    simp only [ItR.cells, List.getElem?_cons_succ, List.getElem?_cons_zero, exS_s]
    rw [hw18]
    refine (e4 β _).trans ?_
    simp only [c4, Nat.zero_add, Nat.reduceAdd, nth_s, nth_0, exI_s, exS_s', veqO_i, veqO_s, condT, sameAt_1]
    refine (e5 β _).trans ?_
    rw [q5]
    simp only [ItR.cells, List.getElem?_cons_succ, List.getElem?_cons_zero, exS_s]
    refine (e6 β _).trans ?_
    simp only [c6, Nat.zero_add, Nat.reduceAdd, nth_s, nth_0, exI_s, exS_s', veqO_i, veqO_s, condT, sameAt_1]
    refine (e7 β _).trans ?_
    simp only [c7, Nat.zero_add, Nat.reduceAdd, nth_s, nth_0, exI_s, exS_s', veqO_i, veqO_s, condT, sameAt_1]
    cases hL : ((if (locW (hdJ x.it)).isSome then (0 : Int) else 18) != 0)
    · rw [condF, condF]
      refine (e8 β _).trans ?_
      rw [i64w (x := ((i : Nat) : Int) + 1) (by omega), show ((i : Nat) : Int) + 1 = ((i + 1 : Nat) : Int) by omega]
    · rw [condT, condT]
  refine ⟨fun a b ha hb => ?_, fun hno => ?_⟩
  · have va := v7 a ha
    have vb := v8 b hb
    have la' : a.length ≤ 4 + (14 + 12 + x.c.nm.length + x.ex.length) := by
      rw [locW_eq] at ha
      obtain ⟨p, hp, hq⟩ := Option.bind_eq_some_iff.1 ha
      obtain ⟨q, hq2, rfl⟩ := Option.map_eq_some_iff.1 hq
      have hlp := halP_len _ _ hp
      have := halP_len _ _ hq2
      simp only [List.length_append, numI_len, worP_len, List.length_cons, List.length_nil] at this hlp ⊢
      show 4 + (p.length + ((0 + 1 + 1 + 1) * 4 + (q.length + (x.c.nm.length + x.ex.length)))) ≤ _
      omega
    have lb' : b.length ≤ 4 + (22 + 20 + x.c.nm.length + x.c.ex.length + x.c.cm.length) := by
      rw [cenW_eq] at hb
      obtain ⟨p, hp, hq⟩ := Option.bind_eq_some_iff.1 hb
      obtain ⟨q, hq2, rfl⟩ := Option.map_eq_some_iff.1 hq
      have hlp := halP_len _ _ hp
      have := halP_len _ _ hq2
      simp only [List.length_append, numI_len, worP_len, List.length_cons, List.length_nil] at this hlp ⊢
      show 4 + (p.length + ((0 + 1 + 1 + 1) * 4 + (q.length + ((0 + 1 + 1) * 4 + (x.c.nm.length + (x.c.ex.length + x.c.cm.length)))))) ≤ _
      omega
    have j8 := j.step k08
    have lt5 := j.v5.lt
    obtain ⟨h9, y9, j9, k9, n9, e9⟩ := j8.app5 (va.keep k8 (by simp)).row (by omega)
    have b7 := k7.1
    have b8 := k8.1
    have b9 := k9.1
    have jk := j.keep.1
    have q9 := cy h9 j9.keep 17 (by omega)
    have dd9 : Rd h9 x.s18 x.da := (ok0.keep j9.keep (by simp)).r18
    have ltb := vb.lt
    obtain ⟨hA, yA, jA, kA, nA, eA⟩ := j9.app5 dd9 (by simp; omega)
    have db9 : Rd h9 qb b := vb.row.keep k9 (fun z hz hm => by have := n8 z hz; have := lt5 z hm; omega)
    have dbA : Rd hA qb b := db9.keep kA (fun z hz hm => by
      rcases n9 z hm with q | q
      · have := n8 z hz; have := lt5 z q; omega
      · have := ltb z hz; omega)
    obtain ⟨hB, yB, jB, kB, nB, eB⟩ := jA.app6 dbA (by omega)
    refine ⟨hB, yA, yB, jB, by simp; omega, by simp; omega, fun β K0 Kr => ?_⟩
    rw [way, ha, hb, show ((if (some a).isSome = true then (0 : Int) else 18) != 0) = false from rfl, show ((if (some b).isSome = true then (0 : Int) else 18) != 0) = false from rfl, condF, condF]
    refine (e9 β _).trans ?_
    rw [q9]
    simp only [ItR.cells, List.getElem?_cons_succ, List.getElem?_cons_zero, exS_s]
    refine (eA β _).trans ?_
    exact eB β _
  · by_cases c : locW (hdJ x.it) = none
    · refine ⟨h7, j.keep.trans (k06.trans k7 (by simp)) (by simp), fun β K0 Kr => ?_⟩
      rw [way, c]; rfl
    · obtain ⟨a, ha⟩ := Option.ne_none_iff_exists'.1 c
      have hb : cenW (cnJ x.it o.length) = none := hno.resolve_left c
      refine ⟨h8, j.keep.trans k08 (by simp), fun β K0 Kr => ?_⟩
      rw [way, ha, hb]; rfl
theorem rjoin_loop {h0 : GH} {y y4 : Sl} {lo : Nat} {l : List ItR} (it0 : Its h0 y lo l) (hs : ∀ x ∈ l, Sm x.it) (hu : ∀ x ∈ l, UO x.c) (hl : l.length ≤ 90) {R : Nat} (hR : 4000000 < R) : ∀ (k i n : Nat) (h : GH) (y5 y6 : Sl) (o t : List Int), i + k = l.length → k < n → JS h0 h y5 y6 o t → o.length ≤ i * 10000 → t.length ≤ i * 10000 →
    (∀ r, jn ((l.drop i).map ItR.it) o t = some r → ∃ h' y5' y6', JS h0 h' y5' y6' r.1 r.2 ∧ r.1.length ≤ l.length * 10000 ∧ r.2.length ≤ l.length * 10000 ∧ ∀ (β : Type) (K0 : Sl → Sl → Sl → Sl → GH → Option β) (Kr : Sl → Int → GH → Option β), F_ref26_Join_l0 (F_ref24_Local R) (F_ref24_Central R) (F_ref24_End R) (F_ref24_FindEnd R) R n y y4 y5 y6 ((i : Nat) : Int) h K0 Kr = K0 y y4 y5' y6' h') ∧
    (jn ((l.drop i).map ItR.it) o t = none → ∃ h', Keep h0 h' [] ∧ ∀ (β : Type) (K0 : Sl → Sl → Sl → Sl → GH → Option β) (Kr : Sl → Int → GH → Option β), F_ref26_Join_l0 (F_ref24_Local R) (F_ref24_Central R) (F_ref24_End R) (F_ref24_FindEnd R) R n y y4 y5 y6 ((i : Nat) : Int) h K0 Kr = Kr ⟨none, 0, 0⟩ 18 h')
  | 0, i, n, h, y5, y6, o, t, hi, hn, j, ho, ht => by
    have hyn := it0.n
    obtain ⟨n, rfl⟩ : ∃ n', n = n' + 1 := ⟨n - 1, by omega⟩
    obtain rfl : i = l.length := by omega
    rw [List.drop_length]
    rw [List.map_nil, jn_nil]
    refine ⟨fun r hr => ?_, fun hr => by cases hr⟩
    cases hr
    refine ⟨h, y5, y6, j, ho, ht, fun β K0 Kr => ?_⟩
    rw [F_ref26_Join_l0_succ, decF (by omega), condF]
  | k + 1, i, n, h, y5, y6, o, t, hi, hn, j, ho, ht => by
    obtain ⟨n, rfl⟩ : ∃ n', n = n' + 1 := ⟨n - 1, by omega⟩
    have hi1 : i < l.length := by omega
    have one := rjoin_one (n := n) (y4 := y4) it0 hi1 rfl j (hs _ (List.getElem_mem hi1)) (hu _ (List.getElem_mem hi1)) hl ho ht hR
    have hd : (l.drop i).map ItR.it = l[i].it :: (l.drop (i + 1)).map ItR.it := by rw [List.drop_eq_getElem_cons hi1, List.map_cons]
    rw [hd, jn_cons]
    cases ha : locW (hdJ l[i].it) with
    | none =>
      obtain ⟨h', k', e'⟩ := one.2 (.inl ha)
      rw [jn1_no (.inl ha), Option.bind_none]
      exact ⟨fun r hr => (by cases hr), fun _ => ⟨h', k', e'⟩⟩
    | some a =>
      cases hb : cenW (cnJ l[i].it o.length) with
      | none =>
        obtain ⟨h', k', e'⟩ := one.2 (.inr hb)
        rw [jn1_no (.inr hb), Option.bind_none]
        exact ⟨fun r hr => (by cases hr), fun _ => ⟨h', k', e'⟩⟩
      | some b =>
        obtain ⟨h1, z5, z6, j1, o1, t1, e1⟩ := one.1 a b ha hb
        rw [jn1_some ha hb, Option.bind_some]
        have ih := rjoin_loop (y4 := y4) it0 hs hu hl hR k (i + 1) n h1 z5 z6 _ _ (by omega) (by omega) j1 o1 t1
        refine ⟨fun r hr => ?_, fun hr => ?_⟩
        · obtain ⟨h', y5', y6', j', b1, b2, e'⟩ := ih.1 r hr
          exact ⟨h', y5', y6', j', b1, b2, fun β K0 Kr => (e1 β K0 Kr).trans (e' β K0 Kr)⟩
        · obtain ⟨h', k', e'⟩ := ih.2 hr
          exact ⟨h', k', fun β K0 Kr => (e1 β K0 Kr).trans (e' β K0 Kr)⟩
theorem rjoin_ref {h0 : GH} {y c : Sl} {lo : Nat} {l : List ItR} {cm : List Int} (it0 : Its h0 y lo l) (rc : Rd h0 c cm) (hc : B8 cm) (hc2 : cm.length ≤ 3000) (hs : ∀ x ∈ l, Sm x.it) (hu : ∀ x ∈ l, UO x.c) (hl : l.length ≤ 90) {R : Nat} (hR : 4000000 < R) :
    ∃ h' q, Keep h0 h' [] ∧ ((joinP (l.map ItR.it) cm).1 = 0 → Bv h' q (joinP (l.map ItR.it) cm).2) ∧ ((joinP (l.map ItR.it) cm).1 ≠ 0 → q = ⟨none, 0, 0⟩) ∧ ∀ (β : Type) (K : Sl → Int → GH → Option β), F_ref26_Join R y c h0 K = K q (joinP (l.map ItR.it) cm).1 h' := by
  have hyn := it0.n
  have hlen : (l.map ItR.it).length = l.length := List.length_map _
  have J0 : JS h0 h0 ⟨none, 0, 0⟩ ⟨none, 0, 0⟩ [] [] := ⟨.refl _ _, Vec.nil, Vec.nil, by simp [rowsOf], by simp [rowsOf], by simp [rowsOf]⟩
  have lp := rjoin_loop (y4 := c) it0 hs hu hl hR l.length 0 R h0 _ _ [] [] (by omega) (by omega) J0 (by simp) (by simp)
  have hjb := jn_b8 (l.map ItR.it) (o := []) (t := []) (fun x hx => by obtain ⟨z, hz, rfl⟩ := List.mem_map.1 hx; exact hs z hz) (by simp [B8]) (by simp [B8])
  rw [List.drop_zero] at lp
  have hP : joinP (l.map ItR.it) cm = jnE l.length cm (jn (l.map ItR.it) [] []) := by unfold joinP; rw [hlen, if_neg (by omega)]
  rw [hP]
  cases hj : jn (l.map ItR.it) [] [] with
  | none =>
    obtain ⟨h', k', e'⟩ := lp.2 hj
    refine ⟨h', ⟨none, 0, 0⟩, k', by simp [jnE], by simp [jnE], fun β K => ?_⟩
    unfold F_ref26_Join
    rw [F_ref26_Join_gen, hyn, decF (by omega), condF]
    exact e' β _ _
  | some r =>
    obtain ⟨h1, y5, y6, j1, b1, b2, e1⟩ := lp.1 r hj
    have hb := hjb r hj
    have n5 := j1.v5.n
    have n6 := j1.v6.n
    obtain ⟨h2, qz, k2, n2, v2, e2⟩ := end_ref (h := h1) (enJ l.length r.2.length r.1.length cm) (s7 := c) (rc.keep j1.keep (by simp)) (by show cm.length ≤ _; omega) (by show (0 : Int) ≤ ((r.2.length : Nat) : Int) ∧ ((r.2.length : Nat) : Int) ≤ 4294967295; omega) (by show (0 : Int) ≤ ((r.1.length : Nat) : Int) ∧ ((r.1.length : Nat) : Int) ≤ 4294967295; omega) (R := R) (by omega)
    have hk := j1.keep.1
    have start : ∀ (β : Type) (K : Sl → Int → GH → Option β), F_ref26_Join R y c h0 K = (bif (if (endW (enJ l.length r.2.length r.1.length cm)).isSome then (0 : Int) else 18) != 0 then K ⟨none, 0, 0⟩ (if (endW (enJ l.length r.2.length r.1.length cm)).isSome then (0 : Int) else 18) h2 else gappS 1 1 y5 y6 h2 fun s106 h107 => gappS 1 1 s106 qz h107 fun s108 h109 => F_ref24_FindEnd R s108 h109 fun r110 h111 => (bif r110 != ((s106.n : Nat) : Int) then K ⟨none, 0, 0⟩ 4 h111 else K s108 0 h111)) := by
      intro β K
      unfold F_ref26_Join
      rw [F_ref26_Join_gen, hyn, decF (by omega), condF]
      refine (e1 β _ _).trans ?_
      rw [n5, n6, hyn, u32w (x := ((r.1.length : Nat) : Int)) (by omega), u32w (x := ((r.2.length : Nat) : Int)) (by omega)]
      exact e2 β _
    cases hz : endW (enJ l.length r.2.length r.1.length cm) with
    | none =>
      rw [hz] at start
      refine ⟨h2, ⟨none, 0, 0⟩, j1.keep.trans k2 (by simp), by simp [jnE, hz], by simp [jnE, hz], fun β K => ?_⟩
      rw [start]
      simp only [jnE, hz]
      rfl
    | some z =>
      have vz := v2 z hz
      have lz' : z.length ≤ 4 + (8 + 10 + cm.length) := by
        have hz' := hz
        rw [endW_eq] at hz'
        obtain ⟨p, hp, hq⟩ := Option.bind_eq_some_iff.1 hz'
        obtain ⟨q, hq2, rfl⟩ := Option.map_eq_some_iff.1 hq
        have hlp := halP_len _ _ hp
        have := halP_len _ _ hq2
        simp only [List.length_append, numI_len, worP_len, List.length_cons, List.length_nil] at this hlp ⊢
        show 4 + (p.length + ((0 + 1 + 1) * 4 + (q.length + cm.length))) ≤ _
        omega
      have hzb := endW_b8 (x := enJ l.length r.2.length r.1.length cm) hc z hz
      have j2 := j1.step k2
      have lt5 := j1.v5.lt
      obtain ⟨h3, y9, j3, k3, n3, e3⟩ := j2.app5 (x := y6) j2.v6.row (by omega)
      have n9 := j3.v5.n
      have vz3 : Rd h3 qz z := vz.row.keep k3 (fun w hw hm => by have := n2 w hw; have := lt5 w hm; omega)
      obtain ⟨h4, yA, j4, k4, n4, e4⟩ := j3.app5 vz3 (by simp; omega)
      have hb8 : B8 (r.1 ++ r.2 ++ z) := b8_app (b8_app hb.1 hb.2) hzb
      have ef := fun β K => rfind_end j4.v5.row hb8 (by simp; omega) hR (β := β) K
      have n9' : ((y9.n : Nat) : Int) = ((r.1.length + r.2.length : Nat) : Int) := by rw [n9, List.length_append]
      rw [hz, show ((if (some z).isSome = true then (0 : Int) else 18) != 0) = false from rfl] at start
      by_cases cf : findE (r.1 ++ r.2 ++ z) = ((r.1.length + r.2.length : Nat) : Int)
      · have hE : jnE l.length cm (some r) = (0, r.1 ++ r.2 ++ z) := by simp only [jnE, hz]; rw [if_pos cf]
        rw [hE]
        refine ⟨h4, yA, j4.keep, fun _ => j4.v5, fun q => absurd rfl q, fun β K => ?_⟩
        rw [start, condF]
        refine (e3 β _).trans ?_
        refine (e4 β _).trans ?_
        rw [ef, n9', cf, bne_self_eq_false, condF]
      · have hE : jnE l.length cm (some r) = (4, []) := by simp only [jnE, hz]; rw [if_neg cf]
        rw [hE]
        refine ⟨h4, ⟨none, 0, 0⟩, j4.keep, fun q => by simp at q, fun _ => rfl, fun β K => ?_⟩
        rw [start, condF]
        refine (e3 β _).trans ?_
        refine (e4 β _).trans ?_
        rw [ef, n9', bne_iff_ne.2 cf, condT]
end Go.Proofs.Ytibngikhlgmhaaa.Gx

