/- The document's halves, words, join, Put: what each call comes to. No condition. -/
import Derived.Test.YtibngikhlgmhaaaInt
import Derived.Test.YtibngikhlgmhaaaDnQ
namespace Go.Proofs.Ytibngikhlgmhaaa.Gx
open Go
set_option linter.unusedVariables false
set_option linter.unusedSimpArgs false
/-- bytes that grow, all of them new since h0 -/
structure OutS (h0 h : GH) (y : Sl) (o : List Int) : Prop where
  keep : Keep h0 h []
  v : Bv h y o
  n : ∀ z ∈ rowsOf y, h0.next ≤ z
theorem OutS.nil (h : GH) : OutS h h ⟨none, 0, 0⟩ [] := ⟨.refl _ _, Vec.nil, by simp [rowsOf]⟩
theorem OutS.step {h0 h h' : GH} {y : Sl} {o : List Int} (j : OutS h0 h y o) (k : Keep h h' []) : OutS h0 h' y o := ⟨j.keep.trans k (by simp), j.v.keep k (by simp), j.n⟩
theorem OutS.app {h0 h : GH} {y x : Sl} {o ns : List Int} (j : OutS h0 h y o) (r : Rd h x ns) (hm : o.length + ns.length ≤ 274877906944) :
    ∃ h' y', OutS h0 h' y' (o ++ ns) ∧ ∀ (β : Type) (K : Sl → GH → Option β), gappS 1 1 y x h K = K y' h' := by
  obtain ⟨h', s', e, v, k, n⟩ := app_bytes j.v r hm
  have hk := j.keep.1
  refine ⟨h', s', ⟨j.keep.trans k (fun z hz => .inr (j.n z hz)), v, fun z hz => ?_⟩, e⟩
  rcases n z hz with q | q
  · exact j.n z q
  · omega
theorem u8_tmod {x : Int} (hx : 0 ≤ x) : IntKind.wrap .u8 (Int.tmod x 256) = x % 256 := by
  have e : IntKind.bits .u8 = 8 := rfl
  rw [Int.tmod_eq_emod_of_nonneg hx]
  unfold IntKind.wrap
  simp [IntKind.signed, e]
theorem rput_loop {h0 : GH} {n : Nat} (R : Nat) : ∀ (k i f : Nat) (h : GH) (y : Sl) (o : List Int) (x : Int), i + k = n → n ≤ 1000 → k < f → 0 ≤ x ∧ x ≤ 4294967295 → o.length ≤ i → OutS h0 h y o →
    ∃ h' y', OutS h0 h' y' (o ++ numI k x) ∧ ∀ (β : Type) (K0 : Sl → GH → Option β), F_ref02_Put_l0 R f x ((n : Nat) : Int) y ((i : Nat) : Int) h K0 = K0 y' h'
  | 0, i, f, h, y, o, x, hi, hn, hf, hx, ho, j => by
    obtain ⟨f, rfl⟩ : ∃ f', f = f' + 1 := ⟨f - 1, by omega⟩
    refine ⟨h, y, by rw [numI, List.append_nil]; exact j, fun β K0 => ?_⟩
    rw [F_ref02_Put_l0_succ, decF (by omega), condF]
  | k + 1, i, f, h, y, o, x, hi, hn, hf, hx, ho, j => by
    obtain ⟨f, rfl⟩ : ∃ f', f = f' + 1 := ⟨f - 1, by omega⟩
    have k1 := keep_push h (.row ⟨[Value.int .u8 (x % 256)], 1, false⟩) []
    have r1 : Rd (h.push (.row ⟨[Value.int .u8 (x % 256)], 1, false⟩)) ⟨some ⟨h.next, 0, none⟩, 1, 1⟩ [x % 256] := (Vec.new (z := 1) (n := 1) (cs := [Value.int .u8 (x % 256)]) rfl rfl).row
    obtain ⟨h2, y2, j2, e2⟩ := (j.step k1).app r1 (by simp; omega)
    obtain ⟨h3, y3, j3, e3⟩ := rput_loop R k (i + 1) f h2 y2 (o ++ [x % 256]) (x / 256) (by omega) hn (by omega) (by omega) (by simp; omega) j2
    refine ⟨h3, y3, by rw [List.append_assoc] at j3; exact j3, fun β K0 => ?_⟩
    rw [F_ref02_Put_l0_succ, decT (by omega), condT, u8_tmod hx.1]
    refine (gnew_eq rfl _).trans ?_
    refine (e2 β _).trans ?_
    rw [Int.tdiv_eq_ediv_of_nonneg hx.1, u32w (x := x / 256) (by omega), i64w (by omega), show ((i : Nat) : Int) + 1 = ((i + 1 : Nat) : Int) by omega]
    exact e3 β K0
theorem rput {h : GH} {x : Int} (hx : 0 ≤ x ∧ x ≤ 4294967295) {n : Nat} (hn : n ≤ 4) {R : Nat} (hR : 8 < R) : ∃ h' q, OutS h h' q (numI n x) ∧ ∀ (β : Type) (K : Sl → GH → Option β), F_ref02_Put R x ((n : Nat) : Int) h K = K q h' := by
  obtain ⟨h', q, j, e⟩ := rput_loop (n := n) R n 0 R h ⟨none, 0, 0⟩ [] x (by omega) (by omega) (by omega) hx (by simp) (OutS.nil h)
  refine ⟨h', q, j, fun β K => ?_⟩
  unfold F_ref02_Put
  rw [F_ref02_Put_gen]
  exact e β _
theorem Row.i64N {β : Type} {h : GH} {s : Sl} {zs : List Int} (r : Rdi h s zs) {i : Nat} (hi : i < zs.length) (K : Int → Option β) : (exA s.a fun g o => within ((i : Nat) : Int) s.n (exI .i64 (h.cell ⟨g, o + ((i : Nat) : Int).toNat * 1, none⟩) K)) = K zs[i] := by
  have := r.int (i := ((i : Nat) : Int)) (by omega) (by omega) K
  rw [this, Int.toNat_natCast, List.getD_eq_getElem?_getD, List.getElem?_eq_getElem hi, Option.getD_some]
/-- numbers of two bytes, if all are -/
def halP : List Int → Option (List Int)
  | [] => some []
  | x :: l => if 0 ≤ x ∧ x ≤ 65535 then (halP l).map (numI 2 x ++ ·) else none
theorem rhalves_loop {h0 : GH} {y : Sl} {xs : List Int} (r0 : Rdi h0 y xs) (hl : xs.length ≤ 1000) {R : Nat} (hR : 8 < R) : ∀ (k i f : Nat) (h : GH) (y3 : Sl) (o : List Int), i + k = xs.length → k < f → o.length ≤ 2 * i → OutS h0 h y3 o →
    ∃ h' q, Keep h0 h' [] ∧ (∀ z ∈ rowsOf q, h0.next ≤ z) ∧ (∀ ys, halP (xs.drop i) = some ys → Bv h' q (o ++ ys)) ∧ ∀ (β : Type) (K0 : Sl → GH → Option β) (Kr : Sl → Bool → GH → Option β), F_ref24_halves_l0 (F_ref02_Put R) R f y y3 ((i : Nat) : Int) h K0 Kr = bif (halP (xs.drop i)).isSome then K0 q h' else Kr ⟨none, 0, 0⟩ false h'
  | 0, i, f, h, y3, o, hi, hf, ho, j => by
    obtain ⟨f, rfl⟩ : ∃ f', f = f' + 1 := ⟨f - 1, by omega⟩
    have hyn := r0.ni
    rw [List.drop_of_length_le (by omega)]
    refine ⟨h, y3, j.keep, j.n, fun ys hy => by cases hy; rw [List.append_nil]; exact j.v, fun β K0 Kr => ?_⟩
    rw [F_ref24_halves_l0_succ, decF (by omega), condF]
    rfl
  | k + 1, i, f, h, y3, o, hi, hf, ho, j => by
    obtain ⟨f, rfl⟩ : ∃ f', f = f' + 1 := ⟨f - 1, by omega⟩
    have hyn := r0.ni
    have hi1 : i < xs.length := by omega
    have rd : ∀ {β : Type} (K : Int → Option β), _ := fun {β} K => (r0.keep j.keep (by simp)).i64N (β := β) hi1 K
    have hd : halP (xs.drop i) = if 0 ≤ xs[i] ∧ xs[i] ≤ 65535 then (halP (xs.drop (i + 1))).map (numI 2 xs[i] ++ ·) else none := by rw [List.drop_eq_getElem_cons hi1, halP]
    rw [hd]
    by_cases c : 0 ≤ xs[i] ∧ xs[i] ≤ 65535
    · rw [if_pos c]
      obtain ⟨h1, q1, j1, e1⟩ := rput (h := h) (x := xs[i]) ⟨c.1, by omega⟩ (n := 2) (by omega) hR
      have nl := numI_len 2 xs[i]
      obtain ⟨h2, y2, j2, e2⟩ := (j.step j1.keep).app j1.v.row (by rw [nl]; omega)
      obtain ⟨h3, q3, k3, n3, v3, e3⟩ := rhalves_loop r0 hl hR k (i + 1) f h2 y2 _ (by omega) (by omega) (by rw [List.length_append, nl]; omega) j2
      refine ⟨h3, q3, k3, n3, fun ys hy => ?_, fun β K0 Kr => ?_⟩
      · obtain ⟨zs, hz, rfl⟩ := Option.map_eq_some_iff.1 hy
        have := v3 zs hz
        rw [List.append_assoc] at this
        exact this
      · rw [F_ref24_halves_l0_succ, decT (by omega), condT]
        refine (rd _).trans ?_
        rw [decF (by omega), condF]
        refine (rd _).trans ?_
        rw [decF (by omega), condF]
        refine (rd _).trans ?_
        rw [u32w (by omega)]
        refine (e1 β _).trans ?_
        refine (e2 β _).trans ?_
        rw [i64w (by omega), show ((i : Nat) : Int) + 1 = ((i + 1 : Nat) : Int) by omega, Option.isSome_map]
        exact e3 β K0 Kr
    · rw [if_neg c]
      refine ⟨h, ⟨none, 0, 0⟩, j.keep, by simp [rowsOf], fun ys hy => (by cases hy), fun β K0 Kr => ?_⟩
      rw [F_ref24_halves_l0_succ, decT (by omega), condT]
      refine (rd _).trans ?_
      by_cases c1 : xs[i] < 0
      · rw [decT c1, condT]; rfl
      · rw [decF c1, condF]
        refine (rd _).trans ?_
        rw [decT (by omega), condT]; rfl
theorem halves_ref {h : GH} {y : Sl} {xs : List Int} (r : Rdi h y xs) (hl : xs.length ≤ 1000) {R : Nat} (hR : 4000 < R) : ∃ h' q, Keep h h' [] ∧ (∀ z ∈ rowsOf q, h.next ≤ z) ∧ (∀ ys, halP xs = some ys → Bv h' q ys) ∧ ∀ (β : Type) (K : Sl → Bool → GH → Option β), F_ref24_halves R y h K = K (bif (halP xs).isSome then q else ⟨none, 0, 0⟩) (halP xs).isSome h' := by
  obtain ⟨h', q, k, n, v, e⟩ := rhalves_loop r hl (R := R) (by omega) xs.length 0 R h ⟨none, 0, 0⟩ [] (by omega) (by omega) (by simp) (OutS.nil h)
  rw [List.drop_zero] at v e
  refine ⟨h', q, k, n, v, fun β K => ?_⟩
  unfold F_ref24_halves
  rw [F_ref24_halves_gen]
  refine (e β _ _).trans ?_
  cases (halP xs).isSome <;> rfl
def u32s (l : List Int) : List Value := l.map (Value.int .u32)
theorem u32s_len (l : List Int) : (u32s l).length = l.length := by simp [u32s]
theorem allCells_u32s : ∀ l : List Int, allCells (u32s l) = true
  | [] => rfl
  | x :: l => allCells_u32s l
theorem Row.u32N {β : Type} {h : GH} {s : Sl} {zs : List Int} (r : Row h s 1 (u32s zs)) {i : Nat} (hi : i < zs.length) (K : Int → Option β) : (exA s.a fun g o => within ((i : Nat) : Int) s.n (exI .u32 (h.cell ⟨g, o + ((i : Nat) : Int).toNat * 1, none⟩) K)) = K zs[i] := by
  have hn : s.n = zs.length := by have := r.len; rw [u32s_len] at this; omega
  obtain ⟨g, o, ha, hc⟩ := r.cell (by omega) (by omega)
  rw [ha, exA_s, within_t (by omega) (by omega), Int.toNat_natCast, Nat.mul_one, hc i (by rw [u32s_len]; exact hi)]
  simp only [u32s, List.getElem?_map, List.getElem?_eq_getElem hi, Option.map_some, exI_s]
def worP (l : List Int) : List Int := l.flatMap (numI 4)
theorem worP_len : ∀ l : List Int, (worP l).length = l.length * 4
  | [] => rfl
  | x :: l => by show (numI 4 x ++ worP l).length = _; rw [List.length_append, numI_len, worP_len l, List.length_cons]; omega
theorem words_loop {h0 : GH} {y : Sl} {xs : List Int} (r0 : Row h0 y 1 (u32s xs)) (hx : ∀ x ∈ xs, 0 ≤ x ∧ x ≤ 4294967295) (hl : xs.length ≤ 1000) {R : Nat} (hR : 8 < R) : ∀ (k i f : Nat) (h : GH) (y3 : Sl) (o : List Int), i + k = xs.length → k < f → o.length ≤ 4 * i → OutS h0 h y3 o →
    ∃ h' q, OutS h0 h' q (o ++ worP (xs.drop i)) ∧ ∀ (β : Type) (K0 : Sl → GH → Option β), F_ref24_words_l0 (F_ref02_Put R) R f y y3 ((i : Nat) : Int) h K0 = K0 q h'
  | 0, i, f, h, y3, o, hi, hf, ho, j => by
    obtain ⟨f, rfl⟩ : ∃ f', f = f' + 1 := ⟨f - 1, by omega⟩
    have hyn : y.n = xs.length := by have := r0.len; rw [u32s_len] at this; omega
    rw [List.drop_of_length_le (by omega)]
    refine ⟨h, y3, by show OutS h0 h y3 (o ++ []); rw [List.append_nil]; exact j, fun β K0 => ?_⟩
    rw [F_ref24_words_l0_succ, decF (by omega), condF]
  | k + 1, i, f, h, y3, o, hi, hf, ho, j => by
    obtain ⟨f, rfl⟩ : ∃ f', f = f' + 1 := ⟨f - 1, by omega⟩
    have hyn : y.n = xs.length := by have := r0.len; rw [u32s_len] at this; omega
    have hi1 : i < xs.length := by omega
    have rd : ∀ {β : Type} (K : Int → Option β), _ := fun {β} K => (r0.keep j.keep (by simp)).u32N (β := β) hi1 K
    obtain ⟨h1, q1, j1, e1⟩ := rput (h := h) (hx _ (List.getElem_mem hi1)) (n := 4) (by omega) hR
    have nl := numI_len 4 xs[i]
    obtain ⟨h2, y2, j2, e2⟩ := (j.step j1.keep).app j1.v.row (by rw [nl]; omega)
    obtain ⟨h3, q3, j3, e3⟩ := words_loop r0 hx hl hR k (i + 1) f h2 y2 _ (by omega) (by omega) (by rw [List.length_append, nl]; omega) j2
    have hd : worP (xs.drop i) = numI 4 xs[i] ++ worP (xs.drop (i + 1)) := by rw [List.drop_eq_getElem_cons hi1]; rfl
    refine ⟨h3, q3, by rw [hd, ← List.append_assoc]; exact j3, fun β K0 => ?_⟩
    rw [F_ref24_words_l0_succ, decT (by omega), condT]
    refine (rd _).trans ?_
    refine (e1 β _).trans ?_
    refine (e2 β _).trans ?_
    rw [i64w (by omega), show ((i : Nat) : Int) + 1 = ((i + 1 : Nat) : Int) by omega]
    exact e3 β K0
theorem words_ref {h : GH} {y : Sl} {xs : List Int} (r : Row h y 1 (u32s xs)) (hx : ∀ x ∈ xs, 0 ≤ x ∧ x ≤ 4294967295) (hl : xs.length ≤ 1000) {R : Nat} (hR : 4000 < R) : ∃ h' q, OutS h h' q (worP xs) ∧ ∀ (β : Type) (K : Sl → GH → Option β), F_ref24_words R y h K = K q h' := by
  obtain ⟨h', q, j, e⟩ := words_loop r hx hl (R := R) (by omega) xs.length 0 R h ⟨none, 0, 0⟩ [] (by omega) (by omega) (by simp) (OutS.nil h)
  rw [List.drop_zero] at j
  refine ⟨h', q, j, fun β K => ?_⟩
  unfold F_ref24_words
  rw [F_ref24_words_gen]
  exact e β _
/-- slices as cells -/
def sls (l : List (Sl × List Int)) : List Value := l.map fun p => .slice p.1.a p.1.n p.1.c
theorem sls_len (l : List (Sl × List Int)) : (sls l).length = l.length := by simp [sls]
theorem Row.slN {β : Type} {h : GH} {s : Sl} {ps : List (Sl × List Int)} (r : Row h s 1 (sls ps)) {i : Nat} (hi : i < ps.length) (K : Sl → Option β) : (exA s.a fun g o => within ((i : Nat) : Int) s.n (exS (h.cell ⟨g, o + ((i : Nat) : Int).toNat * 1, none⟩) K)) = K ps[i].1 := by
  have hn : s.n = ps.length := by have := r.len; rw [sls_len] at this; omega
  obtain ⟨g, o, ha, hc⟩ := r.cell (by omega) (by omega)
  rw [ha, exA_s, within_t (by omega) (by omega), Int.toNat_natCast, Nat.mul_one, hc i (by rw [sls_len]; exact hi)]
  simp only [sls, List.getElem?_map, List.getElem?_eq_getElem hi, Option.map_some, exS_s]
def catP (l : List (Sl × List Int)) : List Int := l.flatMap fun p => p.2
theorem join_loopR {h0 : GH} {y : Sl} {ps : List (Sl × List Int)} (r0 : Row h0 y 1 (sls ps)) (hp : ∀ p ∈ ps, Rd h0 p.1 p.2 ∧ p.2.length ≤ 1000000) (hl : ps.length ≤ 1000) {R : Nat} : ∀ (k i f : Nat) (h : GH) (y3 : Sl) (o : List Int), i + k = ps.length → k < f → o.length ≤ 1000000 * i → OutS h0 h y3 o →
    ∃ h' q, OutS h0 h' q (o ++ catP (ps.drop i)) ∧ ∀ (β : Type) (K0 : Sl → GH → Option β), F_ref24_join_l0 R f y y3 ((i : Nat) : Int) h K0 = K0 q h'
  | 0, i, f, h, y3, o, hi, hf, ho, j => by
    obtain ⟨f, rfl⟩ : ∃ f', f = f' + 1 := ⟨f - 1, by omega⟩
    have hyn : y.n = ps.length := by have := r0.len; rw [sls_len] at this; omega
    rw [List.drop_of_length_le (by omega)]
    refine ⟨h, y3, by show OutS h0 h y3 (o ++ []); rw [List.append_nil]; exact j, fun β K0 => ?_⟩
    rw [F_ref24_join_l0_succ, decF (by omega), condF]
  | k + 1, i, f, h, y3, o, hi, hf, ho, j => by
    obtain ⟨f, rfl⟩ : ∃ f', f = f' + 1 := ⟨f - 1, by omega⟩
    have hyn : y.n = ps.length := by have := r0.len; rw [sls_len] at this; omega
    have hi1 : i < ps.length := by omega
    have rd : ∀ {β : Type} (K : Sl → Option β), _ := fun {β} K => (r0.keep j.keep (by simp)).slN (β := β) hi1 K
    have p1 := hp _ (List.getElem_mem hi1)
    obtain ⟨h2, y2, j2, e2⟩ := j.app (p1.1.keep j.keep (by simp)) (by have := p1.2; omega)
    obtain ⟨h3, q3, j3, e3⟩ := join_loopR r0 hp hl k (i + 1) f h2 y2 _ (by omega) (by omega) (by rw [List.length_append]; have := p1.2; omega) j2
    have hd : catP (ps.drop i) = ps[i].2 ++ catP (ps.drop (i + 1)) := by rw [List.drop_eq_getElem_cons hi1]; rfl
    refine ⟨h3, q3, by rw [hd, ← List.append_assoc]; exact j3, fun β K0 => ?_⟩
    rw [F_ref24_join_l0_succ, decT (by omega), condT]
    refine (rd _).trans ?_
    refine (e2 β _).trans ?_
    rw [i64w (by omega), show ((i : Nat) : Int) + 1 = ((i + 1 : Nat) : Int) by omega]
    exact e3 β K0
theorem join_ref {h : GH} {y : Sl} {ps : List (Sl × List Int)} (r : Row h y 1 (sls ps)) (hp : ∀ p ∈ ps, Rd h p.1 p.2 ∧ p.2.length ≤ 1000000) (hl : ps.length ≤ 1000) {R : Nat} (hR : 4000 < R) : ∃ h' q, OutS h h' q (catP ps) ∧ ∀ (β : Type) (K : Sl → GH → Option β), F_ref24_join R y h K = K q h' := by
  obtain ⟨h', q, j, e⟩ := join_loopR r hp hl (R := R) ps.length 0 R h ⟨none, 0, 0⟩ [] (by omega) (by omega) (by simp) (OutS.nil h)
  rw [List.drop_zero] at j
  refine ⟨h', q, j, fun β K => ?_⟩
  unfold F_ref24_join
  rw [F_ref24_join_gen]
  exact e β _
/-! ### the bytes of a record, in halves and words -/
theorem u16W_none (x : Int) : u16W none x = none := rfl
theorem u32W_none (x : Int) : u32W none x = none := rfl
theorem putW_none (x : List Int) : putW none x = none := rfl
theorem u32W_some (ys : List Int) (x : Int) : u32W (some ys) x = some (ys ++ numI 4 x) := rfl
theorem putW_some (ys x : List Int) : putW (some ys) x = some (ys ++ x) := rfl
/-- numbers of two bytes behind others -/
def halW (st : Option (List Int)) : List Int → Option (List Int)
  | [] => st
  | x :: l => halW (u16W st x) l
theorem halW_none : ∀ l, halW none l = none
  | [] => rfl
  | x :: l => halW_none l
theorem halW_eq : ∀ (l : List Int) (ys : List Int), halW (some ys) l = (halP l).map (ys ++ ·)
  | [], ys => by simp [halW, halP]
  | x :: l, ys => by
    rw [halW, u16W_some, halP]
    split
    · rw [halW_eq l, Option.map_map]
      congr 1
      funext z
      simp
    · rw [halW_none]; rfl
theorem comW_eq (ys : List Int) (a1 a2 a3 a4 a5 a6 a7 a8 : Int) (ln le : Nat) : comW (some ys) a1 a2 a3 a4 a5 a6 a7 a8 ln le = (halP [a1, a2, a3, a4, a5]).bind fun p => (halP [((ln : Nat) : Int), ((le : Nat) : Int)]).map fun q => ys ++ (p ++ (worP [a6, a7, a8] ++ q)) := by
  have e1 : comW (some ys) a1 a2 a3 a4 a5 a6 a7 a8 ln le = halW (u32W (u32W (u32W (halW (some ys) [a1, a2, a3, a4, a5]) a6) a7) a8) [((ln : Nat) : Int), ((le : Nat) : Int)] := rfl
  rw [e1, halW_eq]
  cases halP [a1, a2, a3, a4, a5] with
  | none => rw [Option.map_none, u32W_none, u32W_none, u32W_none, halW_none]; rfl
  | some p =>
    rw [Option.map_some, u32W_some, u32W_some, u32W_some, halW_eq, Option.bind_some]
    congr 1
    funext q
    simp [worP]
end Go.Proofs.Ytibngikhlgmhaaa.Gx

