/- The document's finder, walked: same, At, Check, Find. No condition. -/
import Derived.Test.YtdmemmpkkibckaaFndB
import Derived.Test.YtdmemmpkkibckaaRefP
namespace Go.Proofs.Ytdmemmpkkibckaa.Gx
open Go Go.RowKit Fd
set_option linter.unusedVariables false
set_option linter.unusedSimpArgs false
theorem rsame_loop {h : GH} {b : Sl} {bs : List Int} (r : Rd h b bs) {mx : Int} (hmx : mx ≤ 65538) {f i : Nat} (hf : f < i) (hi : i ≤ bs.length) (hb : bs.length ≤ 1000000000) (R : Nat) {β : Type} (K : Int → GH → Option β) :
    ∀ (d k n : Nat), bs.length ≤ i + (d + k) → i + k ≤ bs.length → d < n → F_ref09_same_l0 R n b (f : Nat) (i : Nat) mx (k : Nat) h K = K ((lenFrom bs f i mx d k : Nat) : Int) h
  | d, k, n, hd, hk, hn => by
    obtain ⟨n, rfl⟩ : ∃ n', n = n' + 1 := ⟨n - 1, by omega⟩
    have hbn := r.n
    have w1 : IntKind.wrap .i64 ((i : Int) + (k : Int)) = ((i + k : Nat) : Int) := by rw [i64w (by omega)]; omega
    have w2 : IntKind.wrap .i64 ((f : Int) + (k : Int)) = ((f + k : Nat) : Int) := by rw [i64w (by omega)]; omega
    have w3 : IntKind.wrap .i64 ((k : Int) + 1) = ((k + 1 : Nat) : Int) := by rw [i64w (by omega)]; omega
    rw [F_ref09_same_l0_succ, w1, w2, w3]
    by_cases c1 : (k : Int) < mx
    · rw [decT c1, condT]
      by_cases c2 : i + k < bs.length
      · rw [decT (by omega), condT]
        have r1 := fun K => r.byte (β := β) (i := ((f + k : Nat) : Int)) (by omega) (by omega) K
        have r2 := fun K => r.byte (β := β) (i := ((i + k : Nat) : Int)) (by omega) (by omega) K
        rw [r1, r2]
        simp only [Int.toNat_natCast]
        match d, hd, hn with
        | 0, hd, hn => exact absurd c2 (by omega)
        | d + 1, hd, hn =>
          rw [lenFrom]
          by_cases c3 : bs.getD (f + k) 0 = bs.getD (i + k) 0
          · rw [if_pos ⟨c1, c2, c3⟩, beq_int, decT c3, condT]
            exact rsame_loop r hmx hf hi hb R K d (k + 1) n (by omega) (by omega) (by omega)
          · rw [if_neg (fun q => c3 q.2.2), beq_int, decF c3, condF]
      · rw [decF (by omega), condF, lenFrom_stop _ _ _ _ _ _ (fun q => c2 q.2.1)]
    · rw [decF c1, condF, lenFrom_stop _ _ _ _ _ _ (fun q => c1 q.1)]
theorem rsame_eq {h : GH} {b : Sl} {bs : List Int} (r : Rd h b bs) {mx : Int} (hmx : mx ≤ 65538) {f i : Nat} (hf : f < i) (hi : i ≤ bs.length) (hb : bs.length ≤ 1000000000) {R : Nat} (hR : bs.length < R) {β : Type} (K : Int → GH → Option β) :
    F_ref09_same R b (f : Nat) (i : Nat) mx h K = K ((same bs f i mx : Nat) : Int) h := by
  unfold F_ref09_same
  rw [F_ref09_same_gen]
  exact rsame_loop r hmx hf hi hb R _ bs.length 0 R (by omega) (by omega) (by omega)
theorem rat_loop {gs gb : Nat} {b : Sl} {bs : List Int} {z : Shp} (hz : ShOk z) {i : Nat} (hi : i ≤ bs.length) (hb : bs.length ≤ 1000000000) {R : Nat} (hR : bs.length < R) (y : Option Addr) (hne : gs ≠ gb) (g4 : gb ∉ rowsOf b) :
    ∀ (k n looked : Nat) (best : Nat × Nat) (h : GH), k ≤ i → k < n → looked + k ≤ 2000000000 → h.look gs = some (.row ⟨shC z, 0, false⟩) → Rd h b bs → h.look gb = some (tr 0 best) →
    ∃ h', Keep h h' [gb] ∧ h'.look gb = some (tr 0 (refLoop bs z.mn z.mx z.win z.ch i k looked best)) ∧ ∀ (β : Type) (K : Option Addr → Option Addr → GH → Option β),
      F_ref09_At_l0 (F_ref09_same R) R n b (i : Nat) (some ⟨gs, 0, none⟩) y (some ⟨gb, 0, none⟩) (looked : Nat) (((k : Nat) : Int) - 1) h K = K y (some ⟨gb, 0, none⟩) h'
  | 0, n, looked, best, h, hk, hn, hl, ls, rb, lb => by
    obtain ⟨n, rfl⟩ : ∃ n', n = n' + 1 := ⟨n - 1, by omega⟩
    refine ⟨h, .refl _ _, lb, fun β K => ?_⟩
    rw [F_ref09_At_l0_succ, decF (by omega), condF]
  | k + 1, n, looked, best, h, hk, hn, hl, ls, rb, lb => by
    obtain ⟨n, rfl⟩ : ∃ n', n = n' + 1 := ⟨n - 1, by omega⟩
    have hx : ((k + 1 : Nat) : Int) - 1 = (k : Nat) := by omega
    have w1 : IntKind.wrap .i64 ((i : Int) - (k : Int)) = ((i - k : Nat) : Int) := by rw [i64w (by omega)]; omega
    have w2 : IntKind.wrap .i64 ((looked : Int) + 1) = ((looked + 1 : Nat) : Int) := by rw [i64w (by omega)]; omega
    have w3 : IntKind.wrap .i64 ((k : Int) - 1) = ((k : Nat) : Int) - 1 := i64w (by omega)
    have cs := fun j => cell_of ls j
    have cb := fun j => cell_of lb j
    have hmn : z.mn ≤ 65538 := by have := hz.mn; omega
    have s1 := fun β K => rsame_eq (β := β) rb hmn (f := k) (i := i) (by omega) hi hb hR K
    have s2 := fun β K => rsame_eq (β := β) rb hz.mx.2 (f := k) (i := i) (by omega) hi hb hR K
    have hsa : sameAt gs 1 1 h h = true := by rw [sameAt_1, cs]; simp only [shC, nth_s, nth_0, veqO_i]
    by_cases c1 : (i : Int) - k ≤ z.win
    · by_cases c2 : (looked : Int) < z.ch
      · have start : ∀ (β : Type) (K : Option Addr → Option Addr → GH → Option β), F_ref09_At_l0 (F_ref09_same R) R (n + 1) b (i : Nat) (some ⟨gs, 0, none⟩) y (some ⟨gb, 0, none⟩) (looked : Nat) (((k + 1 : Nat) : Int) - 1) h K = bif decide (((same bs k i z.mn : Nat) : Int) < z.mn) then F_ref09_At_l0 (F_ref09_same R) R n b (i : Nat) (some ⟨gs, 0, none⟩) y (some ⟨gb, 0, none⟩) (looked : Nat) (((k : Nat) : Int) - 1) h K else (bif decide (((same bs k i z.mx : Nat) : Int) > (best.2 : Nat)) then gput gb 0 [Value.int .u8 0, Value.int .i64 ((i - k : Nat) : Int), Value.int .i64 ((same bs k i z.mx : Nat) : Int)] h fun h48 => F_ref09_At_l0 (F_ref09_same R) R n b (i : Nat) (some ⟨gs, 0, none⟩) y (some ⟨gb, 0, none⟩) ((looked + 1 : Nat) : Int) (((k : Nat) : Int) - 1) h48 K else F_ref09_At_l0 (F_ref09_same R) R n b (i : Nat) (some ⟨gs, 0, none⟩) y (some ⟨gb, 0, none⟩) ((looked + 1 : Nat) : Int) (((k : Nat) : Int) - 1) h K) := by
          intro β K
          rw [F_ref09_At_l0_succ, hx, decT (by omega), condT]
          simp only [exA_s, Nat.zero_add, cs, cb, shC, nth_s, nth_0, exI_s, w1, w2, w3]
          rw [decT (by omega), condT, decT c2, condT, s1, hsa]
          simp only [cs, shC, nth_s, nth_0, exI_s, condT]
          rw [s2]
          simp only [cb, nth_s, nth_0, exI_s]
        have hr : ∀ best, refLoop bs z.mn z.mx z.win z.ch i (k + 1) looked best = if (same bs k i z.mn : Int) < z.mn then refLoop bs z.mn z.mx z.win z.ch i k looked best else refLoop bs z.mn z.mx z.win z.ch i k (looked + 1) (if best.2 < same bs k i z.mx then (i - k, same bs k i z.mx) else best) := fun best => by
          rw [refLoop, if_pos ⟨c1, c2⟩]
        by_cases c3 : (same bs k i z.mn : Int) < z.mn
        · obtain ⟨h1, k1, l1, e1⟩ := rat_loop hz hi hb hR y hne g4 k n looked best h (by omega) (by omega) (by omega) ls rb lb
          refine ⟨h1, k1, by rw [hr, if_pos c3]; exact l1, fun β K => ?_⟩
          rw [start, decT c3, condT, e1]
        · by_cases c4 : best.2 < same bs k i z.mx
          · have k0 := keep_put h gb (some (tr 0 (i - k, same bs k i z.mx)))
            obtain ⟨h1, k1, l1, e1⟩ := rat_loop hz hi hb hR y hne g4 k n (looked + 1) (i - k, same bs k i z.mx) (h.put gb (some (tr 0 (i - k, same bs k i z.mx)))) (by omega) (by omega) (by omega) (k0.look ls (by simpa using hne)) (rb.keep k0 (fun x hx hm => by simp at hm; subst hm; exact g4 hx)) (look_put_same (look_lt lb))
            refine ⟨h1, k0.trans k1 (fun x hx => .inl hx), by rw [hr, if_neg c3, if_pos c4]; exact l1, fun β K => ?_⟩
            rw [start, decF c3, condF, decT (by omega), condT, gput_eq lb rfl (by simp)]
            exact e1 β K
          · obtain ⟨h1, k1, l1, e1⟩ := rat_loop hz hi hb hR y hne g4 k n (looked + 1) best h (by omega) (by omega) (by omega) ls rb lb
            refine ⟨h1, k1, by rw [hr, if_neg c3, if_neg c4]; exact l1, fun β K => ?_⟩
            rw [start, decF c3, condF, decF (by omega), condF, e1]
      · refine ⟨h, .refl _ _, by rw [refLoop, if_neg (fun q => c2 q.2)]; exact lb, fun β K => ?_⟩
        rw [F_ref09_At_l0_succ, hx, decT (by omega), condT]
        simp only [exA_s, Nat.zero_add, cs, cb, shC, nth_s, nth_0, exI_s, w1, w2, w3]
        rw [decT (by omega), condT, decF c2, condF]
    · refine ⟨h, .refl _ _, by rw [refLoop, if_neg (fun q => c1 q.1)]; exact lb, fun β K => ?_⟩
      rw [F_ref09_At_l0_succ, hx, decT (by omega), condT]
      simp only [exA_s, Nat.zero_add, cs, cb, shC, nth_s, nth_0, exI_s, w1, w2, w3]
      rw [decF (by omega), condF]
theorem rat_eq {h : GH} {b : Sl} {bs : List Int} (r : Rd h b bs) {z : Shp} (hz : ShOk z) {i : Nat} (hi : i ≤ bs.length) (hb : bs.length ≤ 1000000000) {R : Nat} (hR : bs.length < R) :
    ∃ h', Keep h h' [] ∧ ∀ (β : Type) (K : Int → Int → Int → GH → Option β), F_ref09_At R b z.win z.mn z.mx z.ch z.lz (i : Nat) h K = K 0 (atSpec bs z.mn z.mx z.win z.ch i).1 (atSpec bs z.mn z.mx z.win z.ch i).2 h' := by
  have bl := r.lt
  have hspec := refAt_eq (bs := bs) (win := z.win) (ch := z.ch) i hz.mn (mx := z.mx) (by have := hz.mn; have := hz.mx; omega)
  have k1 := keep_push h (.row ⟨shC z, 0, false⟩) []
  have k2 := k1.trans (keep_push _ (tr 0 (0, 0)) []) (by simp)
  have k3 := k2.trans (keep_push _ (tr 0 (0, 0)) []) (by simp)
  obtain ⟨H, hH⟩ : ∃ H, H = ((h.push (.row ⟨shC z, 0, false⟩)).push (tr 0 (0, 0))).push (tr 0 (0, 0)) := ⟨_, rfl⟩
  rw [← hH] at k3
  have l1 : H.look h.next = some (.row ⟨shC z, 0, false⟩) := by rw [hH, look_push_old (by simp [next_push]; omega), look_push_old (by simp [next_push]), look_push_new]
  have l2 : H.look (h.next + 1) = some (tr 0 (0, 0)) := by rw [hH, look_push_old (by simp [next_push])]; exact look_push_new
  have l3 : H.look (h.next + 2) = some (tr 0 (0, 0)) := by rw [hH]; exact look_push_new
  have k4 := keep_put H (h.next + 2) (some (tr 0 (0, 0)))
  obtain ⟨h5, k5, l5, e5⟩ := rat_loop (gs := h.next) (gb := h.next + 2) hz hi hb hR (some ⟨h.next + 1, 0, none⟩) (by omega) (fun hx => by have := bl _ hx; omega) i R 0 (0, 0) (H.put (h.next + 2) (some (tr 0 (0, 0)))) (Nat.le_refl _) (by omega) (by omega) (k4.look l1 (by simp)) ((r.keep k3 (by simp)).keep k4 (fun x hx hm => by have := bl x hx; simp at hm; omega)) (look_put_same (look_lt l3))
  rw [show refLoop bs z.mn z.mx z.win z.ch i i 0 (0, 0) = refAt bs z.mn z.mx z.win z.ch i from rfl, hspec] at l5
  have m2 := k5.look (k4.look l2 (by simp)) (by simp)
  have k6 := keep_put h5 (h.next + 1) (some (tr 0 (atSpec bs z.mn z.mx z.win z.ch i)))
  have l6 : (h5.put (h.next + 1) (some (tr 0 (atSpec bs z.mn z.mx z.win z.ch i)))).look (h.next + 1) = some (tr 0 (atSpec bs z.mn z.mx z.win z.ch i)) := look_put_same (look_lt m2)
  refine ⟨h5.put (h.next + 1) (some (tr 0 (atSpec bs z.mn z.mx z.win z.ch i))), (((k3.trans k4 (fun x hx => .inr (by simp at hx; omega))).trans k5 (fun x hx => .inr (by simp at hx; omega))).trans k6 (fun x hx => .inr (by simp at hx; omega))), fun β K => ?_⟩
  unfold F_ref09_At
  rw [F_ref09_At_gen]
  refine (gnew_eq rfl _).trans ?_
  refine (gnew_eq rfl _).trans ?_
  refine (gnew_eq rfl _).trans ?_
  have hn1 : (h.push (.row ⟨shC z, 0, false⟩)).next = h.next + 1 := rfl
  have hn2 : ((h.push (.row ⟨shC z, 0, false⟩)).push (tr 0 (0, 0))).next = h.next + 2 := rfl
  have gp : ∀ (K : GH → Option β), gput (h.next + 2) 0 [Value.int .u8 0, Value.int .i64 0, Value.int .i64 0] H K = K (H.put (h.next + 2) (some (tr 0 (0, 0)))) := fun K => by rw [gput_eq l3 rfl (by simp)]; rfl
  have e5' := e5 β
  rw [show ((0 : Nat) : Int) = 0 from rfl] at e5'
  have e6 : IntKind.wrap .i64 (((i : Nat) : Int) - 1) = ((i : Nat) : Int) - 1 := i64w (by omega)
  rw [e6]
  subst hH
  refine (gp _).trans ?_
  refine (e5' _).trans ?_
  have c5 := fun j => cell_of l5 j
  have c6 := fun j => cell_of l6 j
  simp only [exA_s, c5, Nat.zero_add, nth_s, nth_0, exI_s]
  rw [gput_eq m2 rfl (by simp)]
  refine (?_ : _ = K 0 (atSpec bs z.mn z.mx z.win z.ch i).1 (atSpec bs z.mn z.mx z.win z.ch i).2 (h5.put (h.next + 1) (some (tr 0 (atSpec bs z.mn z.mx z.win z.ch i)))))
  rw [show nlay [Value.int .u8 0, Value.int .i64 ((0, 0) : Nat × Nat).1, Value.int .i64 ((0, 0) : Nat × Nat).2] 0 [Value.int .u8 0, Value.int .i64 ((atSpec bs z.mn z.mx z.win z.ch i).1 : Nat), Value.int .i64 ((atSpec bs z.mn z.mx z.win z.ch i).2 : Nat)] = [Value.int .u8 0, Value.int .i64 ((atSpec bs z.mn z.mx z.win z.ch i).1 : Nat), Value.int .i64 ((atSpec bs z.mn z.mx z.win z.ch i).2 : Nat)] from rfl]
  have c6' : ∀ j, (h5.put (h.next + 1) (some (.row ⟨[Value.int .u8 0, Value.int .i64 ((atSpec bs z.mn z.mx z.win z.ch i).1 : Nat), Value.int .i64 ((atSpec bs z.mn z.mx z.win z.ch i).2 : Nat)], 0, false⟩))).cell ⟨h.next + 1, j, none⟩ = nth [Value.int .u8 0, Value.int .i64 ((atSpec bs z.mn z.mx z.win z.ch i).1 : Nat), Value.int .i64 ((atSpec bs z.mn z.mx z.win z.ch i).2 : Nat)] j := c6
  simp only [exA_s, c6', Nat.zero_add, nth_s, nth_0, exI_s]
  rfl
theorem rcheck_eq (h : GH) {z : Shp} (hz : ShOk z) (R : Nat) : ∃ h', Keep h h' [] ∧ ∀ (β : Type) (K : Bool → GH → Option β), F_ref09_Check R z.win z.mn z.mx z.ch z.lz h K = K true h' := by
  refine ⟨h.push (.row ⟨shC z, 0, false⟩), keep_push _ _ _, fun β K => ?_⟩
  have h1 := hz.mn
  have h2 := hz.win
  have h3 := hz.mx
  have h4 := hz.ch
  unfold F_ref09_Check
  rw [F_ref09_Check_gen]
  refine (gnew_eq rfl _).trans ?_
  have c' : ∀ i, (h.push (.row ⟨[.int .i64 z.win, .int .i64 z.mn, .int .i64 z.mx, .int .i64 z.ch, .bool z.lz], 0, false⟩)).cell ⟨h.next, i, none⟩ = nth [.int .i64 z.win, .int .i64 z.mn, .int .i64 z.mx, .int .i64 z.ch, .bool z.lz] i := fun i => cell_of (look_push_new (h := h) (o := .row ⟨shC z, 0, false⟩)) i
  simp only [c', Nat.zero_add, nth_s, nth_0, exI_s]
  rw [decT (by omega), condT, decT (by omega), condT, decT (by omega), condT, decT (by omega), condT, decT (by omega), condT, decT (by omega), condT, decT (by omega), condT, decT (by omega)]
  rfl
structure RLs (h : GH) (gs : Nat) (b : Sl) (bs : List Int) (z : Shp) (y : Sl) (l : List Tok) : Prop where
  sh : h.look gs = some (.row ⟨shC z, 0, false⟩)
  vec : Vec h y 3 (tokCs l)
  rb : Rd h b bs
  sep : ∀ x ∈ rowsOf y, x ≠ gs ∧ x ∉ rowsOf b
theorem RLs.keep0 {h h' : GH} {gs : Nat} {b : Sl} {bs : List Int} {z : Shp} {y : Sl} {l : List Tok} (s : RLs h gs b bs z y l) (k : Keep h h' []) : RLs h' gs b bs z y l :=
  ⟨k.look s.sh (by simp), s.vec.keep k (by simp), s.rb.keep k (by simp), s.sep⟩
theorem RLs.app {h : GH} {gs : Nat} {b : Sl} {bs : List Int} {z : Shp} {y : Sl} {l : List Tok} (s : RLs h gs b bs z y l) (t : Tok) (hl : l.length ≤ 1000000000) :
    ∃ h' y', RLs h' gs b bs z y' (l ++ [t]) ∧ Keep h h' (rowsOf y) ∧ (∀ x ∈ rowsOf y', x ∈ rowsOf y ∨ h.next ≤ x) ∧ ∀ (β : Type) (K : Sl → GH → Option β),
      (gnew [Value.int .u8 t.lit, Value.int .i64 t.dist, Value.int .i64 t.len] 3 h fun g h1 => gappS 3 24 y ⟨(some ⟨g, 0, none⟩), 1, 1⟩ h1 K) = K y' h' := by
  have hn : y.n = l.length := by have := s.vec.len; rw [tokCs_len] at this; omega
  obtain ⟨h', y', e, v, k, n, _⟩ := app_one' (by_ := 24) s.vec [Value.int .u8 t.lit, Value.int .i64 t.dist, Value.int .i64 t.len] rfl (by omega) rfl (by rw [hn]; simp only [most]; omega)
  have hg := look_lt s.sh
  have hbl := s.rb.lt
  refine ⟨h', y', ⟨k.look s.sh (fun hx => (s.sep _ hx).1 rfl), ?_, s.rb.keep k (fun x hx hy => (s.sep _ hy).2 hx), fun x hx => ?_⟩, k, n, fun β K => e β K⟩
  · rw [tokCs_snoc]; exact v
  · rcases n x hx with h1 | h1
    · exact s.sep x h1
    · exact ⟨by omega, fun hb => by have := hbl x hb; omega⟩
theorem rfind_loop {gs : Nat} {b : Sl} {bs : List Int} {z : Shp} (hz : ShOk z) (hlz : z.lz = true) (hb : bs.length ≤ 1000000000) {R : Nat} (hR : bs.length < R) :
    ∀ (f i n : Nat) (h : GH) (y : Sl) (l : List Tok), bs.length ≤ i + f → i ≤ bs.length → f < n → l.length ≤ i → RLs h gs b bs z y l →
    ∃ h' y', Vec h' y' 3 (tokCs (l ++ findLoop bs z.mn z.mx z.win z.ch z.lz f i)) ∧ Keep h h' (rowsOf y) ∧ (∀ x ∈ rowsOf y', x ∈ rowsOf y ∨ h.next ≤ x) ∧ ∀ (β : Type) (K : Sl → GH → Option β),
      F_ref09_Find_l0 (F_ref09_Check R) (F_ref09_At R) R n b (some ⟨gs, 0, none⟩) y (i : Nat) h K = K y' h'
  | f, i, n, h, y, l, hf, hi, hn, hl, s => by
    obtain ⟨n, rfl⟩ : ∃ n', n = n' + 1 := ⟨n - 1, by omega⟩
    have hbn := s.rb.n
    by_cases c : i < bs.length
    · match f, hf, hn with
      | 0, hf, hn => exact absurd c (by omega)
      | f + 1, hf, hn =>
        have hgood := atSpec_good bs z.mn z.mx z.win z.ch i hi
        rw [findLoop, if_pos c]
        obtain ⟨h1, k1, e1⟩ := rat_eq s.rb hz hi hb hR
        rw [hlz] at e1
        have s1 := s.keep0 k1
        obtain ⟨gt, h2, k2, n2, lt, e2⟩ := tmp_tok h1 0 (atSpec bs z.mn z.mx z.win z.ch i)
        have s2 := s1.keep0 k2
        have k02 := k1.trans k2 (by simp)
        have ct : ∀ h' : GH, h'.look gt = some (tr 0 (atSpec bs z.mn z.mx z.win z.ch i)) → ∀ j, h'.cell ⟨gt, j, none⟩ = nth [.int .u8 0, .int .i64 ((atSpec bs z.mn z.mx z.win z.ch i).1 : Nat), .int .i64 ((atSpec bs z.mn z.mx z.win z.ch i).2 : Nat)] j := fun h' hl j => cell_of hl j
        have gtn : h.next ≤ gt := by have := k1.1; omega
        have hw1 : IntKind.wrap .i64 ((i : Int) + 1) = ((i + 1 : Nat) : Int) := by rw [i64w (by omega)]; omega
        -- a byte is told
        have lit : ∀ h3, Keep h h3 [] → RLs h3 gs b bs z y l → ∃ h' y', Vec h' y' 3 (tokCs (l ++ (⟨bs.getD i 0, 0, 0⟩ :: findLoop bs z.mn z.mx z.win z.ch z.lz f (i + 1)))) ∧ Keep h h' (rowsOf y) ∧ (∀ x ∈ rowsOf y', x ∈ rowsOf y ∨ h.next ≤ x) ∧ ∀ (β : Type) (K : Sl → GH → Option β),
            (exA b.a fun g43 o44 => within (i : Nat) b.n (exI .u8 (h3.cell ⟨g43, o44 + ((i : Nat) : Int).toNat * 1, none⟩) fun x45 => gnew [Value.int .u8 x45, Value.int .i64 0, Value.int .i64 0] 3 h3 fun g46 h47 => gappS 3 24 y ⟨(some ⟨g46, 0, none⟩), 1, 1⟩ h47 fun s48 h49 => F_ref09_Find_l0 (F_ref09_Check R) (F_ref09_At R) R n b (some ⟨gs, 0, none⟩) s48 ((i + 1 : Nat) : Int) h49 K)) = K y' h' := by
          intro h3 k3 s3
          obtain ⟨h4, y4, s4, k4, n4, e4⟩ := s3.app ⟨bs.getD i 0, 0, 0⟩ (by omega)
          obtain ⟨h5, y5, v5, k5, n5, e5⟩ := rfind_loop hz hlz hb hR f (i + 1) n h4 y4 (l ++ [⟨bs.getD i 0, 0, 0⟩]) (by omega) (by omega) (by omega) (by simp; omega) s4
          refine ⟨h5, y5, by simpa using v5, ((k3.mono (o1 := rowsOf y) (by simp)).trans k4 (fun x hx => .inl hx)).trans k5 (fun x hx => (n4 x hx).imp id fun q => by have := k3.1; omega), fun x hx => ?_, fun β K => ?_⟩
          · rcases n5 x hx with h | h
            · exact (n4 x h).imp id fun h => by have := k3.1; omega
            · exact .inr (by have := k3.1; have := k4.1; omega)
          · have r1 := fun K => s3.rb.byte (β := β) (i := ((i : Nat) : Int)) (by omega) (by omega) K
            rw [r1, Int.toNat_natCast, e4, e5]
        -- a piece is told
        have piece : ∀ h3, 0 < (atSpec bs z.mn z.mx z.win z.ch i).2 → Keep h h3 [] → h3.look gt = some (tr 0 (atSpec bs z.mn z.mx z.win z.ch i)) → RLs h3 gs b bs z y l → ∃ h' y', Vec h' y' 3 (tokCs (l ++ (⟨0, (atSpec bs z.mn z.mx z.win z.ch i).1, (atSpec bs z.mn z.mx z.win z.ch i).2⟩ :: findLoop bs z.mn z.mx z.win z.ch z.lz f (i + (atSpec bs z.mn z.mx z.win z.ch i).2)))) ∧ Keep h h' (rowsOf y) ∧ (∀ x ∈ rowsOf y', x ∈ rowsOf y ∨ h.next ≤ x) ∧ ∀ (β : Type) (K : Sl → GH → Option β),
            (gnew [Value.int .u8 0, Value.int .i64 ((atSpec bs z.mn z.mx z.win z.ch i).1 : Nat), Value.int .i64 ((atSpec bs z.mn z.mx z.win z.ch i).2 : Nat)] 3 h3 fun g80 h81 => gappS 3 24 y ⟨(some ⟨g80, 0, none⟩), 1, 1⟩ h81 fun s82 h83 => exI .i64 (h83.cell ⟨gt, 0 + 2, none⟩) fun x84 => F_ref09_Find_l0 (F_ref09_Check R) (F_ref09_At R) R n b (some ⟨gs, 0, none⟩) s82 (IntKind.wrap .i64 (((i : Nat) : Int) + x84)) h83 K) = K y' h' := by
          intro h3 hp k3 lt3 s3
          obtain ⟨h4, y4, s4, k4, n4, e4⟩ := s3.app ⟨0, (atSpec bs z.mn z.mx z.win z.ch i).1, (atSpec bs z.mn z.mx z.win z.ch i).2⟩ (by omega)
          have hgt : gt ∉ rowsOf y := fun hx => by have := s.vec.lt gt hx; omega
          have lt4 := k4.look lt3 hgt
          obtain ⟨h5, y5, v5, k5, n5, e5⟩ := rfind_loop hz hlz hb hR f (i + (atSpec bs z.mn z.mx z.win z.ch i).2) n h4 y4 (l ++ [⟨0, (atSpec bs z.mn z.mx z.win z.ch i).1, (atSpec bs z.mn z.mx z.win z.ch i).2⟩]) (by omega) (by omega) (by omega) (by simp; omega) s4
          refine ⟨h5, y5, by simpa using v5, ((k3.mono (o1 := rowsOf y) (by simp)).trans k4 (fun x hx => .inl hx)).trans k5 (fun x hx => (n4 x hx).imp id fun q => by have := k3.1; omega), fun x hx => ?_, fun β K => ?_⟩
          · rcases n5 x hx with h | h
            · exact (n4 x h).imp id fun h => by have := k3.1; omega
            · exact .inr (by have := k3.1; have := k4.1; omega)
          · refine (e4 β _).trans ?_
            simp only [ct h4 lt4, Nat.zero_add, nth_s, nth_0, exI_s]
            rw [show IntKind.wrap .i64 ((i : Int) + ((atSpec bs z.mn z.mx z.win z.ch i).2 : Nat)) = ((i + (atSpec bs z.mn z.mx z.win z.ch i).2 : Nat) : Int) by rw [i64w (by omega)]; omega, e5]
        have cs2 : ∀ j, h2.cell ⟨gs, j, none⟩ = nth [.int .i64 z.win, .int .i64 z.mn, .int .i64 z.mx, .int .i64 z.ch, .bool true] j := fun j => by rw [← hlz]; exact cell_of s2.sh j
        have cs0 : ∀ j, h.cell ⟨gs, j, none⟩ = nth [.int .i64 z.win, .int .i64 z.mn, .int .i64 z.mx, .int .i64 z.ch, .bool true] j := fun j => by rw [← hlz]; exact cell_of s.sh j
        generalize hA : atSpec bs z.mn z.mx z.win z.ch i = A at *
        have lit0 : Fd.waits bs z.mn z.mx z.win z.ch z.lz i = true → ∀ h3, Keep h h3 [] → RLs h3 gs b bs z y l → _ := fun _ h3 => lit h3
        clear lit0
        by_cases w0 : A = (0, 0)
        · rw [if_pos (by simp [Fd.waits, hA, w0])]
          obtain ⟨h', y', v', k', n', e'⟩ := lit h2 k02 s2
          refine ⟨h', y', v', k', n', fun β K => ?_⟩
          rw [F_ref09_Find_l0_succ, decT (by omega), condT]
          simp only [exA_s, cs0, Nat.zero_add, nth_s, nth_0, exI_s, exB_s, hw1]
          rw [e1]
          refine (e2 β _).trans ?_
          simp only [cs2, ct h2 lt, Nat.zero_add, nth_s, nth_0, exI_s, exB_s, condT, w0]
          have hmx : (0 : Int) < z.mx := by have := hz.mn; have := hz.mx; omega
          rw [show ((0 : Nat) : Int) = 0 from rfl, decT hmx, condT, decF (by omega), condF, beq_self_eq_true, condT]
          exact e' β K
        · have hpos : 0 < A.2 := hgood.1.resolve_left w0
          by_cases wm : ((A.2 : Nat) : Int) < z.mx
          · by_cases cl : i + 1 < bs.length
            · obtain ⟨h3, k3, e3⟩ := rat_eq s2.rb hz (i := i + 1) (by omega) hb hR
              rw [hlz] at e3
              have s3 := s2.keep0 k3
              have k03 := k02.trans k3 (by simp)
              have lt3 := k3.look lt (by simp)
              have hsa : sameAt gt 2 1 h2 h3 = true := by
                rw [sameAt_1, ct h2 lt, ct h3 lt3]
                simp only [nth_s, nth_0, veqO_i]
              have go : ∀ (β : Type) (K : Sl → GH → Option β), F_ref09_Find_l0 (F_ref09_Check R) (F_ref09_At R) R (n + 1) b (some ⟨gs, 0, none⟩) y (i : Nat) h K = bif decide ((((atSpec bs z.mn z.mx z.win z.ch (i + 1)).2 : Nat) : Int) > ((A.2 : Nat) : Int)) then (exA b.a fun g43 o44 => within (i : Nat) b.n (exI .u8 (h3.cell ⟨g43, o44 + ((i : Nat) : Int).toNat * 1, none⟩) fun x45 => gnew [Value.int .u8 x45, Value.int .i64 0, Value.int .i64 0] 3 h3 fun g46 h47 => gappS 3 24 y ⟨(some ⟨g46, 0, none⟩), 1, 1⟩ h47 fun s48 h49 => F_ref09_Find_l0 (F_ref09_Check R) (F_ref09_At R) R n b (some ⟨gs, 0, none⟩) s48 ((i + 1 : Nat) : Int) h49 K)) else (gnew [Value.int .u8 0, Value.int .i64 (A.1 : Nat), Value.int .i64 (A.2 : Nat)] 3 h3 fun g80 h81 => gappS 3 24 y ⟨(some ⟨g80, 0, none⟩), 1, 1⟩ h81 fun s82 h83 => exI .i64 (h83.cell ⟨gt, 2, none⟩) fun x84 => F_ref09_Find_l0 (F_ref09_Check R) (F_ref09_At R) R n b (some ⟨gs, 0, none⟩) s82 (IntKind.wrap .i64 (((i : Nat) : Int) + x84)) h83 K) := by
                intro β K
                rw [F_ref09_Find_l0_succ, decT (by omega), condT]
                simp only [exA_s, cs0, Nat.zero_add, nth_s, nth_0, exI_s, exB_s, hw1]
                rw [e1]
                refine (e2 β _).trans ?_
                simp only [cs2, ct h2 lt, Nat.zero_add, nth_s, nth_0, exI_s, exB_s, condT]
                rw [decT wm, condT, decT (by omega), condT, decT (by omega), condT, e3]
                simp only [ct h3 lt3, Nat.zero_add, nth_s, nth_0, exI_s, hsa, condT]
                rw [beq_int, decF (by omega), condF]
              by_cases w2 : A.2 < (atSpec bs z.mn z.mx z.win z.ch (i + 1)).2
              · rw [if_pos (by simp [Fd.waits, hA, hlz, wm, w2])]
                obtain ⟨h', y', v', k', n', e'⟩ := lit h3 k03 s3
                refine ⟨h', y', v', k', n', fun β K => ?_⟩
                rw [go, decT (by omega), condT]
                exact e' β K
              · rw [if_neg (by simp [Fd.waits, hA, w0, w2])]
                obtain ⟨h', y', v', k', n', e'⟩ := piece h3 hpos k03 lt3 s3
                refine ⟨h', y', v', k', n', fun β K => ?_⟩
                rw [go, decF (by omega), condF]
                exact e' β K
            · have hz1 : (atSpec bs z.mn z.mx z.win z.ch (i + 1)).2 = 0 := by
                unfold atSpec; rw [if_neg (by have := hz.mn; omega)]
              rw [if_neg (by simp [Fd.waits, hA, w0, hz1])]
              obtain ⟨h', y', v', k', n', e'⟩ := piece h2 hpos k02 lt s2
              refine ⟨h', y', v', k', n', fun β K => ?_⟩
              rw [F_ref09_Find_l0_succ, decT (by omega), condT]
              simp only [exA_s, cs0, Nat.zero_add, nth_s, nth_0, exI_s, exB_s, hw1]
              rw [e1]
              refine (e2 β _).trans ?_
              simp only [cs2, ct h2 lt, Nat.zero_add, nth_s, nth_0, exI_s, exB_s, condT]
              rw [decT wm, condT, decT (by omega), condT, decF (by omega), condF, beq_int, decF (by omega), condF]
              exact e' β K
          · rw [if_neg (by simp [Fd.waits, hA, w0, wm])]
            obtain ⟨h', y', v', k', n', e'⟩ := piece h2 hpos k02 lt s2
            refine ⟨h', y', v', k', n', fun β K => ?_⟩
            rw [F_ref09_Find_l0_succ, decT (by omega), condT]
            simp only [exA_s, cs0, Nat.zero_add, nth_s, nth_0, exI_s, exB_s, hw1]
            rw [e1]
            refine (e2 β _).trans ?_
            simp only [cs2, ct h2 lt, Nat.zero_add, nth_s, nth_0, exI_s, exB_s, condT]
            rw [decF wm, condF, beq_int, decF (by omega), condF]
            exact e' β K
    · refine ⟨h, y, ?_, .refl _ _, fun x hx => .inl hx, fun β K => ?_⟩
      · have : findLoop bs z.mn z.mx z.win z.ch z.lz f i = [] := by
          cases f with
          | zero => rfl
          | succ f => rw [findLoop, if_neg c]
        rw [this, List.append_nil]; exact s.vec
      · rw [F_ref09_Find_l0_succ, decF (by omega), condF]
theorem rfind_eq {h : GH} {b : Sl} {bs : List Int} (r : Rd h b bs) {z : Shp} (hz : ShOk z) (hlz : z.lz = true) (hb : bs.length ≤ 1000000000) {R : Nat} (hR : bs.length < R) :
    ∃ h' y, Vec h' y 3 (tokCs (findSpec bs z.mn z.mx z.win z.ch z.lz)) ∧ Keep h h' [] ∧ (∀ x ∈ rowsOf y, h.next ≤ x) ∧ ∀ (β : Type) (K : Sl → Int → GH → Option β), F_ref09_Find R b z.win z.mn z.mx z.ch z.lz h K = K y 0 h' := by
  have k1 := keep_push h (.row ⟨shC z, 0, false⟩) []
  have l1 : (h.push (.row ⟨shC z, 0, false⟩)).look h.next = some (.row ⟨shC z, 0, false⟩) := look_push_new
  obtain ⟨h2, k2, e2⟩ := rcheck_eq (h.push (.row ⟨shC z, 0, false⟩)) hz R
  have k02 := k1.trans k2 (by simp)
  obtain ⟨h3, y3, v3, k3, n3, e3⟩ := rfind_loop hz hlz hb hR bs.length 0 R h2 ⟨none, 0, 0⟩ [] (by omega) (by omega) hR (by simp) ⟨k2.look l1 (by simp), Vec.nil, r.keep k02 (by simp), by simp [rowsOf]⟩
  refine ⟨h3, y3, by simpa [findSpec] using v3, k02.trans k3 (fun x hx => by simp [rowsOf] at hx), fun x hx => ?_, fun β K => ?_⟩
  · rcases n3 x hx with q | q
    · simp [rowsOf] at q
    · have := k02.1; omega
  · have c1 : ∀ i, (h.push (.row ⟨[.int .i64 z.win, .int .i64 z.mn, .int .i64 z.mx, .int .i64 z.ch, .bool z.lz], 0, false⟩)).cell ⟨h.next, i, none⟩ = nth [.int .i64 z.win, .int .i64 z.mn, .int .i64 z.mx, .int .i64 z.ch, .bool z.lz] i := fun i => cell_of l1 i
    unfold F_ref09_Find
    rw [F_ref09_Find_gen]
    refine (gnew_eq rfl _).trans ?_
    simp only [c1, Nat.zero_add, nth_s, nth_0, exI_s, exB_s]
    refine (e2 β _).trans ?_
    rw [notT, condF]
    exact e3 β _
end Go.Proofs.Ytdmemmpkkibckaa.Gx

