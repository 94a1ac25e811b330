/- A word is read: the program by its tree, the document by its list. No condition. -/
import Derived.Test.YtephmpbccajaaaaReadR
import Derived.Test.YtephmpbccajaaaaTreeB
namespace Go.Proofs.Ytephmpbccajaaaa.Gx
open Go Go.RowKit
set_option linter.unusedVariables false
set_option linter.unusedSimpArgs false
theorem revN_add : ∀ (n x y : Nat), revN n x y = revN n x 0 + y * 2 ^ n
  | 0, x, y => by simp [revN]
  | n + 1, x, y => by
    rw [revN, revN_add n, revN, revN_add n (x / 2) (0 * 2 + x % 2), Nat.pow_succ]
    rw [Nat.add_mul, Nat.zero_mul, Nat.zero_add, Nat.mul_assoc, Nat.mul_comm 2 (2 ^ n)]; omega
theorem revN_push (n v b : Nat) (hb : b < 2) : revN (n + 1) (2 * v + b) 0 = revN n v 0 + b * 2 ^ n := by
  rw [revN, show (2 * v + b) / 2 = v by omega, show 0 * 2 + (2 * v + b) % 2 = b by omega, revN_add]
/-- the first symbol whose word these bits are -/
def fdW (zs : List Int) (n v : Nat) : Nat → Nat → Option Nat
  | 0, i => none
  | f + 1, i => if i < zs.length then (if lnN zs i = n ∧ wdN zs i = v then some i else fdW zs n v f (i + 1)) else none
theorem fdW_some {zs : List Int} {n v : Nat} : ∀ {f i s : Nat}, fdW zs n v f i = some s → s < zs.length ∧ lnN zs s = n ∧ wdN zs s = v
  | 0, i, s, h => by simp [fdW] at h
  | f + 1, i, s, h => by
    unfold fdW at h
    by_cases c : i < zs.length
    · rw [if_pos c] at h
      by_cases c2 : lnN zs i = n ∧ wdN zs i = v
      · rw [if_pos c2] at h; cases h; exact ⟨c, c2⟩
      · rw [if_neg c2] at h; exact fdW_some h
    · rw [if_neg c] at h; cases h
theorem fdW_none {zs : List Int} {n v : Nat} : ∀ {f i : Nat}, zs.length ≤ f + i → fdW zs n v f i = none → ∀ s, i ≤ s → s < zs.length → ¬ (lnN zs s = n ∧ wdN zs s = v)
  | 0, i, hf, h, s, h1, h2 => by omega
  | f + 1, i, hf, h, s, h1, h2 => by
    unfold fdW at h
    rw [if_pos (by omega)] at h
    by_cases c2 : lnN zs i = n ∧ wdN zs i = v
    · rw [if_pos c2] at h; cases h
    · rw [if_neg c2] at h
      by_cases c : s = i
      · subst c; exact c2
      · exact fdW_none (by omega) h s (by omega) h2
def findW (zs : List Int) (n v : Nat) : Option Nat := fdW zs n v zs.length 0
/-- the symbol, the error, the place behind it -/
def nextG (zs : List Int) (bs : List Int) (p : Nat) : Nat → Nat → Nat → Int × Int × Nat
  | 0, n, v => (-1, 6, p + n)
  | k + 1, n, v => if p + n + 1 ≤ 8 * bs.length then (match findW zs (n + 1) (2 * v + rdV bs (p + n) 1) with | some s => (((s : Nat) : Int), 0, p + n + 1) | none => nextG zs bs p k (n + 1) (2 * v + rdV bs (p + n) 1)) else (-1, 3, p + n)
def nextE (e : Int) : Int := if e = 3 then 3 else 0
section
variable {zs : List Int} (hx : ∀ x ∈ zs, lenP x) (hw : wgt zs = 65536)
include hx hw
theorem findW_word {s n v : Nat} (hs : s < zs.length) (h1 : lnN zs s = n) (h2 : wdN zs s = v) : findW zs n v = some s := by
  cases hf : findW zs n v with
  | none => exact absurd ⟨h1, h2⟩ (fdW_none (by omega) hf s (by omega) hs)
  | some t =>
    obtain ⟨t1, t2, t3⟩ := fdW_some hf
    by_cases c : t = s
    · rw [c]
    · exact absurd (by rw [h1, t2, Nat.sub_self, Nat.pow_zero, Nat.div_one, h2, t3]) (no_prefix hx hw t1 hs c (by omega))
theorem next_prog_loop {R : Nat} (hR : 4000000 < R) {T : List (Int × Int)} {ps : List (Nat × Nat)} (t : Tree zs T ps zs.length) {bs : List Int} {p : Nat} {gd gt g : Nat} {rb : Sl} (hgd : gd ≠ g) (hgt : gt ≠ g) : ∀ (k n v f j : Nat) {h : GH}, k + n = 16 → k < f → j < T.length → ps.getD j (0, 0) = (n, v) → Dec h gd gt T → Rdr h g rb bs (p + n) 0 →
    ∃ h', Rdr h' g rb bs (nextG zs bs p k n v).2.2 (nextE (nextG zs bs p k n v).2.1) ∧ Keep h h' [g] ∧ ∀ (β : Type) (Kr : Int → Int → GH → Option β), F_sfano_Decoder_Next_l0 (F_bitio_Reader_Bit R) (F_bitio_Reader_Err R) R f (some ⟨gd, 0, none⟩) (some ⟨g, 0, none⟩) (j : Nat) h Kr = Kr (nextG zs bs p k n v).1 (nextG zs bs p k n v).2.1 h' := by
  intro k
  induction k with
  | zero =>
    intro n v f j h h1 h2 hj hp d r
    exfalso
    obtain ⟨s, s1, s2, s3⟩ := t.int j hj
    rw [hp] at s2
    simp only at s2
    have := hx _ (mem_getD s1)
    unfold lenP at this
    unfold lnN at s2
    omega
  | succ k ih =>
    intro n v f j h h1 h2 hj hp d r
    obtain ⟨f, rfl⟩ : ∃ q, f = q + 1 := ⟨f - 1, by omega⟩
    obtain ⟨hB, rB, kB, eB⟩ := bit_prog r hR
    have hle := r.le
    by_cases c : p + n + 1 ≤ 8 * bs.length
    · have hb2 := rdV_lt bs (p + n) 1
      rw [Nat.pow_one] at hb2
      rw [bitsP, if_pos ⟨rfl, c⟩, bitsE, if_pos rfl, if_pos c] at rB
      have dB := d.keep kB (by simpa using hgd) (by simpa using hgt)
      have hne := tree_full hx hw t hj hb2
      have step : ∀ (β : Type) (Kr : Int → Int → GH → Option β), F_sfano_Decoder_Next_l0 (F_bitio_Reader_Bit R) (F_bitio_Reader_Err R) R (f + 1) (some ⟨gd, 0, none⟩) (some ⟨g, 0, none⟩) (j : Nat) h Kr = (bif decide (en T j (rdV bs (p + n) 1) < 0) then Kr (IntKind.wrap .i64 (-1 - en T j (rdV bs (p + n) 1))) 0 hB else F_sfano_Decoder_Next_l0 (F_bitio_Reader_Bit R) (F_bitio_Reader_Err R) R f (some ⟨gd, 0, none⟩) (some ⟨g, 0, none⟩) (en T j (rdV bs (p + n) 1)) hB Kr) := fun β Kr => by
        rw [F_sfano_Decoder_Next_l0_succ, eB, err_eq rB, bne_self_eq_false, condF, bitsV, if_pos ⟨rfl, c⟩]
        simp only [exA_s, Nat.add_zero, Nat.zero_add, Nat.mul_one, dB.cellp, exS_s', Int.toNat_natCast, within_n hj, within_n hb2, dB.cell hj hb2, exI_s]
      rcases t.ent j _ hj hb2 with q | ⟨q1, q2, q3⟩ | ⟨s, s1, s2, s3, s4⟩
      · exact absurd q hne
      · rw [hp] at q3
        simp only at q3
        obtain ⟨s, u1, u2, u3⟩ := t.int _ q2
        rw [q3] at u2 u3
        simp only at u2 u3
        have hnone : findW zs (n + 1) (2 * v + rdV bs (p + n) 1) = none := by
          cases hf : findW zs (n + 1) (2 * v + rdV bs (p + n) 1) with
          | none => rfl
          | some t2 =>
            obtain ⟨t3, t4, t5⟩ := fdW_some hf
            have hne2 : t2 ≠ s := by rintro rfl; omega
            exact absurd (by rw [t4, u3, t5]) (no_prefix hx hw t3 u1 hne2 (by omega))
        obtain ⟨h', r', k', e'⟩ := ih (n + 1) (2 * v + rdV bs (p + n) 1) f (en T j (rdV bs (p + n) 1)).toNat (by omega) (by omega) q2 q3 dB (by rw [← Nat.add_assoc]; exact rB)
        have en' : nextG zs bs p (k + 1) n v = nextG zs bs p k (n + 1) (2 * v + rdV bs (p + n) 1) := by rw [nextG, if_pos c, hnone]
        refine ⟨h', by rw [en']; exact r', kB.trans k' (fun q hq => .inl hq), fun β Kr => ?_⟩
        rw [step, decF (by omega), condF, en']
        rw [Int.toNat_of_nonneg (by omega)] at e'
        exact e' β Kr
      · rw [hp] at s3 s4
        simp only at s3 s4
        have hsome := findW_word hx hw s1 s3 s4
        have en' : nextG zs bs p (k + 1) n v = (((s : Nat) : Int), 0, p + n + 1) := by rw [nextG, if_pos c, hsome]
        have hs256 : s < zs.length := s1
        have hsz : zs.length ≤ 4294967296 := by
          have : zs.length ≤ wgt zs := by
            have hz : ∀ l : List Int, (∀ x ∈ l, lenP x) → l.length ≤ wgt l := by
              intro l
              induction l with
              | nil => intro _; simp
              | cons a l ih =>
                intro hl
                have h1 := twN_le a (hl a (by simp))
                have h2 := ih (fun x hx => hl x (by simp [hx]))
                unfold wgt at h2 ⊢
                simp only [List.map_cons, List.sum_cons, List.length_cons]; omega
            exact hz zs hx
          omega
        refine ⟨hB, by rw [en', nextE]; simp only; rw [if_neg (by decide)]; exact rB, kB, fun β Kr => ?_⟩
        rw [step, s2, decT (by omega), condT, en', i64w (by omega), show -1 - (-1 - ((s : Nat) : Int)) = ((s : Nat) : Int) by omega]
    · rw [bitsP, if_neg (fun q => c q.2), bitsE, if_pos rfl, if_neg c] at rB
      have en' : nextG zs bs p (k + 1) n v = (-1, 3, p + n) := by rw [nextG, if_neg c]
      refine ⟨hB, by rw [en', nextE]; simp only; rw [if_pos trivial]; exact rB, kB, fun β Kr => ?_⟩
      rw [F_sfano_Decoder_Next_l0_succ, eB, err_eq rB, show ((3 : Int) != 0) = true from rfl, condT, en']
theorem next_prog {R : Nat} (hR : 4000000 < R) {T : List (Int × Int)} {ps : List (Nat × Nat)} (t : Tree zs T ps zs.length) {bs : List Int} {p : Nat} {gd gt g : Nat} {rb : Sl} (hgd : gd ≠ g) (hgt : gt ≠ g) {h : GH} (d : Dec h gd gt T) (r : Rdr h g rb bs p 0) :
    ∃ h', Rdr h' g rb bs (nextG zs bs p 16 0 0).2.2 (nextE (nextG zs bs p 16 0 0).2.1) ∧ Keep h h' [g] ∧ ∀ (β : Type) (K : Int → Int → GH → Option β), F_sfano_Decoder_Next R (some ⟨gd, 0, none⟩) (some ⟨g, 0, none⟩) h K = K (nextG zs bs p 16 0 0).1 (nextG zs bs p 16 0 0).2.1 h' := by
  obtain ⟨h', r', k', e'⟩ := next_prog_loop hx hw hR t hgd hgt 16 0 0 R 0 (by omega) (by omega) t.pos t.root d r
  refine ⟨h', r', k', fun β K => ?_⟩
  have hp := t.pos
  unfold F_sfano_Decoder_Next
  rw [F_sfano_Decoder_Next_gen, isNone_s, condF, exA_s, show h.cell ⟨gd, 0 + 0, none⟩ = some (.slice (some ⟨gt, 0, none⟩) T.length T.length) from d.cellp, exS_s', beq_int, decF (by show ¬ ((T.length : Nat) : Int) = 0; omega), condF]
  exact e' β _
/-! ### the document's -/
omit hx hw in
theorem next_l1 (R : Nat) {β : Type} (F1 : Option Addr → Int → GH → (Int → GH → Option β) → Option β) (s : Sl) (g : Option Addr) (y : Int) {n b : Nat} (hn : n ≤ 16) (hb : b < 2) (h : GH) (K2 : Sl → Option Addr → Int → Int → Int → GH → Option β) : ∀ (f k : Nat), k < n → n ≤ k + f + 1 → F_ref06_Next_l1 F1 R (f + 1) s g y ((n : Nat) : Int) ((b * 2 ^ k : Nat) : Int) ((k + 1 : Nat) : Int) h K2 = K2 s g y (n : Nat) ((b * 2 ^ (n - 1) : Nat) : Int) h
  | 0, k, h1, h2 => by
    rw [F_ref06_Next_l1_succ, decF (by omega), condF, show k = n - 1 by omega]
  | f + 1, k, h1, h2 => by
    rw [F_ref06_Next_l1_succ]
    by_cases c : k + 1 < n
    · have hp : 2 ^ (k + 1) ≤ 2 ^ 16 := Nat.pow_le_pow_right (by omega) (by omega)
      rw [show (2 : Nat) ^ 16 = 65536 by decide] at hp
      have hbp : b * 2 ^ (k + 1) ≤ 1 * 65536 := Nat.mul_le_mul (by omega) hp
      have e1 : ((b * 2 ^ k : Nat) : Int) * 2 = ((b * 2 ^ (k + 1) : Nat) : Int) := by rw [Nat.pow_succ, ← Nat.mul_assoc]; omega
      rw [decT (by omega), condT, e1, u32w (by omega), i64w (by omega), show ((k + 1 : Nat) : Int) + 1 = ((k + 1 + 1 : Nat) : Int) from rfl]
      exact next_l1 R F1 s g y hn hb h K2 f (k + 1) c (by omega)
    · rw [decF (by omega), condF, show k = n - 1 by omega]
theorem next_l2 (c0 : checkE zs = 0) (R : Nat) {s : Sl} {h : GH} (rs : Row h s 2 (codesV (wordsP zs))) {β : Type} (F1 : Option Addr → Int → GH → (Int → GH → Option β) → Option β) (g : Option Addr) {n v : Nat} (hv : v < 2 ^ n) (K4 : Sl → Option Addr → Int → Int → GH → Option β) (Kr : Int → Int → GH → Option β) : ∀ (f i q : Nat), i + q = zs.length → q < f →
    F_ref06_Next_l2 F1 R f s g ((revN n v 0 : Nat) : Int) ((n : Nat) : Int) ((i : Nat) : Int) h K4 Kr = (match fdW zs n v q i with | some t => Kr ((t : Nat) : Int) 0 h | none => K4 s g ((revN n v 0 : Nat) : Int) ((n : Nat) : Int) h)
  | 0, i, q, h1, h2 => by omega
  | f + 1, i, 0, h1, h2 => by
    have hwl := wordsP_length c0
    have sn : s.n = zs.length := by have := rs.len; rw [codesV_length, hwl] at this; omega
    rw [F_ref06_Next_l2_succ, sn, decF (by omega), condF]; rfl
  | f + 1, i, q + 1, h1, h2 => by
    have hwl := wordsP_length c0
    have hi : i < zs.length := by omega
    obtain ⟨hx', hw', hl1, hl2⟩ := checkE_0 c0
    obtain ⟨sn, gs, os, hsa, hcc⟩ := rs.code (by omega)
    have cc := hcc i (by omega)
    rw [wordsP_get c0 hi] at cc
    simp only at cc
    have hl := hx _ (mem_getD hi)
    unfold lenP at hl
    have el : zs.getD i 0 = ((lnN zs i : Nat) : Int) := by unfold lnN; omega
    have ih := next_l2 c0 R rs F1 g hv K4 Kr f (i + 1) q (by omega) (by omega)
    have ei : IntKind.wrap .i64 (((i : Nat) : Int) + 1) = ((i + 1 : Nat) : Int) := by rw [i64w (by omega)]; rfl
    rw [F_ref06_Next_l2_succ, sn, hwl, decT (by omega), condT, hsa]
    simp only [exA_s, within_n hi, Int.toNat_natCast, Nat.add_zero, cc.1, cc.2, exI_s, ei]
    unfold fdW
    rw [if_pos hi]
    by_cases c1 : lnN zs i = n
    · rw [beq_int, decT (by rw [el, c1]), condT]
      by_cases c2 : wdN zs i = v
      · rw [if_pos ⟨c1, c2⟩, beq_int, decT (by rw [c2]; show ((revN (lnN zs i) v 0 : Nat) : Int) = _; rw [c1]), condT]
      · rw [if_neg (fun q => c2 q.2), beq_int, decF (by
          intro q
          have q : revN (lnN zs i) (wdN zs i) 0 = revN n v 0 := Int.ofNat.inj q
          rw [c1] at q
          exact c2 (revN_inj (by have := (wd_eq hx hw hi).2; rw [← c1]; exact this) hv q)), condF]
        exact ih
    · rw [if_neg (fun q => c1 q.1), beq_int, decF (by rw [el]; omega), condF]
      exact ih
theorem next_ref_loop (c0 : checkE zs = 0) {R : Nat} (hR : 4000000 < R) {bs : List Int} {p : Nat} {g : Nat} {rb s : Sl} (hsg : g ∉ rowsOf s) : ∀ (k n v f : Nat) {h : GH}, k + n = 16 → k < f → v < 2 ^ n → rdV bs p n = revN n v 0 → Row h s 2 (codesV (wordsP zs)) → Rrd h g rb bs (p + n) 0 →
    ∃ h', Rrd h' g rb bs (nextG zs bs p k n v).2.2 (nextE (nextG zs bs p k n v).2.1) ∧ Keep h h' [g] ∧ ∀ (β : Type) (K0 : GH → Option β) (Kr : Int → Int → GH → Option β), (∀ h, K0 h = Kr (-1) 6 h) → F_ref06_Next_l0 (F_ref01_Reader_Bits R) R f s (some ⟨g, 0, none⟩) ((revN n v 0 : Nat) : Int) ((n + 1 : Nat) : Int) h K0 Kr = Kr (nextG zs bs p k n v).1 (nextG zs bs p k n v).2.1 h' := by
  intro k
  induction k with
  | zero =>
    intro n v f h h1 h2 hv hr rs r
    obtain ⟨f, rfl⟩ : ∃ q, f = q + 1 := ⟨f - 1, by omega⟩
    refine ⟨h, by rw [nextG, nextE]; simp only; rw [if_neg (by decide)]; exact r, .refl _ _, fun β K0 Kr hK => ?_⟩
    rw [F_ref06_Next_l0_succ, decF (by omega), condF, hK]; rfl
  | succ k ih =>
    intro n v f h h1 h2 hv hr rs r
    obtain ⟨f, rfl⟩ : ∃ q, f = q + 1 := ⟨f - 1, by omega⟩
    obtain ⟨R', hR'⟩ : ∃ q, R = q + 1 := ⟨R - 1, by omega⟩
    obtain ⟨hB, rB, kB, eB⟩ := bits_ref r (n := 1) (by omega) hR
    have eB' := fun β K => eB β K
    rw [show ((1 : Nat) : Int) = 1 from rfl] at eB'
    have cE : hB.cell ⟨g, 0 + 2, none⟩ = some (.int .i64 (bitsE bs (p + n) 1 0)) := by rw [cell_of rB.look]; rfl
    by_cases c : p + n + 1 ≤ 8 * bs.length
    · have hb2 := rdV_lt bs (p + n) 1
      rw [Nat.pow_one] at hb2
      rw [bitsE, if_pos rfl, if_pos c] at cE
      rw [bitsP, if_pos ⟨rfl, c⟩, bitsE, if_pos rfl, if_pos c] at rB
      have rsB := rs.keep kB (fun x hx hm => by simp at hm; subst hm; exact hsg hx)
      have hv' : 2 * v + rdV bs (p + n) 1 < 2 ^ (n + 1) := by rw [Nat.pow_succ]; omega
      have hpu := revN_push n v (rdV bs (p + n) 1) hb2
      have hr' : rdV bs p (n + 1) = revN (n + 1) (2 * v + rdV bs (p + n) 1) 0 := by rw [hpu, rdV_succ, hr]
      have hp16 : 2 ^ (n + 1) ≤ 2 ^ 16 := Nat.pow_le_pow_right (by omega) (by omega)
      rw [show (2 : Nat) ^ 16 = 65536 by decide] at hp16
      have hrl := revN_lt (n + 1) (2 * v + rdV bs (p + n) 1)
      have eadd : IntKind.wrap .u32 (((revN n v 0 : Nat) : Int) + ((rdV bs (p + n) 1 * 2 ^ (n + 1 - 1) : Nat) : Int)) = ((revN (n + 1) (2 * v + rdV bs (p + n) 1) 0 : Nat) : Int) := by
        rw [Nat.add_sub_cancel, show ((revN n v 0 : Nat) : Int) + ((rdV bs (p + n) 1 * 2 ^ n : Nat) : Int) = ((revN n v 0 + rdV bs (p + n) 1 * 2 ^ n : Nat) : Int) by omega, ← hpu, u32w (by omega)]
      have step : ∀ (β : Type) (K0 : GH → Option β) (Kr : Int → Int → GH → Option β), F_ref06_Next_l0 (F_ref01_Reader_Bits R) R (f + 1) s (some ⟨g, 0, none⟩) ((revN n v 0 : Nat) : Int) ((n + 1 : Nat) : Int) h K0 Kr = (match findW zs (n + 1) (2 * v + rdV bs (p + n) 1) with | some t => Kr ((t : Nat) : Int) 0 hB | none => F_ref06_Next_l0 (F_ref01_Reader_Bits R) R f s (some ⟨g, 0, none⟩) ((revN (n + 1) (2 * v + rdV bs (p + n) 1) 0 : Nat) : Int) ((n + 1 + 1 : Nat) : Int) hB K0 Kr) := fun β K0 Kr => by
        rw [F_ref06_Next_l0_succ, decT (by omega), condT, eB', exA_s, cE, exI_s, bne_self_eq_false, condF, bitsV, if_pos ⟨rfl, c⟩]
        have l1 := next_l1 R (F_ref01_Reader_Bits R) s (some ⟨g, 0, none⟩) ((revN n v 0 : Nat) : Int) (n := n + 1) (b := rdV bs (p + n) 1) (by omega) hb2 hB (fun w28 w29 w30 w31 w32 h33 => F_ref06_Next_l2 (F_ref01_Reader_Bits R) R R w28 w29 (IntKind.wrap .u32 (w30 + w32)) w31 0 h33 (fun w51 w52 w53 w54 h55 => F_ref06_Next_l0 (F_ref01_Reader_Bits R) R f w51 w52 w53 (IntKind.wrap .i64 (w54 + 1)) h55 K0 Kr) (fun w56 w57 h58 => Kr w56 w57 h58)) R' 0 (by omega) (by omega)
        rw [Nat.pow_zero, Nat.mul_one, show ((0 + 1 : Nat) : Int) = 1 from rfl, ← hR'] at l1
        refine Eq.trans l1 ?_
        have l2 := next_l2 hx hw c0 R rsB (F_ref01_Reader_Bits R) (some ⟨g, 0, none⟩) hv' (fun w51 w52 w53 w54 h55 => F_ref06_Next_l0 (F_ref01_Reader_Bits R) R f w51 w52 w53 (IntKind.wrap .i64 (w54 + 1)) h55 K0 Kr) (fun w56 w57 h58 => Kr w56 w57 h58) R 0 zs.length (by omega) (by have := (checkE_0 c0).2.2.2; omega)
        show F_ref06_Next_l2 _ R R s _ (IntKind.wrap .u32 _) _ 0 hB _ _ = _
        rw [eadd]
        refine Eq.trans l2 ?_
        show (match findW zs (n + 1) (2 * v + rdV bs (p + n) 1) with | some t => _ | none => _) = _
        cases findW zs (n + 1) (2 * v + rdV bs (p + n) 1) with
        | some t => rfl
        | none =>
          show F_ref06_Next_l0 _ R f s _ _ (IntKind.wrap .i64 (((n + 1 : Nat) : Int) + 1)) hB K0 Kr = _
          rw [i64w (by omega)]; rfl
      cases hf : findW zs (n + 1) (2 * v + rdV bs (p + n) 1) with
      | some t =>
        have en' : nextG zs bs p (k + 1) n v = (((t : Nat) : Int), 0, p + n + 1) := by rw [nextG, if_pos c, hf]
        refine ⟨hB, by rw [en', nextE]; simp only; rw [if_neg (by decide)]; exact rB, kB, fun β K0 Kr hK => ?_⟩
        rw [step, hf, en']
      | none =>
        have en' : nextG zs bs p (k + 1) n v = nextG zs bs p k (n + 1) (2 * v + rdV bs (p + n) 1) := by rw [nextG, if_pos c, hf]
        obtain ⟨h', r', k', e'⟩ := ih (n + 1) (2 * v + rdV bs (p + n) 1) f (by omega) (by omega) hv' hr' rsB (by rw [← Nat.add_assoc]; exact rB)
        refine ⟨h', by rw [en']; exact r', kB.trans k' (fun q hq => .inl hq), fun β K0 Kr hK => ?_⟩
        rw [step, hf, en']
        exact e' β K0 Kr hK
    · rw [bitsE, if_pos rfl, if_neg c] at cE
      rw [bitsP, if_neg (fun q => c q.2), bitsE, if_pos rfl, if_neg c] at rB
      have en' : nextG zs bs p (k + 1) n v = (-1, 3, p + n) := by rw [nextG, if_neg c]
      refine ⟨hB, by rw [en', nextE]; simp only; rw [if_pos trivial]; exact rB, kB, fun β K0 Kr hK => ?_⟩
      rw [F_ref06_Next_l0_succ, decT (by omega), condT, eB', exA_s, cE, exI_s, show ((3 : Int) != 0) = true from rfl, condT, exA_s, cE, exI_s, en']
theorem next_ref (c0 : checkE zs = 0) {R : Nat} (hR : 4000000 < R) {bs : List Int} {p : Nat} {g : Nat} {rb s : Sl} (hsg : g ∉ rowsOf s) {h : GH} (rs : Row h s 2 (codesV (wordsP zs))) (r : Rrd h g rb bs p 0) :
    ∃ h', Rrd h' g rb bs (nextG zs bs p 16 0 0).2.2 (nextE (nextG zs bs p 16 0 0).2.1) ∧ Keep h h' [g] ∧ ∀ (β : Type) (K : Int → Int → GH → Option β), F_ref06_Next R s (some ⟨g, 0, none⟩) h K = K (nextG zs bs p 16 0 0).1 (nextG zs bs p 16 0 0).2.1 h' := by
  obtain ⟨h', r', k', e'⟩ := next_ref_loop hx hw c0 hR hsg 16 0 0 R (h := h) (by omega) (by omega) (by omega) (by unfold rdV; rw [Nat.pow_zero, Nat.mod_one]; rfl) rs r
  refine ⟨h', r', k', fun β K => ?_⟩
  unfold F_ref06_Next
  rw [F_ref06_Next_gen]
  exact e' β _ _ (fun _ => rfl)
end
end Go.Proofs.Ytephmpbccajaaaa.Gx

