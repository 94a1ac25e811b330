/- The document's numbers at a place, its FindEnd. No condition. -/
import Derived.Test.YtibngikhlgmhaaaDnG
namespace Go.Proofs.Ytibngikhlgmhaaa.Gx
open Go
set_option linter.unusedVariables false
set_option linter.unusedSimpArgs false
theorem num_cut {h : GH} {q : Sl} {vs : List Int} (r : Rd h q vs) (h8 : B8 vs) {i j : Int} {n : Nat} (hn : n ≤ 4) (hi : 0 ≤ i) (hj : j = i + n) (hl : j ≤ vs.length) {R : Nat} (hR : 8 < R) {β : Type} (K : Int → GH → Option β) :
    (bnd j q.c fun m3 => bnd i m3 fun m4 => F_ref02_Num R ⟨addO q.a (m4 * 1), m3 - m4, q.c - m4⟩ h K) = K (fld vs i.toNat n) h := by
  have hqn := r.n
  have hqc := r.cap
  subst hj
  have rc := r.cut (lo := i.toNat) (hi := i.toNat + n) (mx := q.c) (by omega) (by omega) (by omega) (Nat.le_refl _)
  rw [show i.toNat + n - i.toNat = n by omega] at rc
  rw [bnd_t (by omega) (by omega), bnd_t (by omega) (by omega), show (i + n).toNat - i.toNat = n by omega]
  have := num_rd (R := R) rc (b8_cut h8 _ _) (by simp; omega) hR β K
  exact this
theorem at_cut {h : GH} {q : Sl} {vs : List Int} (r : Rd h q vs) (h8 : B8 vs) (hm : vs.length ≤ 2000000) {i : Int} (hi : 0 ≤ i) (hl : i + 2 ≤ vs.length) {R : Nat} (hR : 8 < R) {β : Type} (K : Int → GH → Option β) : F_ref24_at R q i h K = K (fld vs i.toNat 2) h := by
  have hb := (fld_bd h8 i.toNat).1
  unfold F_ref24_at
  rw [F_ref24_at_gen, i64w (x := i + 2) (by omega)]
  refine (num_cut r h8 (n := 2) (by omega) hi rfl hl hR _).trans ?_
  rw [i64w (by omega)]
theorem num_cutN {h : GH} (i : Nat) {q : Sl} {vs : List Int} (r : Rd h q vs) (h8 : B8 vs) (hl : i + 4 ≤ vs.length) {R : Nat} (hR : 8 < R) {β : Type} (K : Int → GH → Option β) : (bnd (((i : Nat) : Int) + 4) q.c fun m3 => bnd ((i : Nat) : Int) m3 fun m4 => F_ref02_Num R ⟨addO q.a (m4 * 1), m3 - m4, q.c - m4⟩ h K) = K (fld vs i 4) h := num_cut r h8 (n := 4) (by omega) (by omega) rfl (by omega) hR K
theorem at_cutN {h : GH} (i : Nat) {q : Sl} {vs : List Int} (r : Rd h q vs) (h8 : B8 vs) (hm : vs.length ≤ 2000000) (hl : i + 2 ≤ vs.length) {R : Nat} (hR : 8 < R) {β : Type} (K : Int → GH → Option β) : F_ref24_at R q ((i : Nat) : Int) h K = K (fld vs i 2) h := at_cut r h8 hm (by omega) (by omega) hR K
theorem rfindend_loop {h : GH} {a : Sl} {bs : List Int} (r : Rd h a bs) (h8 : B8 bs) (hm : bs.length ≤ 2000000) {R : Nat} (hR : 4000000 < R) {β : Type} (K0 : Int → GH → Option β) : ∀ (d i n : Nat), i + d = bs.length - 21 → d < n → F_ref24_FindEnd_l0 (F_ref02_Num R) (F_ref24_at R) R n a (lastEnd bs i) (i : Nat) h K0 = K0 (findE bs) h
  | 0, i, n, hi, hn => by
    obtain ⟨n, rfl⟩ : ∃ n', n = n' + 1 := ⟨n - 1, by omega⟩
    have hn1 := r.n
    rw [F_ref24_FindEnd_l0_succ, i64w (by omega), decF (by omega), condF]
    unfold findE
    rw [show i = bs.length - 21 by omega]
  | d + 1, i, n, hi, hn => by
    obtain ⟨n, rfl⟩ : ∃ n', n = n' + 1 := ⟨n - 1, by omega⟩
    have hn1 := r.n
    have w22 : IntKind.wrap .i64 (((i : Nat) : Int) + 22) = ((i : Nat) : Int) + 22 := i64w (by omega)
    have w4 : IntKind.wrap .i64 (((i : Nat) : Int) + 4) = ((i : Nat) : Int) + 4 := i64w (by omega)
    have w20 : IntKind.wrap .i64 (((i : Nat) : Int) + 20) = ((i + 20 : Nat) : Int) := by rw [i64w (by omega)]; omega
    have w1 : IntKind.wrap .i64 (((i : Nat) : Int) + 1) = ((i + 1 : Nat) : Int) := by rw [i64w (by omega)]; omega
    have hb := (fld_bd h8 (i + 20)).1
    have hsz : ((szN bs (i + 20) : Nat) : Int) = fld bs (i + 20) 2 := by unfold szN; omega
    have ih := rfindend_loop r h8 hm hR K0 d (i + 1) n (by omega) (by omega)
    rw [lastEnd] at ih
    rw [F_ref24_FindEnd_l0_succ, w22, decT (by omega), condT, w4, w20, w1]
    refine (num_cutN i r h8 (by omega) (by omega) _).trans ?_
    rw [beq_int]
    by_cases c : fld bs i 4 = 101010256
    · rw [decT c, condT]
      refine (at_cutN (i + 20) r h8 hm (by omega) (by omega) _).trans ?_
      rw [i64w (by omega), hn1, beq_int]
      by_cases c2 : i + 22 + szN bs (i + 20) = bs.length
      · rw [if_pos ⟨by omega, c, c2⟩] at ih
        rw [decT (by omega), condT]
        exact ih
      · rw [if_neg (fun q => c2 q.2.2)] at ih
        rw [decF (by omega), condF]
        exact ih
    · rw [if_neg (fun q => c q.2.1)] at ih
      rw [decF c, condF]
      exact ih
theorem rfind_end {h : GH} {a : Sl} {bs : List Int} (r : Rd h a bs) (h8 : B8 bs) (hm : bs.length ≤ 2000000) {R : Nat} (hR : 4000000 < R) {β : Type} (K : Int → GH → Option β) : F_ref24_FindEnd R a h K = K (findE bs) h := by
  unfold F_ref24_FindEnd
  rw [F_ref24_FindEnd_gen]
  have := rfindend_loop r h8 hm hR (fun w12 h13 => K w12 h13) (bs.length - 21) 0 R (by omega) (by omega)
  rw [show lastEnd bs 0 = -1 from rfl, show ((0 : Nat) : Int) = 0 from rfl] at this
  exact this
end Go.Proofs.Ytibngikhlgmhaaa.Gx

