/- The end of an archive is found by the program: Find, FindEnd. No condition. -/
import Derived.Test.YtibngikhlgmhaaaDnC
namespace Go.Proofs.Ytibngikhlgmhaaa.Gx
open Go
set_option linter.unusedVariables false
set_option linter.unusedSimpArgs false
/-- the last place below k at which four bytes stand -/
def findS (bs : List Int) (sg : Int) : Nat → Int
  | 0 => -1
  | k + 1 => if fld bs k 4 = sg then (k : Nat) else findS bs sg k
theorem findS_ge (bs : List Int) (sg : Int) : ∀ k, -1 ≤ findS bs sg k ∧ findS bs sg k < (k : Nat)
  | 0 => by simp [findS]
  | k + 1 => by
    have := findS_ge bs sg k
    unfold findS; split <;> omega
theorem findS_is (bs : List Int) (sg : Int) : ∀ k, 0 ≤ findS bs sg k → fld bs (findS bs sg k).toNat 4 = sg
  | 0, h => by simp [findS] at h
  | k + 1, h => by
    unfold findS at h ⊢
    split
    · rename_i c; rw [Int.toNat_natCast]; exact c
    · rename_i c; rw [if_neg c] at h; exact findS_is bs sg k h
theorem lastEnd_findS (bs : List Int) : ∀ k, lastEnd bs k = if 0 ≤ findS bs 101010256 k then lastEnd bs ((findS bs 101010256 k).toNat + 1) else -1
  | 0 => by simp [findS, lastEnd]
  | k + 1 => by
    rw [findS]
    by_cases c : fld bs k 4 = 101010256
    · rw [if_pos c, if_pos (by omega), Int.toNat_natCast]
    · rw [if_neg c, ← lastEnd_findS bs k, lastEnd, if_neg (fun q => c q.2.1)]
theorem take4 {bs : List Int} {k : Nat} (h : k + 4 ≤ bs.length) : (bs.drop k).take 4 = [bs.getD k 0, bs.getD (k + 1) 0, bs.getD (k + 2) 0, bs.getD (k + 3) 0] := by
  have hg : ∀ i, k + i < bs.length → bs.drop (k + i) = bs.getD (k + i) 0 :: bs.drop (k + i + 1) := fun i hi => by
    rw [List.drop_eq_getElem_cons hi, List.getD_eq_getElem?_getD, List.getElem?_eq_getElem hi, Option.getD_some]
  have h0 := hg 0 (by omega)
  rw [Nat.add_zero] at h0
  rw [h0, hg 1 (by omega), hg 2 (by omega), hg 3 (by omega)]
  simp
theorem take2' {bs : List Int} {k : Nat} (h : k + 2 ≤ bs.length) : (bs.drop k).take 2 = [bs.getD k 0, bs.getD (k + 1) 0] := by
  have hg : ∀ i, k + i < bs.length → bs.drop (k + i) = bs.getD (k + i) 0 :: bs.drop (k + i + 1) := fun i hi => by
    rw [List.drop_eq_getElem_cons hi, List.getD_eq_getElem?_getD, List.getElem?_eq_getElem hi, Option.getD_some]
  have h0 := hg 0 (by omega)
  rw [Nat.add_zero] at h0
  rw [h0, hg 1 (by omega)]
  simp
theorem getD_b8 {bs : List Int} (h8 : B8 bs) (k : Nat) : 0 ≤ bs.getD k 0 ∧ bs.getD k 0 ≤ 255 := by
  rw [List.getD_eq_getElem?_getD]
  cases hk : bs[k]? with
  | none => simp
  | some v => exact h8 v (List.mem_of_getElem? hk)
theorem or4 {a b c d : Int} (ha : 0 ≤ a ∧ a ≤ 255) (hb : 0 ≤ b ∧ b ≤ 255) (hc : 0 ≤ c ∧ c ≤ 255) (hd : 0 ≤ d ∧ d ≤ 255) :
    IntKind.wrap .u32 (BitVec.ofInt (IntKind.bits .u32) (IntKind.wrap .u32 (BitVec.ofInt (IntKind.bits .u32) (IntKind.wrap .u32 (BitVec.ofInt (IntKind.bits .u32) (IntKind.wrap .u32 a) ||| BitVec.ofInt (IntKind.bits .u32) (shlI .u32 (IntKind.wrap .u32 b) 8)).toNat) ||| BitVec.ofInt (IntKind.bits .u32) (shlI .u32 (IntKind.wrap .u32 c) 16)).toNat) ||| BitVec.ofInt (IntKind.bits .u32) (shlI .u32 (IntKind.wrap .u32 d) 24)).toNat = le [a, b, c, d] := by
  have e1 := or_byte (acc := a) (b := b) (n := 1) (by omega) (by rw [Int.pow_succ]; simp; omega) hb
  have e2 := or_byte (acc := a + 256 ^ 1 * b) (b := c) (n := 2) (by omega) (by rw [show (256 : Int) ^ 2 = 65536 by decide, show (256 : Int) ^ 1 = 256 by decide]; omega) hc
  have e3 := or_byte (acc := a + 256 ^ 1 * b + 256 ^ 2 * c) (b := d) (n := 3) (by omega) (by rw [show (256 : Int) ^ 3 = 16777216 by decide, show (256 : Int) ^ 2 = 65536 by decide, show (256 : Int) ^ 1 = 256 by decide]; omega) hd
  rw [show IntKind.wrap .i64 (8 * ((1 : Nat) : Int)) = 8 by decide] at e1
  rw [show IntKind.wrap .i64 (8 * ((2 : Nat) : Int)) = 16 by decide] at e2
  rw [show IntKind.wrap .i64 (8 * ((3 : Nat) : Int)) = 24 by decide] at e3
  rw [u32w (x := a) (by omega), e1, e2, e3, show (256 : Int) ^ 3 = 16777216 by decide, show (256 : Int) ^ 2 = 65536 by decide, show (256 : Int) ^ 1 = 256 by decide]
  simp only [le]
  omega
theorem or2 {a b : Int} (ha : 0 ≤ a ∧ a ≤ 255) (hb : 0 ≤ b ∧ b ≤ 255) :
    IntKind.wrap .i64 (BitVec.ofInt (IntKind.bits .i64) (IntKind.wrap .i64 a) ||| BitVec.ofInt (IntKind.bits .i64) (shlI .i64 (IntKind.wrap .i64 b) 8)).toNat = le [a, b] := by
  obtain ⟨x, rfl⟩ : ∃ x : Nat, a = x := ⟨a.toNat, by omega⟩
  obtain ⟨y, rfl⟩ : ∃ y : Nat, b = y := ⟨b.toNat, by omega⟩
  have hbits : IntKind.bits .i64 = 64 := rfl
  have hs : shlI .i64 (y : Int) 8 = ((y * 256 : Nat) : Int) := by
    have hm : min (8 : Int).toNat (IntKind.bits .i64) = 8 := by rw [hbits]; rfl
    rw [shlI, hm, show ((y : Int) * 2 ^ 8) = ((y * 256 : Nat) : Int) by omega, i64w (by omega)]
  have e1 : BitVec.ofInt 64 (x : Int) = BitVec.ofNat 64 x := BitVec.ofInt_natCast 64 x
  have e2 : BitVec.ofInt 64 ((y * 256 : Nat) : Int) = BitVec.ofNat 64 (y * 256) := BitVec.ofInt_natCast 64 _
  have e3 : (BitVec.ofNat 64 x ||| BitVec.ofNat 64 (y * 256)).toNat = x + y * 256 := by
    rw [BitVec.toNat_or, BitVec.toNat_ofNat, BitVec.toNat_ofNat, Nat.mod_eq_of_lt (by omega), Nat.mod_eq_of_lt (by omega), Nat.or_comm]
    have := Nat.shiftLeft_add_eq_or_of_lt (show x < 2 ^ 8 by omega) y
    rw [Nat.shiftLeft_eq, show (2 : Nat) ^ 8 = 256 by decide] at this
    omega
  rw [hbits, i64w (x := (x : Int)) (by omega), i64w (x := (y : Int)) (by omega), hs, e1, e2, e3, i64w (by omega)]
  simp only [le]
  omega
section
variable {h : GH} {a : Sl} {bs : List Int} (r : Rd h a bs) (h8 : B8 bs) (hm : bs.length ≤ 2000000)
include r h8 hm
theorem find_loopF (sg : Int) (R : Nat) {β : Type} (K0 : GH → Option β) (Kr : Int → GH → Option β) : ∀ (k n : Nat), (k = 0 ∨ k + 3 ≤ bs.length) → k < n → F_field_Find_l0 R n a sg (((k : Nat) : Int) - 1) h K0 Kr = if 0 ≤ findS bs sg k then Kr (findS bs sg k) h else K0 h
  | 0, n, hk, hn => by
    obtain ⟨n, rfl⟩ : ∃ n', n = n' + 1 := ⟨n - 1, by omega⟩
    rw [F_field_Find_l0_succ, decF (by omega), condF, if_neg (by simp [findS])]
  | k + 1, n, hk, hn => by
    obtain ⟨n, rfl⟩ : ∃ n', n = n' + 1 := ⟨n - 1, by omega⟩
    have hn1 := r.n
    have hc1 := r.cap
    have hx : ((k + 1 : Nat) : Int) - 1 = ((k : Nat) : Int) := by omega
    have w1 : IntKind.wrap .i64 (((k : Nat) : Int) + 4) = ((k + 4 : Nat) : Int) := by rw [i64w (by omega)]; omega
    have rc := r.cut (lo := k) (hi := k + 4) (mx := a.c) (by omega) (by omega) (by omega) (Nat.le_refl _)
    have hl : ((bs.drop k).take (k + 4 - k)).length = 4 := by simp; omega
    have ht := take4 (bs := bs) (k := k) (by omega)
    rw [show k + 4 - k = 4 by omega] at rc hl
    have q0 : ∀ (K : Int → Option β), (exA (addO a.a (k * 1)) fun g o => within 0 4 (exI .u8 (h.cell ⟨g, o + (0 : Int).toNat * 1, none⟩) K)) = K (bs.getD k 0) := fun K => (rc.byte (β := β) (i := 0) (by omega) (by omega) K).trans (by rw [ht]; rfl)
    have q1 : ∀ (K : Int → Option β), (exA (addO a.a (k * 1)) fun g o => within 1 4 (exI .u8 (h.cell ⟨g, o + (1 : Int).toNat * 1, none⟩) K)) = K (bs.getD (k + 1) 0) := fun K => (rc.byte (β := β) (i := 1) (by omega) (by omega) K).trans (by rw [ht]; rfl)
    have q2 : ∀ (K : Int → Option β), (exA (addO a.a (k * 1)) fun g o => within 2 4 (exI .u8 (h.cell ⟨g, o + (2 : Int).toNat * 1, none⟩) K)) = K (bs.getD (k + 2) 0) := fun K => (rc.byte (β := β) (i := 2) (by omega) (by omega) K).trans (by rw [ht]; rfl)
    have q3 : ∀ (K : Int → Option β), (exA (addO a.a (k * 1)) fun g o => within 3 4 (exI .u8 (h.cell ⟨g, o + (3 : Int).toNat * 1, none⟩) K)) = K (bs.getD (k + 3) 0) := fun K => (rc.byte (β := β) (i := 3) (by omega) (by omega) K).trans (by rw [ht]; rfl)
    rw [F_field_Find_l0_succ, hx, decT (by omega), condT, w1, bnd_t (by omega) (by omega), bnd_t (by omega) (by omega), Int.toNat_natCast, Int.toNat_natCast, show k + 4 - k = 4 by omega]
    refine (q0 _).trans ?_
    refine (q1 _).trans ?_
    refine (q2 _).trans ?_
    refine (q3 _).trans ?_
    rw [or4 (getD_b8 h8 k) (getD_b8 h8 (k + 1)) (getD_b8 h8 (k + 2)) (getD_b8 h8 (k + 3)), ← ht, beq_int, show le ((bs.drop k).take 4) = fld bs k 4 from rfl, findS]
    by_cases c : fld bs k 4 = sg
    · rw [if_pos c, if_pos (by omega), decT c, condT]
    · rw [if_neg c, decF c, condF, i64w (by omega)]
      exact find_loopF sg R K0 Kr k n (by omega) (by omega)
theorem find_field (sg : Int) {f : Int} (hf : -2000000 ≤ f ∧ f + 4 ≤ bs.length) {R : Nat} (hR : 4000000 < R) {β : Type} (K : Int → GH → Option β) : F_field_Find R a sg f h K = K (findS bs sg (f + 1).toNat) h := by
  have hn1 := r.n
  unfold F_field_Find
  rw [F_field_Find_gen, hn1, i64w (x := ((bs.length : Nat) : Int) - 4) (by omega), show (if ((bs.length : Nat) : Int) - 4 < f then ((bs.length : Nat) : Int) - 4 else f) = f by split <;> omega]
  by_cases c : f < 0
  · have hz : (f + 1).toNat = 0 := by omega
    obtain ⟨n, hn⟩ : ∃ n', R = n' + 1 := ⟨R - 1, by omega⟩
    rw [hz, findS]
    have : F_field_Find_l0 R R a sg f h (fun h22 => K (-1) h22) (fun w23 h24 => K w23 h24) = F_field_Find_l0 R (n + 1) a sg f h (fun h22 => K (-1) h22) (fun w23 h24 => K w23 h24) := by rw [← hn]
    rw [this, F_field_Find_l0_succ, decF (by omega), condF]
  · have := find_loopF r h8 hm sg R (fun h22 => K (-1) h22) (fun w23 h24 => K w23 h24) (f + 1).toNat R (by omega) (by omega)
    rw [show (((f + 1).toNat : Nat) : Int) - 1 = f by omega] at this
    rw [this]
    have hg := findS_ge bs sg (f + 1).toNat
    split
    · rfl
    · rw [show findS bs sg (f + 1).toNat = -1 by omega]
theorem findend_loop {R : Nat} (hR : 4000000 < R) {β : Type} (Kr : Int → GH → Option β) : ∀ (n k : Nat) (f : Int), f + 22 ≤ bs.length → -100 ≤ f → (f + 1).toNat = k → k < n → F_record_FindEnd_l0 (F_field_Find R) R n a f h Kr = Kr (lastEnd bs k) h
  | 0, k, f, h1, h2, h3, h4 => by omega
  | n + 1, k, f, h1, h2, h3, h4 => by
    have hn1 := r.n
    have hg := findS_ge bs 101010256 k
    rw [F_record_FindEnd_l0_succ, find_field r h8 hm 101010256 (by omega) hR, h3, lastEnd_findS]
    by_cases c : 0 ≤ findS bs 101010256 k
    · have his := findS_is bs 101010256 k c
      rw [if_pos c, decF (by omega), condF]
      generalize hJ : findS bs 101010256 k = J at *
      obtain ⟨j, rfl⟩ : ∃ j : Nat, J = j := ⟨J.toNat, by omega⟩
      rw [Int.toNat_natCast] at his ⊢
      have w0 : IntKind.wrap .i64 (((j : Nat) : Int) + 22) = ((j : Nat) : Int) + 22 := i64w (by omega)
      have w1 : IntKind.wrap .i64 (((j : Nat) : Int) + 22 - 2) = ((j + 20 : Nat) : Int) := by rw [i64w (by omega)]; omega
      have w2 : IntKind.wrap .i64 (((j : Nat) : Int) + 22 - 1) = ((j + 20 + 1 : Nat) : Int) := by rw [i64w (by omega)]; omega
      have w3 : IntKind.wrap .i64 (((bs.length : Nat) : Int) - ((j : Nat) : Int)) = ((bs.length : Nat) : Int) - ((j : Nat) : Int) := i64w (by omega)
      have w4 : IntKind.wrap .i64 (((bs.length : Nat) : Int) - ((j : Nat) : Int) - 22) = ((bs.length - j - 22 : Nat) : Int) := by rw [i64w (by omega)]; omega
      have q1 := fun K => r.byte (β := β) (i := ((j + 20 : Nat) : Int)) (by omega) (by omega) K
      have q2 := fun K => r.byte (β := β) (i := ((j + 20 + 1 : Nat) : Int)) (by omega) (by omega) K
      rw [w0, w1, w2, hn1, w3, w4]
      rw [hn1] at q1 q2
      refine (q1 _).trans ?_
      refine (q2 _).trans ?_
      rw [Int.toNat_natCast, Int.toNat_natCast, or2 (getD_b8 h8 _) (getD_b8 h8 _), ← take2' (by omega)]
      have hsz : ((szN bs (j + 20) : Nat) : Int) = le ((bs.drop (j + 20)).take 2) := by
        have := (fld_bd h8 (j + 20)).1
        unfold szN fld at *
        omega
      rw [← hsz, beq_int, lastEnd]
      by_cases c2 : szN bs (j + 20) = bs.length - j - 22
      · rw [decT (by omega), condT, if_pos ⟨by omega, his, by omega⟩]
      · rw [decF (by omega), condF, if_neg (fun q => c2 (by have := q.2.2; omega)), i64w (by omega)]
        exact findend_loop hR Kr n j (((j : Nat) : Int) - 1) (by omega) (by omega) (by omega) (by omega)
    · rw [if_neg c, decT (by omega), condT]
theorem find_end {R : Nat} (hR : 4000000 < R) {β : Type} (K : Int → GH → Option β) : F_record_FindEnd R a h K = K (findE bs) h := by
  have hn1 := r.n
  unfold F_record_FindEnd
  rw [F_record_FindEnd_gen, hn1, i64w (by omega)]
  exact findend_loop r h8 hm hR (fun w13 h14 => K w13 h14) R (bs.length - 21) _ (by omega) (by omega) (by omega) (by omega)
end
end Go.Proofs.Ytibngikhlgmhaaa.Gx

