/- Bits in the other order: bitio.Turn and the document's Turn. No condition. -/
import Derived.Test.YtephmpbccajaaaaPckC
import Derived.Test.YtephmpbccajaaaaSrtH
import Derived.Test.YtephmpbccajaaaaGx1
namespace Go.Proofs.Ytephmpbccajaaaa.Gx
open Go Go.RowKit
set_option linter.unusedVariables false
set_option linter.unusedSimpArgs false
/-- n bits of x, the lowest first, put behind y -/
def revN : Nat → Nat → Nat → Nat
  | 0, x, y => y
  | n + 1, x, y => revN n (x / 2) (y * 2 + x % 2)
theorem revN_bit : ∀ (n x y i : Nat), (revN n x y).testBit i = if i < n then x.testBit (n - 1 - i) else y.testBit (i - n)
  | 0, x, y, i => by rw [if_neg (by omega)]; rfl
  | n + 1, x, y, i => by
    rw [revN, revN_bit n]
    by_cases c : i < n
    · rw [if_pos c, if_pos (by omega), ← Nat.testBit_succ]; congr 1; omega
    · rw [if_neg c]
      by_cases c2 : i = n
      · subst c2
        rw [if_pos (by omega), Nat.sub_self, show i + 1 - 1 - i = 0 by omega, Nat.testBit_zero, Nat.testBit_zero]
        congr 1; rw [eq_iff_iff]; omega
      · rw [if_neg (by omega), show i - n = (i - (n + 1)) + 1 by omega, Nat.testBit_succ]; congr 1; omega
theorem revN_lt (n x : Nat) : revN n x 0 < 2 ^ n := by
  apply Nat.lt_pow_two_of_testBit
  intro i hi
  rw [revN_bit, if_neg (by omega), Nat.zero_testBit]
theorem revN_shift (n a w : Nat) : revN (a + n) (w * 2 ^ a) 0 = revN n w 0 := by
  apply Nat.eq_of_testBit_eq
  intro i
  rw [revN_bit, revN_bit, Nat.zero_testBit, Nat.zero_testBit]
  by_cases c : i < n
  · rw [if_pos c, if_pos (by omega), Nat.testBit_mul_two_pow, decide_eq_true (by omega), Bool.true_and]; congr 1; omega
  · rw [if_neg c]
    split
    · rw [Nat.testBit_mul_two_pow, decide_eq_false (by omega), Bool.false_and]
    · rfl
theorem revN_inj {n x y : Nat} (hx : x < 2 ^ n) (hy : y < 2 ^ n) (h : revN n x 0 = revN n y 0) : x = y := by
  apply Nat.eq_of_testBit_eq
  intro i
  by_cases c : i < n
  · have := congrArg (fun z => z.testBit (n - 1 - i)) h
    simp only [revN_bit] at this
    rw [if_pos (by omega), if_pos (by omega), show n - 1 - (n - 1 - i) = i by omega] at this
    exact this
  · rw [Nat.testBit_lt_two_pow (Nat.lt_of_lt_of_le hx (Nat.pow_le_pow_right (by omega) (by omega))), Nat.testBit_lt_two_pow (Nat.lt_of_lt_of_le hy (Nat.pow_le_pow_right (by omega) (by omega)))]
theorem revN_revN {n x : Nat} (hx : x < 2 ^ n) : revN n (revN n x 0) 0 = x := by
  apply Nat.eq_of_testBit_eq
  intro i
  rw [revN_bit, Nat.zero_testBit]
  by_cases c : i < n
  · rw [if_pos c, revN_bit, if_pos (by omega)]; congr 1; omega
  · rw [if_neg c, Nat.testBit_lt_two_pow (Nat.lt_of_lt_of_le hx (Nat.pow_le_pow_right (by omega) (by omega)))]
theorem revN_mod {n m x : Nat} (h : m ≤ n) : revN n x 0 % 2 ^ m = revN m (x / 2 ^ (n - m)) 0 := by
  apply Nat.eq_of_testBit_eq
  intro i
  rw [Nat.testBit_mod_two_pow, revN_bit, revN_bit, Nat.zero_testBit, Nat.zero_testBit]
  by_cases c : i < m
  · rw [decide_eq_true c, Bool.true_and, if_pos (by omega), if_pos c, Nat.testBit_div_two_pow]; congr 1; omega
  · rw [decide_eq_false c, Bool.false_and, if_neg c]
/-! ### numbers of 32 bits -/
theorem u32w {x : Nat} (h : x < 4294967296) : IntKind.wrap .u32 ((x : Nat) : Int) = (x : Nat) := IntWalk.u32_in _ (by omega)
theorem u64w {x : Nat} (h : x < 18446744073709551616) : IntKind.wrap .u64 ((x : Nat) : Int) = (x : Nat) := IntWalk.u64_in _ (by omega)
theorem and32 {a b : Nat} (ha : a < 4294967296) (hb : b < 4294967296) : IntKind.wrap .u32 ((BitVec.ofInt (IntKind.bits .u32) ((a : Nat) : Int) &&& BitVec.ofInt (IntKind.bits .u32) ((b : Nat) : Int)).toNat : Int) = ((a &&& b : Nat) : Int) := by
  have e : IntKind.bits .u32 = 32 := rfl
  have hab : a &&& b < 4294967296 := Nat.and_lt_two_pow (n := 32) a hb
  rw [e, BitVec.ofInt_natCast, BitVec.ofInt_natCast, BitVec.toNat_and, BitVec.toNat_ofNat, BitVec.toNat_ofNat, Nat.mod_eq_of_lt ha, Nat.mod_eq_of_lt hb, u32w hab]
theorem or32 {a b : Nat} (ha : a < 4294967296) (hb : b < 4294967296) : IntKind.wrap .u32 ((BitVec.ofInt (IntKind.bits .u32) ((a : Nat) : Int) ||| BitVec.ofInt (IntKind.bits .u32) ((b : Nat) : Int)).toNat : Int) = ((a ||| b : Nat) : Int) := by
  have e : IntKind.bits .u32 = 32 := rfl
  have hab : a ||| b < 4294967296 := Nat.or_lt_two_pow (n := 32) ha hb
  rw [e, BitVec.ofInt_natCast, BitVec.ofInt_natCast, BitVec.toNat_or, BitVec.toNat_ofNat, BitVec.toNat_ofNat, Nat.mod_eq_of_lt ha, Nat.mod_eq_of_lt hb, u32w hab]
theorem shr_nat (k : IntKind) (a n : Nat) (hn : n ≤ k.bits) : shrI k ((a : Nat) : Int) ((n : Nat) : Int) = ((a >>> n : Nat) : Int) := by
  rw [shrI, Int.toNat_natCast, Nat.min_eq_left hn, Nat.shiftRight_eq_div_pow, Int.fdiv_eq_ediv_of_nonneg _ (by exact Int.pow_nonneg (by omega)), Int.natCast_ediv, Int.natCast_pow]; rfl
theorem shl32 (a n : Nat) (hn : n ≤ 32) : shlI .u32 ((a : Nat) : Int) ((n : Nat) : Int) = (((a <<< n) % 4294967296 : Nat) : Int) := by
  have e : IntKind.bits .u32 = 32 := rfl
  have h1 : ((a : Nat) : Int) * 2 ^ n = ((a <<< n : Nat) : Int) := by rw [Nat.shiftLeft_eq, Int.natCast_mul, Int.natCast_pow]; rfl
  unfold shlI
  rw [Int.toNat_natCast, e, Nat.min_eq_left hn, h1]
  unfold IntKind.wrap
  simp [IntKind.signed, e]
/-- two halves of each group exchanged -/
def swS (k m x : Nat) : Nat := ((x >>> k) &&& m) ||| ((x &&& m) <<< k)
theorem sw_eq {a : Nat} (k m : Nat) (ha : a < 4294967296) (hk : k ≤ 32) (hm : m < 4294967296) (hmk : m <<< k < 4294967296) : IntKind.wrap .u32 (BitVec.ofInt (IntKind.bits .u32) (IntKind.wrap .u32 (BitVec.ofInt (IntKind.bits .u32) (shrI .u32 ((a : Nat) : Int) ((k : Nat) : Int)) &&& BitVec.ofInt (IntKind.bits .u32) ((m : Nat) : Int)).toNat) ||| BitVec.ofInt (IntKind.bits .u32) (shlI .u32 (IntKind.wrap .u32 (BitVec.ofInt (IntKind.bits .u32) ((a : Nat) : Int) &&& BitVec.ofInt (IntKind.bits .u32) ((m : Nat) : Int)).toNat) ((k : Nat) : Int))).toNat = ((swS k m a : Nat) : Int) := by
  have h1 : a >>> k < 4294967296 := Nat.lt_of_le_of_lt (Nat.shiftRight_le a k) ha
  have h2 : a &&& m ≤ m := Nat.and_le_right
  have h3 : (a &&& m) <<< k < 4294967296 := Nat.lt_of_le_of_lt (by rw [Nat.shiftLeft_eq, Nat.shiftLeft_eq]; exact Nat.mul_le_mul_right _ h2) hmk
  have h4 : a >>> k &&& m < 4294967296 := Nat.and_lt_two_pow (n := 32) _ hm
  rw [shr_nat .u32 a k hk, and32 h1 hm, and32 ha hm, shl32 _ k hk, Nat.mod_eq_of_lt h3, or32 h4 h3]; rfl
theorem swS_lt {a : Nat} (k m : Nat) (hm : m < 4294967296) (hmk : m <<< k < 4294967296) : swS k m a < 4294967296 := by
  have h2 : a &&& m ≤ m := Nat.and_le_right
  have h3 : (a &&& m) <<< k < 4294967296 := Nat.lt_of_le_of_lt (by rw [Nat.shiftLeft_eq, Nat.shiftLeft_eq]; exact Nat.mul_le_mul_right _ h2) hmk
  exact Nat.or_lt_two_pow (n := 32) (Nat.and_lt_two_pow (n := 32) _ hm) h3
def sg (k i : Nat) : Nat := if i / k % 2 = 0 then i + k else i - k
theorem swS_bit (k m a i : Nat) : (swS k m a).testBit i = ((a.testBit (k + i) && m.testBit i) || (decide (k ≤ i) && (a.testBit (i - k) && m.testBit (i - k)))) := by
  unfold swS
  rw [Nat.testBit_or, Nat.testBit_and, Nat.testBit_shiftRight, Nat.testBit_shiftLeft, Nat.testBit_and]
theorem sw1 {a : Nat} (ha : a < 4294967296) : IntKind.wrap .u32 (BitVec.ofInt (IntKind.bits .u32) (IntKind.wrap .u32 (BitVec.ofInt (IntKind.bits .u32) (shrI .u32 ((a : Nat) : Int) 1) &&& BitVec.ofInt (IntKind.bits .u32) 1431655765).toNat) ||| BitVec.ofInt (IntKind.bits .u32) (shlI .u32 (IntKind.wrap .u32 (BitVec.ofInt (IntKind.bits .u32) ((a : Nat) : Int) &&& BitVec.ofInt (IntKind.bits .u32) 1431655765).toNat) 1)).toNat = ((swS 1 1431655765 a : Nat) : Int) := sw_eq 1 1431655765 ha (by decide) (by decide) (by decide)
theorem sw1_bit (a : Nat) : ∀ i, i < 32 → (swS 1 1431655765 a).testBit i = a.testBit (sg 1 i) := by
  intro i hi
  unfold sg
  have t : ∀ j, j < 32 → Nat.testBit 1431655765 j = decide (j / 1 % 2 = 0) := by decide
  rw [swS_bit, t i hi, t (i - 1) (by omega)]
  by_cases c : i / 1 % 2 = 0
  · rw [if_pos c, decide_eq_true c, Bool.and_true]
    by_cases c2 : 1 ≤ i
    · rw [decide_eq_false (p := (i - 1) / 1 % 2 = 0) (by omega), Bool.and_false, Bool.and_false, Bool.or_false]; congr 1; omega
    · rw [decide_eq_false c2, Bool.false_and, Bool.or_false]; congr 1; omega
  · rw [if_neg c, decide_eq_false c, Bool.and_false, Bool.false_or, decide_eq_true (p := 1 ≤ i) (by omega), decide_eq_true (p := (i - 1) / 1 % 2 = 0) (by omega), Bool.true_and, Bool.and_true]
theorem sw2 {a : Nat} (ha : a < 4294967296) : IntKind.wrap .u32 (BitVec.ofInt (IntKind.bits .u32) (IntKind.wrap .u32 (BitVec.ofInt (IntKind.bits .u32) (shrI .u32 ((a : Nat) : Int) 2) &&& BitVec.ofInt (IntKind.bits .u32) 858993459).toNat) ||| BitVec.ofInt (IntKind.bits .u32) (shlI .u32 (IntKind.wrap .u32 (BitVec.ofInt (IntKind.bits .u32) ((a : Nat) : Int) &&& BitVec.ofInt (IntKind.bits .u32) 858993459).toNat) 2)).toNat = ((swS 2 858993459 a : Nat) : Int) := sw_eq 2 858993459 ha (by decide) (by decide) (by decide)
theorem sw2_bit (a : Nat) : ∀ i, i < 32 → (swS 2 858993459 a).testBit i = a.testBit (sg 2 i) := by
  intro i hi
  unfold sg
  have t : ∀ j, j < 32 → Nat.testBit 858993459 j = decide (j / 2 % 2 = 0) := by decide
  rw [swS_bit, t i hi, t (i - 2) (by omega)]
  by_cases c : i / 2 % 2 = 0
  · rw [if_pos c, decide_eq_true c, Bool.and_true]
    by_cases c2 : 2 ≤ i
    · rw [decide_eq_false (p := (i - 2) / 2 % 2 = 0) (by omega), Bool.and_false, Bool.and_false, Bool.or_false]; congr 1; omega
    · rw [decide_eq_false c2, Bool.false_and, Bool.or_false]; congr 1; omega
  · rw [if_neg c, decide_eq_false c, Bool.and_false, Bool.false_or, decide_eq_true (p := 2 ≤ i) (by omega), decide_eq_true (p := (i - 2) / 2 % 2 = 0) (by omega), Bool.true_and, Bool.and_true]
theorem sw4 {a : Nat} (ha : a < 4294967296) : IntKind.wrap .u32 (BitVec.ofInt (IntKind.bits .u32) (IntKind.wrap .u32 (BitVec.ofInt (IntKind.bits .u32) (shrI .u32 ((a : Nat) : Int) 4) &&& BitVec.ofInt (IntKind.bits .u32) 252645135).toNat) ||| BitVec.ofInt (IntKind.bits .u32) (shlI .u32 (IntKind.wrap .u32 (BitVec.ofInt (IntKind.bits .u32) ((a : Nat) : Int) &&& BitVec.ofInt (IntKind.bits .u32) 252645135).toNat) 4)).toNat = ((swS 4 252645135 a : Nat) : Int) := sw_eq 4 252645135 ha (by decide) (by decide) (by decide)
theorem sw4_bit (a : Nat) : ∀ i, i < 32 → (swS 4 252645135 a).testBit i = a.testBit (sg 4 i) := by
  intro i hi
  unfold sg
  have t : ∀ j, j < 32 → Nat.testBit 252645135 j = decide (j / 4 % 2 = 0) := by decide
  rw [swS_bit, t i hi, t (i - 4) (by omega)]
  by_cases c : i / 4 % 2 = 0
  · rw [if_pos c, decide_eq_true c, Bool.and_true]
    by_cases c2 : 4 ≤ i
    · rw [decide_eq_false (p := (i - 4) / 4 % 2 = 0) (by omega), Bool.and_false, Bool.and_false, Bool.or_false]; congr 1; omega
    · rw [decide_eq_false c2, Bool.false_and, Bool.or_false]; congr 1; omega
  · rw [if_neg c, decide_eq_false c, Bool.and_false, Bool.false_or, decide_eq_true (p := 4 ≤ i) (by omega), decide_eq_true (p := (i - 4) / 4 % 2 = 0) (by omega), Bool.true_and, Bool.and_true]
theorem sw8 {a : Nat} (ha : a < 4294967296) : IntKind.wrap .u32 (BitVec.ofInt (IntKind.bits .u32) (IntKind.wrap .u32 (BitVec.ofInt (IntKind.bits .u32) (shrI .u32 ((a : Nat) : Int) 8) &&& BitVec.ofInt (IntKind.bits .u32) 16711935).toNat) ||| BitVec.ofInt (IntKind.bits .u32) (shlI .u32 (IntKind.wrap .u32 (BitVec.ofInt (IntKind.bits .u32) ((a : Nat) : Int) &&& BitVec.ofInt (IntKind.bits .u32) 16711935).toNat) 8)).toNat = ((swS 8 16711935 a : Nat) : Int) := sw_eq 8 16711935 ha (by decide) (by decide) (by decide)
theorem sw8_bit (a : Nat) : ∀ i, i < 32 → (swS 8 16711935 a).testBit i = a.testBit (sg 8 i) := by
  intro i hi
  unfold sg
  have t : ∀ j, j < 32 → Nat.testBit 16711935 j = decide (j / 8 % 2 = 0) := by decide
  rw [swS_bit, t i hi, t (i - 8) (by omega)]
  by_cases c : i / 8 % 2 = 0
  · rw [if_pos c, decide_eq_true c, Bool.and_true]
    by_cases c2 : 8 ≤ i
    · rw [decide_eq_false (p := (i - 8) / 8 % 2 = 0) (by omega), Bool.and_false, Bool.and_false, Bool.or_false]; congr 1; omega
    · rw [decide_eq_false c2, Bool.false_and, Bool.or_false]; congr 1; omega
  · rw [if_neg c, decide_eq_false c, Bool.and_false, Bool.false_or, decide_eq_true (p := 8 ≤ i) (by omega), decide_eq_true (p := (i - 8) / 8 % 2 = 0) (by omega), Bool.true_and, Bool.and_true]
/-- 32 bits in the other order, as the library does it -/
def rev32 (a : Nat) : Nat := let b := swS 8 16711935 (swS 4 252645135 (swS 2 858993459 (swS 1 1431655765 a))); (b >>> 16) ||| (b <<< 16 % 4294967296)
theorem rev32_lt (a : Nat) : rev32 a < 4294967296 := by
  have hb := swS_lt (a := swS 4 252645135 (swS 2 858993459 (swS 1 1431655765 a))) 8 16711935 (by decide) (by decide)
  exact Nat.or_lt_two_pow (n := 32) (Nat.lt_of_le_of_lt (Nat.shiftRight_le _ _) hb) (Nat.mod_lt _ (by decide))
theorem rev32_bit (a i : Nat) (hi : i < 32) : (rev32 a).testBit i = a.testBit (31 - i) := by
  have hb := swS_lt (a := swS 4 252645135 (swS 2 858993459 (swS 1 1431655765 a))) 8 16711935 (by decide) (by decide)
  have e32 : (4294967296 : Nat) = 2 ^ 32 := by decide
  unfold rev32
  simp only [Nat.testBit_or, Nat.testBit_shiftRight]
  rw [e32, Nat.testBit_mod_two_pow, Nat.testBit_shiftLeft, decide_eq_true hi, Bool.true_and]
  have key : ∀ j, j < 32 → (swS 8 16711935 (swS 4 252645135 (swS 2 858993459 (swS 1 1431655765 a)))).testBit j = a.testBit (if j < 16 then 15 - j else 47 - j) := by
    intro j hj
    have l8 : ∀ j, j < 32 → sg 8 j < 32 := by decide
    have l4 : ∀ j, j < 32 → sg 4 j < 32 := by decide
    have l2 : ∀ j, j < 32 → sg 2 j < 32 := by decide
    rw [sw8_bit _ j hj, sw4_bit _ _ (l8 j hj), sw2_bit _ _ (l4 _ (l8 j hj)), sw1_bit _ _ (l2 _ (l4 _ (l8 j hj)))]
    have : ∀ j, j < 32 → sg 1 (sg 2 (sg 4 (sg 8 j))) = (if j < 16 then 15 - j else 47 - j) := by decide
    rw [this j hj]
  by_cases c : i < 16
  · rw [decide_eq_false (by omega), Bool.false_and, Bool.or_false, key _ (by omega), if_neg (by omega)]; congr 1; omega
  · rw [decide_eq_true (by omega), Bool.true_and, Nat.testBit_lt_two_pow (i := 16 + i) (Nat.lt_of_lt_of_le hb (by rw [e32]; exact Nat.pow_le_pow_right (by omega) (by omega))), Bool.false_or, key _ (by omega), if_pos (by omega)]; congr 1; omega
theorem rev32_turn {x n : Nat} (hn : n ≤ 32) : rev32 x >>> (32 - n) = revN n x 0 := by
  apply Nat.eq_of_testBit_eq
  intro i
  rw [Nat.testBit_shiftRight, revN_bit, Nat.zero_testBit]
  by_cases c : i < n
  · rw [if_pos c, rev32_bit _ _ (by omega)]; congr 1; omega
  · rw [if_neg c, Nat.testBit_lt_two_pow]
    exact Nat.lt_of_lt_of_le (rev32_lt x) (by rw [show (4294967296 : Nat) = 2 ^ 32 by decide]; exact Nat.pow_le_pow_right (by omega) (by omega))
section
variable {β : Type}
theorem rev32_eq (R : Nat) {x : Nat} (hx : x < 4294967296) (h : GH) (K : Int → GH → Option β) : F_math_bits_Reverse32 R (x : Nat) h K = K (rev32 x : Nat) h := by
  have b1 := swS_lt (a := x) 1 1431655765 (by decide) (by decide)
  have b2 := swS_lt (a := swS 1 1431655765 x) 2 858993459 (by decide) (by decide)
  have b3 := swS_lt (a := swS 2 858993459 (swS 1 1431655765 x)) 4 252645135 (by decide) (by decide)
  have b4 := swS_lt (a := swS 4 252645135 (swS 2 858993459 (swS 1 1431655765 x))) 8 16711935 (by decide) (by decide)
  unfold F_math_bits_Reverse32; rw [F_math_bits_Reverse32_gen, sw1 hx, sw2 b1, sw4 b2]
  unfold F_math_bits_ReverseBytes32; rw [F_math_bits_ReverseBytes32_gen, sw8 b3]
  have s1 := shr_nat .u32 (swS 8 16711935 (swS 4 252645135 (swS 2 858993459 (swS 1 1431655765 x)))) 16 (by decide)
  have s2 := shl32 (swS 8 16711935 (swS 4 252645135 (swS 2 858993459 (swS 1 1431655765 x)))) 16 (by decide)
  rw [show (16 : Int) = ((16 : Nat) : Int) from rfl, s1, s2, or32 (Nat.lt_of_le_of_lt (Nat.shiftRight_le _ _) b4) (Nat.mod_lt _ (by decide))]
  rfl
/-- bitio.Turn -/
theorem turn_prog (R : Nat) {x n : Nat} (hx : x < 4294967296) (hn : n ≤ 32) (h : GH) (K : Int → GH → Option β) : F_bitio_Turn R (x : Nat) (n : Nat) h K = K (revN n x 0 : Nat) h := by
  unfold F_bitio_Turn; rw [F_bitio_Turn_gen, rev32_eq R hx]
  have e1 : (if 32 < (if 0 > ((n : Nat) : Int) then 0 else ((n : Nat) : Int)) then 32 else if 0 > ((n : Nat) : Int) then 0 else ((n : Nat) : Int)) = (n : Nat) := by
    rw [if_neg (c := 0 > ((n : Nat) : Int)) (by omega), if_neg (by omega)]
  have hr := rev32_lt x
  have hs : rev32 x >>> (32 - n) < 4294967296 := Nat.lt_of_le_of_lt (Nat.shiftRight_le _ _) hr
  rw [e1, i64w (by omega), decF (by omega), condF, u64w (by omega), show (32 : Int) - ((n : Nat) : Int) = ((32 - n : Nat) : Int) by omega, shr_nat .u64 _ _ (by show 32 - n ≤ 64; omega), u32w hs, rev32_turn hn]
theorem turn_loop (R : Nat) {m : Nat} (hm : m ≤ 32) (h : GH) (K : Int → GH → Option β) : ∀ (k n i x y : Nat), i + k = m → k < n → x < 4294967296 → y < 2 ^ i → F_ref01_Turn_l0 R n (x : Nat) (m : Nat) (y : Nat) (i : Nat) h K = K (revN k x y : Nat) h
  | k, 0, i, x, y, h1, h2, h3, h4 => by omega
  | 0, n + 1, i, x, y, h1, h2, h3, h4 => by rw [F_ref01_Turn_l0_succ, decF (by omega), condF]; rfl
  | k + 1, n + 1, i, x, y, h1, h2, h3, h4 => by
    have hp : 2 ^ (i + 1) ≤ 2 ^ 32 := Nat.pow_le_pow_right (by omega) (by omega)
    have hp1 : 2 ^ (i + 1) = 2 ^ i * 2 := Nat.pow_succ 2 i
    have hp2 : (2 : Nat) ^ 32 = 4294967296 := by decide
    have e2 : IntKind.wrap .u32 (Int.tdiv ((x : Nat) : Int) 2) = ((x / 2 : Nat) : Int) := by rw [show Int.tdiv ((x : Nat) : Int) 2 = ((x / 2 : Nat) : Int) from rfl, u32w (by omega)]
    have e3 : IntKind.wrap .u32 (IntKind.wrap .u32 (((y : Nat) : Int) * 2) + Int.tmod ((x : Nat) : Int) 2) = ((y * 2 + x % 2 : Nat) : Int) := by
      rw [show ((y : Nat) : Int) * 2 = ((y * 2 : Nat) : Int) by omega, u32w (by omega), show Int.tmod ((x : Nat) : Int) 2 = ((x % 2 : Nat) : Int) from rfl, show ((y * 2 : Nat) : Int) + ((x % 2 : Nat) : Int) = ((y * 2 + x % 2 : Nat) : Int) by omega, u32w (by omega)]
    rw [F_ref01_Turn_l0_succ, decT (by omega), condT, decT (by omega), condT, e2, e3, i64w (by omega), show ((i : Nat) : Int) + 1 = ((i + 1 : Nat) : Int) from rfl, turn_loop R hm h K k n (i + 1) _ _ (by omega) (by omega) (by omega) (by omega)]
    rfl
/-- the document's Turn -/
theorem turn_ref {R : Nat} (hR : 4000000 < R) {x n : Nat} (hx : x < 4294967296) (hn : n ≤ 32) (h : GH) (K : Int → GH → Option β) : F_ref01_Turn R (x : Nat) (n : Nat) h K = K (revN n x 0 : Nat) h := by
  unfold F_ref01_Turn; rw [F_ref01_Turn_gen]
  exact turn_loop R hn h (fun w8 h9 => K w8 h9) n R 0 x 0 (by omega) (by omega) hx (by decide)
end
end Go.Proofs.Ytephmpbccajaaaa.Gx

