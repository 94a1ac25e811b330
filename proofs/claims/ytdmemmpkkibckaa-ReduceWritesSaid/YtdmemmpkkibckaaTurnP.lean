/- Bits in the other order; numbers of 32 bits: plain. No condition. -/
import Derived.Test.YtdmemmpkkibckaaInt
namespace Go.Proofs.Ytdmemmpkkibckaa.Gx
open Go Go.RowKit
set_option linter.unusedVariables false
set_option linter.unusedSimpArgs false
/-- n bits of x, the lowest first, put behind y -/
def revN : Nat → Nat → Nat → Nat
  | 0, x, y => y
  | n + 1, x, y => revN n (x / 2) (y * 2 + x % 2)
theorem revN_bit : ∀ (n x y i : Nat), (revN n x y).testBit i = if i < n then x.testBit (n - 1 - i) else y.testBit (i - n)
  | 0, x, y, i => by rw [if_neg (by omega)]; rfl
  | n + 1, x, y, i => by
    rw [revN, revN_bit n]
    by_cases c : i < n
    · rw [if_pos c, if_pos (by omega), ← Nat.testBit_succ]; congr 1; omega
    · rw [if_neg c]
      by_cases c2 : i = n
      · subst c2
        rw [if_pos (by omega), Nat.sub_self, show i + 1 - 1 - i = 0 by omega, Nat.testBit_zero, Nat.testBit_zero]
        congr 1; rw [eq_iff_iff]; omega
      · rw [if_neg (by omega), show i - n = (i - (n + 1)) + 1 by omega, Nat.testBit_succ]; congr 1; omega
theorem revN_lt (n x : Nat) : revN n x 0 < 2 ^ n := by
  apply Nat.lt_pow_two_of_testBit
  intro i hi
  rw [revN_bit, if_neg (by omega), Nat.zero_testBit]
theorem revN_shift (n a w : Nat) : revN (a + n) (w * 2 ^ a) 0 = revN n w 0 := by
  apply Nat.eq_of_testBit_eq
  intro i
  rw [revN_bit, revN_bit, Nat.zero_testBit, Nat.zero_testBit]
  by_cases c : i < n
  · rw [if_pos c, if_pos (by omega), Nat.testBit_mul_two_pow, decide_eq_true (by omega), Bool.true_and]; congr 1; omega
  · rw [if_neg c]
    split
    · rw [Nat.testBit_mul_two_pow, decide_eq_false (by omega), Bool.false_and]
    · rfl
theorem revN_inj {n x y : Nat} (hx : x < 2 ^ n) (hy : y < 2 ^ n) (h : revN n x 0 = revN n y 0) : x = y := by
  apply Nat.eq_of_testBit_eq
  intro i
  by_cases c : i < n
  · have := congrArg (fun z => z.testBit (n - 1 - i)) h
    simp only [revN_bit] at this
    rw [if_pos (by omega), if_pos (by omega), show n - 1 - (n - 1 - i) = i by omega] at this
    exact this
  · rw [Nat.testBit_lt_two_pow (Nat.lt_of_lt_of_le hx (Nat.pow_le_pow_right (by omega) (by omega))), Nat.testBit_lt_two_pow (Nat.lt_of_lt_of_le hy (Nat.pow_le_pow_right (by omega) (by omega)))]
theorem revN_revN {n x : Nat} (hx : x < 2 ^ n) : revN n (revN n x 0) 0 = x := by
  apply Nat.eq_of_testBit_eq
  intro i
  rw [revN_bit, Nat.zero_testBit]
  by_cases c : i < n
  · rw [if_pos c, revN_bit, if_pos (by omega)]; congr 1; omega
  · rw [if_neg c, Nat.testBit_lt_two_pow (Nat.lt_of_lt_of_le hx (Nat.pow_le_pow_right (by omega) (by omega)))]
theorem revN_mod {n m x : Nat} (h : m ≤ n) : revN n x 0 % 2 ^ m = revN m (x / 2 ^ (n - m)) 0 := by
  apply Nat.eq_of_testBit_eq
  intro i
  rw [Nat.testBit_mod_two_pow, revN_bit, revN_bit, Nat.zero_testBit, Nat.zero_testBit]
  by_cases c : i < m
  · rw [decide_eq_true c, Bool.true_and, if_pos (by omega), if_pos c, Nat.testBit_div_two_pow]; congr 1; omega
  · rw [decide_eq_false c, Bool.false_and, if_neg c]
/-! ### numbers of 32 bits -/
theorem u32w {x : Nat} (h : x < 4294967296) : IntKind.wrap .u32 ((x : Nat) : Int) = (x : Nat) := IntWalk.u32_in _ (by omega)
theorem u64w {x : Nat} (h : x < 18446744073709551616) : IntKind.wrap .u64 ((x : Nat) : Int) = (x : Nat) := IntWalk.u64_in _ (by omega)
theorem and32 {a b : Nat} (ha : a < 4294967296) (hb : b < 4294967296) : IntKind.wrap .u32 ((BitVec.ofInt (IntKind.bits .u32) ((a : Nat) : Int) &&& BitVec.ofInt (IntKind.bits .u32) ((b : Nat) : Int)).toNat : Int) = ((a &&& b : Nat) : Int) := by
  have e : IntKind.bits .u32 = 32 := rfl
  have hab : a &&& b < 4294967296 := Nat.and_lt_two_pow (n := 32) a hb
  rw [e, BitVec.ofInt_natCast, BitVec.ofInt_natCast, BitVec.toNat_and, BitVec.toNat_ofNat, BitVec.toNat_ofNat, Nat.mod_eq_of_lt ha, Nat.mod_eq_of_lt hb, u32w hab]
theorem or32 {a b : Nat} (ha : a < 4294967296) (hb : b < 4294967296) : IntKind.wrap .u32 ((BitVec.ofInt (IntKind.bits .u32) ((a : Nat) : Int) ||| BitVec.ofInt (IntKind.bits .u32) ((b : Nat) : Int)).toNat : Int) = ((a ||| b : Nat) : Int) := by
  have e : IntKind.bits .u32 = 32 := rfl
  have hab : a ||| b < 4294967296 := Nat.or_lt_two_pow (n := 32) ha hb
  rw [e, BitVec.ofInt_natCast, BitVec.ofInt_natCast, BitVec.toNat_or, BitVec.toNat_ofNat, BitVec.toNat_ofNat, Nat.mod_eq_of_lt ha, Nat.mod_eq_of_lt hb, u32w hab]
theorem shr_nat (k : IntKind) (a n : Nat) (hn : n ≤ k.bits) : shrI k ((a : Nat) : Int) ((n : Nat) : Int) = ((a >>> n : Nat) : Int) := by
  rw [shrI, Int.toNat_natCast, Nat.min_eq_left hn, Nat.shiftRight_eq_div_pow, Int.fdiv_eq_ediv_of_nonneg _ (by exact Int.pow_nonneg (by omega)), Int.natCast_ediv, Int.natCast_pow]; rfl
theorem shl32 (a n : Nat) (hn : n ≤ 32) : shlI .u32 ((a : Nat) : Int) ((n : Nat) : Int) = (((a <<< n) % 4294967296 : Nat) : Int) := by
  have e : IntKind.bits .u32 = 32 := rfl
  have h1 : ((a : Nat) : Int) * 2 ^ n = ((a <<< n : Nat) : Int) := by rw [Nat.shiftLeft_eq, Int.natCast_mul, Int.natCast_pow]; rfl
  unfold shlI
  rw [Int.toNat_natCast, e, Nat.min_eq_left hn, h1]
  unfold IntKind.wrap
  simp [IntKind.signed, e]
end Go.Proofs.Ytdmemmpkkibckaa.Gx

