/- Bytes as one number; numbers of 64 bits: plain. No condition. -/
import Derived.Test.YtdmemmpkkibckaaTurnP
namespace Go.Proofs.Ytdmemmpkkibckaa.Gx
open Go Go.RowKit
set_option linter.unusedVariables false
set_option linter.unusedSimpArgs false
/-! ### bytes as one number -/
def numN : List Int → Nat
  | [] => 0
  | b :: r => b.toNat + 256 * numN r
theorem B8.head {b : Int} {r : List Int} (h : B8 (b :: r)) : 0 ≤ b ∧ b ≤ 255 := h b (by simp)
theorem B8.tail {b : Int} {r : List Int} (h : B8 (b :: r)) : B8 r := fun x hx => h x (by simp [hx])
theorem B8.get {bs : List Int} (h : B8 bs) {i : Nat} (hi : i < bs.length) : 0 ≤ bs.getD i 0 ∧ bs.getD i 0 ≤ 255 := by
  rw [List.getD_eq_getElem?_getD, List.getElem?_eq_getElem hi]; exact h _ (List.getElem_mem hi)
theorem numN_byte : ∀ {bs : List Int}, B8 bs → ∀ {i : Nat}, i < bs.length → numN bs / 2 ^ (8 * i) % 256 = (bs.getD i 0).toNat
  | [], _, i, h => by simp at h
  | b :: r, hb, 0, h => by
    have := hb.head
    rw [Nat.mul_zero, Nat.pow_zero, Nat.div_one, numN, List.getD_cons_zero]; omega
  | b :: r, hb, i + 1, h => by
    have h1 := hb.head
    rw [numN, show 8 * (i + 1) = 8 + 8 * i by omega, Nat.pow_add, ← Nat.div_div_eq_div_mul, show (b.toNat + 256 * numN r) / 2 ^ 8 = numN r by omega, List.getD_cons_succ]
    exact numN_byte hb.tail (by simpa using h)
theorem numN_bit {bs : List Int} (hb : B8 bs) {p : Nat} (h : p / 8 < bs.length) : numN bs / 2 ^ p % 2 = (bs.getD (p / 8) 0).toNat / 2 ^ (p % 8) % 2 := by
  rw [← numN_byte hb h]
  have h2 : numN bs / 2 ^ p = numN bs / 2 ^ (8 * (p / 8)) / 2 ^ (p % 8) := by rw [Nat.div_div_eq_div_mul, ← Nat.pow_add]; congr 2; omega
  rw [h2]
  generalize numN bs / 2 ^ (8 * (p / 8)) = y
  have h3 : p % 8 < 8 := Nat.mod_lt _ (by omega)
  have h4 : (256 : Nat) = 2 ^ (p % 8) * (2 * 2 ^ (7 - p % 8)) := by
    rw [Nat.mul_left_comm, ← Nat.pow_add, show p % 8 + (7 - p % 8) = 7 by omega]
  rw [h4, Nat.mod_mul_right_div_self, Nat.mod_mul_right_mod]
/-- n bits from the p-th on -/
def rdV (bs : List Int) (p n : Nat) : Nat := numN bs / 2 ^ p % 2 ^ n
theorem rdV_lt (bs : List Int) (p n : Nat) : rdV bs p n < 2 ^ n := Nat.mod_lt _ (Nat.pow_pos (by omega))
theorem rdV_succ (bs : List Int) (p n : Nat) : rdV bs p (n + 1) = rdV bs p n + rdV bs (p + n) 1 * 2 ^ n := by
  unfold rdV
  rw [Nat.pow_succ, Nat.mod_mul, Nat.pow_one, Nat.div_div_eq_div_mul, ← Nat.pow_add, Nat.mul_comm (2 ^ n)]
theorem rdV_first (bs : List Int) (p n : Nat) : rdV bs p (n + 1) = rdV bs p 1 + rdV bs (p + 1) n * 2 := by
  unfold rdV
  rw [show n + 1 = 1 + n by omega, Nat.pow_add, Nat.mod_mul, Nat.div_div_eq_div_mul, ← Nat.pow_add, Nat.pow_one, Nat.mul_comm 2]
theorem rdV_app (bs : List Int) (p n m : Nat) : rdV bs p (n + m) = rdV bs p n + rdV bs (p + n) m * 2 ^ n := by
  unfold rdV
  rw [Nat.pow_add, Nat.mod_mul, Nat.div_div_eq_div_mul, ← Nat.pow_add, Nat.mul_comm (2 ^ n)]
/-! ### numbers of 64 bits -/
theorem and64 {a b : Nat} (ha : a < 18446744073709551616) (hb : b < 18446744073709551616) : IntKind.wrap .u64 ((BitVec.ofInt (IntKind.bits .u64) ((a : Nat) : Int) &&& BitVec.ofInt (IntKind.bits .u64) ((b : Nat) : Int)).toNat : Int) = ((a &&& b : Nat) : Int) := by
  have e : IntKind.bits .u64 = 64 := rfl
  have hab : a &&& b < 18446744073709551616 := Nat.and_lt_two_pow (n := 64) a hb
  rw [e, BitVec.ofInt_natCast, BitVec.ofInt_natCast, BitVec.toNat_and, BitVec.toNat_ofNat, BitVec.toNat_ofNat, Nat.mod_eq_of_lt ha, Nat.mod_eq_of_lt hb, u64w hab]
theorem or64 {a b : Nat} (ha : a < 18446744073709551616) (hb : b < 18446744073709551616) : IntKind.wrap .u64 ((BitVec.ofInt (IntKind.bits .u64) ((a : Nat) : Int) ||| BitVec.ofInt (IntKind.bits .u64) ((b : Nat) : Int)).toNat : Int) = ((a ||| b : Nat) : Int) := by
  have e : IntKind.bits .u64 = 64 := rfl
  have hab : a ||| b < 18446744073709551616 := Nat.or_lt_two_pow (n := 64) ha hb
  rw [e, BitVec.ofInt_natCast, BitVec.ofInt_natCast, BitVec.toNat_or, BitVec.toNat_ofNat, BitVec.toNat_ofNat, Nat.mod_eq_of_lt ha, Nat.mod_eq_of_lt hb, u64w hab]
theorem shl64n (a n : Nat) (hn : n ≤ 64) (h : a * 2 ^ n < 18446744073709551616) : shlI .u64 ((a : Nat) : Int) ((n : Nat) : Int) = ((a * 2 ^ n : Nat) : Int) := by
  have e : IntKind.bits .u64 = 64 := rfl
  have h1 : ((a : Nat) : Int) * 2 ^ n = ((a * 2 ^ n : Nat) : Int) := by rw [Int.natCast_mul, Int.natCast_pow]; rfl
  unfold shlI
  rw [Int.toNat_natCast, e, Nat.min_eq_left hn, h1, u64w h]
theorem or_add {a b n : Nat} (h : a < 2 ^ n) : a ||| (b * 2 ^ n) = a + b * 2 ^ n := by
  rw [Nat.or_comm, Nat.mul_comm, ← Nat.two_pow_add_eq_or_of_lt h, Nat.add_comm]
/-- the mask of n bits, as the program makes it -/
theorem mask64 {n : Nat} (hn : n ≤ 32) : IntKind.wrap .u64 (shlI .u64 1 ((n : Nat) : Int) - 1) = ((2 ^ n - 1 : Nat) : Int) := by
  have hp : 2 ^ n ≤ 2 ^ 32 := Nat.pow_le_pow_right (by omega) hn
  have hp0 : 0 < 2 ^ n := Nat.pow_pos (by omega)
  have hp2 : (2 : Nat) ^ 32 = 4294967296 := by decide
  have := shl64n 1 n (by omega) (by omega)
  rw [show (1 : Int) = ((1 : Nat) : Int) from rfl, this, Nat.one_mul, show ((2 ^ n : Nat) : Int) - ((1 : Nat) : Int) = ((2 ^ n - 1 : Nat) : Int) by omega, u64w (by omega)]
end Go.Proofs.Ytdmemmpkkibckaa.Gx

