/- The plain machine: steps through blocks that are written out, as equations for the simplifier. No condition. -/
import Derived.Test.YtibngikhlgmhaaaVec
namespace Go.Proofs.Ytibngikhlgmhaaa.Gx
open Go
set_option linter.unusedVariables false
section
variable {β : Type}
theorem look_push_if (h : GH) (o : GObj) (k : Nat) : (h.push o).look k = if k = h.next then some o else h.look k := by
  by_cases hk : k = h.next
  · subst hk; rw [look_push_new, if_pos rfl]
  · rw [if_neg hk]
    by_cases hl : k < h.next
    · exact look_push_old hl
    · have h1 : ∀ g : GH, ¬ k < g.next → g.look k = none := fun g hg => by
        have : Nat.blt k g.next = false := by cases hb : Nat.blt k g.next with | false => rfl | true => exact absurd (of_blt hb) hg
        simp [GH.look, this]
      rw [h1 _ (by rw [next_push]; omega), h1 _ hl]
theorem look_put_if (h : GH) (o : Option GObj) (g k : Nat) : (h.put g o).look k = if k = g then (if g < h.next then o else none) else h.look k := by
  by_cases hk : k = g
  · subst hk
    rw [if_pos rfl]
    by_cases hl : k < h.next
    · rw [if_pos hl, look_put_same hl]
    · have : Nat.blt k h.next = false := by cases hb : Nat.blt k h.next with | false => rfl | true => exact absurd (of_blt hb) hl
      rw [if_neg hl]; simp [GH.look, GH.put, this]
  · rw [if_neg hk, look_put_ne hk]
theorem cell_look (h : GH) (g o : Nat) : h.cell ⟨g, o, none⟩ = rowCell (h.look g) o := rfl
theorem rowCell_row (cs : List Value) (e : Nat) (r : Bool) (o : Nat) : rowCell (some (.row ⟨cs, e, r⟩)) o = nth cs o := rfl
theorem nth_0 {α : Type} (x : α) (r : List α) : nth (x :: r) 0 = some x := rfl
theorem nth_s {α : Type} (x : α) (r : List α) (n : Nat) : nth (x :: r) (n + 1) = nth r n := rfl
theorem gnew_if (cs : List Value) (e : Nat) (h : GH) (K : Nat → GH → Option β) : gnew cs e h K = bif allCells cs then K h.next (h.push (.row ⟨cs, e, false⟩)) else none := rfl
theorem gput_if (g o : Nat) (vs : List Value) (h : GH) (K : GH → Option β) : gput g o vs h K = match h.look g with | some (.row b) => (bif b.ro || !allCells vs then none else bif Nat.ble (o + vs.length) b.cells.length then K (h.put g (some (.row { b with cells := nlay b.cells o vs }))) else none) | _ => none := rfl
theorem allCells_n : allCells [] = true := rfl
theorem allCells_c (v : Value) (r : List Value) : allCells (v :: r) = (isCell v && allCells r) := rfl
theorem ble_dec (a b : Nat) : Nat.ble a b = decide (a ≤ b) := by
  by_cases h : a ≤ b
  · rw [ble_t h, decT h]
  · rw [ble_f (by omega), decF h]
theorem nlay_def {α : Type} (l : List α) (o : Nat) (m : List α) : nlay l o m = l.take o ++ m ++ l.drop (o + m.length) := nlay_eq l o m
theorem sameAt_1 (g o : Nat) (h h' : GH) : sameAt g o 1 h h' = veqO (h.cell ⟨g, o, none⟩) (h'.cell ⟨g, o, none⟩) := by simp [sameAt]
theorem veqO_i (k : IntKind) (n : Int) : veqO (some (.int k n)) (some (.int k n)) = true := by simp [veqO, veq]
theorem veqO_b (b : Bool) : veqO (some (.bool b)) (some (.bool b)) = true := by simp [veqO, veq]
theorem veqO_s (a : Option Addr) (n c : Nat) : veqO (some (.slice a n c)) (some (.slice a n c)) = true := by simp [veqO, veq]
theorem veqO_p (a : Option Addr) : veqO (some (.pointer a)) (some (.pointer a)) = true := by simp [veqO, veq]
theorem exS_s' (a : Option Addr) (n c : Nat) (K : Sl → Option β) : exS (some (.slice a n c)) K = K ⟨a, n, c⟩ := by simp [exS]
theorem isCell_i (k : IntKind) (n : Int) : isCell (.int k n) = true := rfl
theorem isCell_b (b : Bool) : isCell (.bool b) = true := rfl
theorem isCell_s (a : Option Addr) (n c : Nat) : isCell (.slice a n c) = true := rfl
theorem isCell_p (a : Option Addr) : isCell (.pointer a) = true := rfl
theorem self_succ (n k : Nat) : (n = n + (k + 1)) = False := by simp
theorem succ_self (n k : Nat) : (n + (k + 1) = n) = False := by simp
theorem lt_succ_self (n k : Nat) : (n < n + (k + 1)) = True := by simp
theorem beq_int (a b : Int) : (a == b) = decide (a = b) := by by_cases h : a = b <;> simp [h]
theorem bne_int (a b : Int) : (a != b) = decide (a ≠ b) := by by_cases h : a = b <;> simp [h]
theorem cond_dec {α : Type} (p : Prop) [Decidable p] (a b : α) : (bif decide p then a else b) = if p then a else b := by by_cases h : p <;> simp [h]
theorem not_dec (p : Prop) [Decidable p] : (!decide p) = decide (¬p) := by by_cases h : p <;> simp [h]
end
/-! ### bits of numbers -/
theorem bits64 : IntKind.bits .i64 = 64 := rfl
theorem and_mask {x : Int} (k : Nat) (hk : k ≤ 62) (hx : 0 ≤ x ∧ x ≤ 9223372036854775807) : IntKind.wrap .i64 (BitVec.ofInt (IntKind.bits .i64) x &&& BitVec.ofInt (IntKind.bits .i64) (((2 ^ k - 1 : Nat) : Nat) : Int)).toNat = x % (2 ^ k : Nat) := by
  obtain ⟨a, rfl⟩ : ∃ a : Nat, x = a := ⟨x.toNat, by omega⟩
  have h1 : (2 : Nat) ^ k ≤ 2 ^ 62 := Nat.pow_le_pow_right (by omega) hk
  have h2 : 0 < (2 : Nat) ^ k := Nat.pow_pos (by omega)
  have e1 : BitVec.ofInt 64 (a : Int) = BitVec.ofNat 64 a := BitVec.ofInt_natCast 64 a
  have e2 : BitVec.ofInt 64 ((2 ^ k - 1 : Nat) : Int) = BitVec.ofNat 64 (2 ^ k - 1) := BitVec.ofInt_natCast 64 _
  rw [bits64, e1, e2, BitVec.toNat_and, BitVec.toNat_ofNat, BitVec.toNat_ofNat, Nat.mod_eq_of_lt (by omega), Nat.mod_eq_of_lt (by omega), Nat.and_two_pow_sub_one_eq_mod]
  have h3 := Nat.mod_lt a h2
  rw [i64w (by omega)]
  exact Int.natCast_emod a (2 ^ k)
theorem shr_div {x : Int} (k : Nat) (hk : k ≤ 62) : shrI .i64 x (k : Nat) = x / (2 ^ k : Nat) := by
  have hm : min ((k : Nat) : Int).toNat (IntKind.bits .i64) = k := by rw [bits64, Int.toNat_natCast]; omega
  rw [shrI, hm, Int.fdiv_eq_ediv_of_nonneg _ (by exact Int.pow_nonneg (by omega))]
  rw [Int.natCast_pow]; rfl
end Go.Proofs.Ytibngikhlgmhaaa.Gx

