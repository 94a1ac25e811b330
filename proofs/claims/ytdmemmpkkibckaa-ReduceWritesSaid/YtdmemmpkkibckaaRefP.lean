/- The document's finder at a place, in plain lists: the same as the program's. No condition. -/
import Derived.Test.YtdmemmpkkibckaaFndP
namespace Go.Proofs.Ytdmemmpkkibckaa.Gx.Fd
open Go Go.RowKit
set_option linter.unusedVariables false
set_option linter.unusedSimpArgs false
def refLoop (bs : List Int) (mn mx win ch : Int) (i : Nat) : Nat → Nat → Nat × Nat → Nat × Nat
  | 0, _, best => best
  | k + 1, looked, best =>
    if (i : Int) - k ≤ win ∧ (looked : Int) < ch then
      if (same bs k i mn : Int) < mn then refLoop bs mn mx win ch i k looked best
      else refLoop bs mn mx win ch i k (looked + 1) (if best.2 < same bs k i mx then (i - k, same bs k i mx) else best)
    else best
def refAt (bs : List Int) (mn mx win ch : Int) (i : Nat) : Nat × Nat := refLoop bs mn mx win ch i i 0 (0, 0)
theorem refLoop_full (bs : List Int) (mn mx win ch : Int) (i : Nat) (hmx : 0 ≤ mx) (k looked : Nat) (best : Nat × Nat) (hb : (best.2 : Int) = mx) : refLoop bs mn mx win ch i k looked best = best := by
  induction k generalizing looked with
  | zero => rfl
  | succ k ih =>
    rw [refLoop]
    split
    · split
      · exact ih looked
      · rw [if_neg (by have := same_le_mx bs k i mx hmx; omega)]
        exact ih (looked + 1)
    · rfl
theorem ref_chain {bs : List Int} {mn mx win ch : Int} {i : Nat} (hm : mn = 2 ∨ mn = 3) (hi : (i : Int) + mn ≤ bs.length) (hmx : 0 ≤ mx) (k : Nat) : ∀ (f looked : Nat) (best : Nat × Nat), k ≤ i → k < f →
    refLoop bs mn mx win ch i k looked best = atLoop bs mn mx win ch i f (lastK bs mn (keyAt bs mn i) k) looked best := by
  induction k with
  | zero =>
    intro f looked best _ _
    rw [lastK, atLoop_stop _ _ _ _ _ _ _ _ _ _ (by omega)]
    rfl
  | succ k ih =>
    intro f looked best hk hf
    obtain ⟨f, rfl⟩ : ∃ f', f = f' + 1 := ⟨f - 1, by omega⟩
    rw [refLoop]
    by_cases hmatch : keyAt bs mn k = keyAt bs mn i
    · have hl : lastK bs mn (keyAt bs mn i) (k + 1) = k + 1 := by rw [lastK, if_pos ⟨by omega, hmatch⟩]
      rw [hl, atLoop]
      by_cases hc : (i : Int) - k ≤ win ∧ (looked : Int) < ch
      · have hc2 : (looked : Int) < ch ∧ 0 < k + 1 ∧ (i : Int) - (((k + 1 : Nat) : Int) - 1) ≤ win := ⟨hc.2, by omega, by omega⟩
        rw [if_pos hc, if_pos hc2, if_neg ((key_iff hm hi).1 hmatch)]
        simp only [Nat.add_sub_cancel]
        generalize (if best.2 < same bs k i mx then (i - k, same bs k i mx) else best) = nb
        split
        · rename_i hfull
          exact refLoop_full bs mn mx win ch i hmx k _ nb hfull
        · rw [ih f (looked + 1) nb (by omega) (by omega)]
          have : prevF bs mn i k = lastK bs mn (keyAt bs mn i) k := by
            unfold prevF
            rw [if_pos ⟨by omega, by omega⟩, hmatch]
          rw [this]
      · have hc2 : ¬ ((looked : Int) < ch ∧ 0 < k + 1 ∧ (i : Int) - (((k + 1 : Nat) : Int) - 1) ≤ win) := by omega
        rw [if_neg hc, if_neg hc2]
    · have hl : lastK bs mn (keyAt bs mn i) (k + 1) = lastK bs mn (keyAt bs mn i) k := by rw [lastK, if_neg (fun h => hmatch h.2)]
      rw [hl]
      have hle := lastK_le bs mn (keyAt bs mn i) k
      by_cases hc : (i : Int) - k ≤ win ∧ (looked : Int) < ch
      · have h1 : (same bs k i mn : Int) < mn := by
          by_cases h : (same bs k i mn : Int) < mn
          · exact h
          · exact absurd ((key_iff hm hi).2 h) hmatch
        rw [if_pos hc, if_pos h1]
        exact ih (f + 1) looked best (by omega) (by omega)
      · rw [if_neg hc, atLoop_stop _ _ _ _ _ _ _ _ _ _ (by omega)]
theorem ref_none {bs : List Int} {mn mx win ch : Int} {i : Nat} (hi : ¬ (i : Int) + mn ≤ bs.length) (hm : 0 < mn) (k looked : Nat) (best : Nat × Nat) : refLoop bs mn mx win ch i k looked best = best := by
  induction k generalizing looked with
  | zero => rfl
  | succ k ih =>
    rw [refLoop]
    split
    · rw [if_pos]
      · exact ih looked
      · rcases Nat.eq_zero_or_pos (same bs k i mn) with h0 | h0
        · omega
        · have := ((same_spec bs k i mn).1 (same bs k i mn - 1) (by omega)).2.1
          omega
    · rfl
theorem refAt_eq {bs : List Int} {mn mx win ch : Int} (i : Nat) (hm : mn = 2 ∨ mn = 3) (hmx : 0 ≤ mx) : refAt bs mn mx win ch i = atSpec bs mn mx win ch i := by
  unfold refAt atSpec
  split
  · rename_i hi
    exact ref_chain hm hi hmx i (i + 1) 0 (0, 0) (Nat.le_refl _) (by omega)
  · rename_i hi
    exact ref_none hi (by omega) i 0 (0, 0)
end Go.Proofs.Ytdmemmpkkibckaa.Gx.Fd

