/- Plain: a text of one byte has few tokens. -/
import Derived.Test.YtamhlammhhlibaaLaw9b
namespace Go.Proofs.Ytamhlammhhlibaa

theorem getD_rep (c : Int) (n j : Nat) (h : j < n) : (List.replicate n c).getD j 0 = c := by simp [h]
theorem same_run {c : Int} {n f i : Nat} {mx : Int} (hf : f ≤ i) (hmx : 0 ≤ mx) (hi : i ≤ n) : same (List.replicate n c) f i mx = min mx.toNat (n - i) := by
  obtain ⟨h1, h2⟩ := same_spec (List.replicate n c) f i mx
  have h3 := same_le_mx (List.replicate n c) f i mx hmx
  generalize same (List.replicate n c) f i mx = L at h1 h2 h3
  have h4 : i + L ≤ n := by
    rcases Nat.eq_zero_or_pos L with h0 | h0
    · omega
    · have := (h1 (L - 1) (by omega)).2.1
      simp at this
      omega
  have h5 : mx ≤ L ∨ n ≤ i + L := by
    by_cases a : mx ≤ L
    · exact .inl a
    · by_cases b : n ≤ i + L
      · exact .inr b
      · refine absurd ⟨by omega, by simp; omega, ?_⟩ h2
        rw [getD_rep _ _ _ (by omega), getD_rep _ _ _ (by omega)]
  omega
theorem key_run {c : Int} {m n p q : Nat} (hm : m = 2 ∨ m = 3) (hp : p + m ≤ n) (hq : q + m ≤ n) : keyAt (List.replicate n c) m p = keyAt (List.replicate n c) m q := by
  unfold keyAt
  rcases hm with rfl | rfl
  · rw [getD_rep _ _ p (by omega), getD_rep _ _ q (by omega), getD_rep _ _ (p + 1) (by omega), getD_rep _ _ (q + 1) (by omega)]
    simp
  · rw [getD_rep _ _ p (by omega), getD_rep _ _ q (by omega), getD_rep _ _ (p + 1) (by omega), getD_rep _ _ (q + 1) (by omega), getD_rep _ _ (p + 2) (by omega), getD_rep _ _ (q + 2) (by omega)]
theorem loop_run {c : Int} {m n i : Nat} {mx win ch : Int} (hmx : 0 ≤ mx) (hi : i ≤ n) (f : Nat) : ∀ (frm cnt : Nat) (best : Nat × Nat), frm ≤ i → best.2 = min mx.toNat (n - i) → atLoop (List.replicate n c) m mx win ch i f frm cnt best = best := by
  induction f with
  | zero => intro _ _ _ _ _; rfl
  | succ f ih =>
    intro frm cnt best hfr hb
    rw [atLoop]
    split
    · rw [same_run (by omega) hmx hi]
      have e : (if best.2 < min mx.toNat (n - i) then (i - (frm - 1), min mx.toNat (n - i)) else best) = best := if_neg (by omega)
      rw [e]
      split
      · rfl
      · exact ih _ _ _ (Nat.le_trans (prevF_le _ _ _ _) (by omega)) hb
    · rfl
theorem at_run {c : Int} {m n i : Nat} {mx win ch : Int} (hm : m = 2 ∨ m = 3) (hmx : (m : Int) ≤ mx) (hw : 1 ≤ win) (hc : 1 ≤ ch) (hi : 1 ≤ i) (hn : i + m ≤ n) :
    atSpec (List.replicate n c) m mx win ch i = (1, min mx.toNat (n - i)) := by
  unfold atSpec
  rw [if_pos (by simp; omega)]
  obtain ⟨i, rfl⟩ : ∃ j, i = j + 1 := ⟨i - 1, by omega⟩
  rw [lastK, if_pos ⟨by simp; omega, key_run hm (by omega) (by omega)⟩, atLoop, if_pos ⟨by omega, by omega, by omega⟩]
  rw [same_run (by omega) (by omega) (by omega)]
  have e : (if (0, 0).2 < min mx.toNat (n - (i + 1)) then (i + 1 - (i + 1 - 1), min mx.toNat (n - (i + 1))) else (0, 0)) = (1, min mx.toNat (n - (i + 1))) := by
    rw [if_pos (by simp only; omega)]
    congr 1
    omega
  rw [e]
  split
  · rfl
  · exact loop_run (i := i + 1) (by omega) (by omega) _ _ _ _ (Nat.le_trans (prevF_le _ _ _ _) (by omega)) rfl
theorem at_end {c : Int} {m n i : Nat} {mx win ch : Int} (hn : ¬ i + m ≤ n) : atSpec (List.replicate n c) m mx win ch i = (0, 0) := by
  unfold atSpec
  rw [if_neg (by simp; omega)]
theorem at_first {c : Int} {m n : Nat} {mx win ch : Int} : atSpec (List.replicate n c) m mx win ch 0 = (0, 0) := by
  unfold atSpec
  split
  · rw [lastK, atLoop, if_neg (by omega)]
  · rfl
theorem waits_none {bs : List Int} {m mx win ch : Int} {lz : Bool} {i : Nat} (h : atSpec bs m mx win ch i = (0, 0)) : waits bs m mx win ch lz i = true := by simp [waits, h]
theorem waits_run {c : Int} {m n i : Nat} {mx win ch : Int} {lz : Bool} (hm : m = 2 ∨ m = 3) (hmx : (m : Int) ≤ mx) (hw : 1 ≤ win) (hc : 1 ≤ ch) (hi : 1 ≤ i) (hn : i + m ≤ n) :
    waits (List.replicate n c) m mx win ch lz i = false := by
  unfold waits
  rw [at_run hm hmx hw hc hi hn]
  have h2 : (atSpec (List.replicate n c) m mx win ch (i + 1)).2 ≤ min mx.toNat (n - i) := by
    by_cases h : i + 1 + m ≤ n
    · rw [at_run hm hmx hw hc (by omega) h]; simp only; omega
    · rw [at_end h]; simp
  have h3 : decide (min mx.toNat (n - i) < (atSpec (List.replicate n c) m mx win ch (i + 1)).2) = false := by simp only [decide_eq_false_iff_not]; omega
  simp only [h3]
  simp

theorem len_end {c : Int} {m n : Nat} {mx win ch : Int} {lz : Bool} (f : Nat) : ∀ i, ¬ i + m ≤ n → (findLoop (List.replicate n c) m mx win ch lz f i).length ≤ n - i := by
  induction f with
  | zero => intro i _; simp [findLoop]
  | succ f ih =>
    intro i hi
    rw [findLoop]
    split
    · rename_i hlt
      simp at hlt
      rw [if_pos (waits_none (at_end hi)), List.length_cons]
      have := ih (i + 1) (by omega)
      omega
    · simp
theorem len_run {c : Int} {m n M : Nat} {mx win ch : Int} {lz : Bool} (hm : m = 2 ∨ m = 3) (hM : mx = M) (hmx : m ≤ M) (hw : 1 ≤ win) (hc : 1 ≤ ch) (f : Nat) : ∀ i, 1 ≤ i → i ≤ n → (findLoop (List.replicate n c) m mx win ch lz f i).length ≤ (n - i + M - 1) / M + m := by
  induction f with
  | zero => intro i _ _; simp [findLoop]
  | succ f ih =>
    intro i hi hin
    by_cases hn : i + m ≤ n
    · rw [findLoop]
      have e : mx.toNat = M := by omega
      rw [if_pos (by simp; omega), waits_run hm (by omega) hw hc hi hn, if_neg (by simp), at_run hm (by omega) hw hc hi hn, List.length_cons, e]
      simp only
      by_cases hlast : n - i ≤ M
      · rw [Nat.min_eq_right hlast]
        have h1 : (findLoop (List.replicate n c) m mx win ch lz f (i + (n - i))).length ≤ n - (i + (n - i)) := len_end f _ (by omega)
        generalize (n - i + M - 1) / M = D
        omega
      · rw [Nat.min_eq_left (by omega)]
        have h1 := ih (i + M) (by omega) (by omega)
        have h2 : n - i + M - 1 = (n - (i + M) + M - 1) + M := by omega
        rw [h2, Nat.add_div_right _ (by omega)]
        generalize (n - (i + M) + M - 1) / M = D at h1 ⊢
        omega
    · have := len_end (c := c) (mx := mx) (win := win) (ch := ch) (lz := lz) (f + 1) i hn
      generalize (n - i + M - 1) / M = D
      omega
theorem find_run {c : Int} {m n M : Nat} {mx win ch : Int} {lz : Bool} (hm : m = 2 ∨ m = 3) (hM : mx = M) (hmx : m ≤ M) (hw : 1 ≤ win) (hc : 1 ≤ ch) (hn : 1 ≤ n) : (findSpec (List.replicate n c) m mx win ch lz).length ≤ 1 + ((n - 1 + M - 1) / M + m) := by
  unfold findSpec
  obtain ⟨n, rfl⟩ : ∃ k, n = k + 1 := ⟨n - 1, by omega⟩
  rw [List.length_replicate, findLoop, if_pos (by simp), if_pos (waits_none at_first), List.length_cons]
  have := len_run (c := c) (lz := lz) hm hM hmx hw hc n 1 (by omega) (show 1 ≤ n + 1 by omega)
  rw [Nat.add_comm 1]
  exact Nat.succ_le_succ this
end Go.Proofs.Ytamhlammhhlibaa
