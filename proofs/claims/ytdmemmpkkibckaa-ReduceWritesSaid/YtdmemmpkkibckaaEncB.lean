/- What is encoded are bytes; rows that are the same. No condition. -/
import Derived.Test.YtdmemmpkkibckaaFndC
namespace Go.Proofs.Ytdmemmpkkibckaa.Gx
open Go Go.RowKit Fd
set_option linter.unusedVariables false
set_option linter.unusedSimpArgs false
theorem plainS_b8 {ps : List Int} (h : B8 ps) : B8 (plainS ps) := by
  intro c hc
  obtain ⟨p, hp, hc⟩ := List.mem_flatMap.1 hc
  have := h p hp
  unfold plainB at hc
  split at hc
  · simp at hc; omega
  · simp at hc; omega
theorem encL_b8 {f : Int} {low : Nat} (hf : FL f low) {bs : List Int} (hb : B8 bs) : ∀ (ts : List Tok) (i : Nat), Til bs 3 ((low - 1 + 258 : Nat) : Int) (256 * 2 ^ f.toNat) ts i → B8 (encL low bs ts i)
  | [], i, h => by intro c hc; simp [encL] at hc
  | t :: ts, i, h => by
    obtain ⟨hi, hcase⟩ := h
    have sub : ∀ st, B8 (plainS ((bs.drop i).take st)) := fun st => plainS_b8 (fun c hc => hb c (List.mem_of_mem_drop (List.mem_of_mem_take hc)))
    intro c hc
    rw [encL] at hc
    rcases hcase with ⟨e0, hT3⟩ | ⟨d, m, e0, hm3, hmx, hd1, hdi, hdw, him, hsame, hT3⟩
    · have ih := encL_b8 hf hb ts (i + 1) hT3
      rcases List.mem_append.1 hc with hc | hc
      · rw [encT, e0] at hc
        simp only [if_true] at hc
        exact sub 1 c hc
      · unfold Fd.stepT at hc
        rw [e0] at hc
        simp only [if_true] at hc
        exact ih c hc
    · have ih := encL_b8 hf hb ts (i + m) hT3
      rcases List.mem_append.1 hc with hc | hc
      · rw [encT, e0] at hc
        simp only [Int.toNat_natCast] at hc
        rw [if_neg (by omega)] at hc
        split at hc
        · exact sub m c hc
        · have hv := vOf_le (n := m) hf hd1 hdw
          have hlow := (shl_256 hf).2.2.2.2
          unfold encC at hc
          split at hc <;> simp at hc <;> omega
      · unfold Fd.stepT at hc
        rw [e0] at hc
        simp only [Int.toNat_natCast] at hc
        rw [if_neg (by omega)] at hc
        exact ih c hc
theorem same_loopR {h : GH} {a b : Sl} {bs : List Int} (ra : Rd h a bs) (rb : Rd h b bs) (hm : bs.length < 274877906944) (R : Nat) {β : Type} : ∀ (k n i : Nat), i + k = bs.length → k < n → ∀ (K0 : GH → Option β) (Kr : Bool → GH → Option β), F_ref01_Same_l0 R n a b (i : Nat) h K0 Kr = K0 h
  | 0, n, i, hi, hn, K0, Kr => by
    obtain ⟨n, rfl⟩ : ∃ k, n = k + 1 := ⟨n - 1, by omega⟩
    rw [F_ref01_Same_l0_succ, decF (by rw [ra.n]; omega), condF]
  | k + 1, n, i, hi, hn, K0, Kr => by
    obtain ⟨n, rfl⟩ : ∃ k, n = k + 1 := ⟨n - 1, by omega⟩
    rw [F_ref01_Same_l0_succ, decT (by rw [ra.n]; omega), condT, ra.byte (by omega) (by omega), rb.byte (by omega) (by omega)]
    rw [bne_self_eq_false, condF, i64w (by omega), show ((i : Nat) : Int) + 1 = ((i + 1 : Nat) : Int) by omega]
    exact same_loopR ra rb hm R k n (i + 1) (by omega) (by omega) K0 Kr
theorem same_R {h : GH} {a b : Sl} {bs : List Int} (ra : Rd h a bs) (rb : Rd h b bs) {R : Nat} (hR : bs.length < R) (hm : bs.length < 274877906944) {β : Type} (K : Bool → GH → Option β) : F_ref01_Same R a b h K = K true h := by
  unfold F_ref01_Same; rw [F_ref01_Same_gen, ra.n, rb.n, bne_self_eq_false, condF]
  exact same_loopR ra rb hm R bs.length R 0 (by omega) hR _ _
theorem same_no {h : GH} {a b : Sl} {xs ys : List Int} (ra : Rd h a xs) (rb : Rd h b ys) (hne : xs.length ≠ ys.length) (R : Nat) {β : Type} (K : Bool → GH → Option β) : F_ref01_Same R a b h K = K false h := by
  unfold F_ref01_Same; rw [F_ref01_Same_gen, ra.n, rb.n, bne_iff_ne.2 (by omega), condT]
end Go.Proofs.Ytdmemmpkkibckaa.Gx

