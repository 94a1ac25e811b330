/- Bytes that are the same, the document's word; how long the pieces of an archive are. No condition. -/
import Derived.Test.YtibngikhlgmhaaaDnG
import Derived.Test.YtibngikhlgmhaaaCutR
namespace Go.Proofs.Ytibngikhlgmhaaa.Gx
open Go Go.RowKit
set_option linter.unusedVariables false
set_option linter.unusedSimpArgs false
theorem rsame_loopD {h : GH} {a b : Sl} {xs ys : List Int} (ra : Rd h a xs) (rb : Rd h b ys) (hl : xs.length = ys.length) (hm : xs.length ≤ 2000000) (R : Nat) {β : Type} (K : Bool → GH → Option β) : ∀ (k n i : Nat), i + k = xs.length → k < n → F_ref01_Same_l0 R n a b (i : Nat) h (fun h13 => K true h13) (fun w14 h15 => K w14 h15) = K (decide (xs.drop i = ys.drop i)) h
  | 0, n, i, hi, hn => by
    obtain ⟨n, rfl⟩ : ∃ k, n = k + 1 := ⟨n - 1, by omega⟩
    rw [F_ref01_Same_l0_succ, decF (by rw [ra.n]; omega), condF, List.drop_eq_nil_of_le (by omega), List.drop_eq_nil_of_le (by omega), decT rfl]
  | k + 1, n, i, hi, hn => by
    obtain ⟨n, rfl⟩ : ∃ k, n = k + 1 := ⟨n - 1, by omega⟩
    have hx : xs.drop i = xs.getD i 0 :: xs.drop (i + 1) := by rw [List.drop_eq_getElem_cons (by omega), List.getD_eq_getElem?_getD, List.getElem?_eq_getElem (by omega), Option.getD_some]
    have hy : ys.drop i = ys.getD i 0 :: ys.drop (i + 1) := by rw [List.drop_eq_getElem_cons (by omega), List.getD_eq_getElem?_getD, List.getElem?_eq_getElem (by omega), Option.getD_some]
    rw [F_ref01_Same_l0_succ, decT (by rw [ra.n]; omega), condT, ra.byte (by omega) (by omega), rb.byte (by omega) (by omega), Int.toNat_natCast, bne_int]
    by_cases c : xs.getD i 0 = ys.getD i 0
    · rw [decF (by simpa using c), condF, i64w (by omega), show ((i : Nat) : Int) + 1 = ((i + 1 : Nat) : Int) by omega, rsame_loopD ra rb hl hm R K k n (i + 1) (by omega) (by omega), hx, hy]
      congr 1
      rw [c]
      simp
    · rw [decT (by simpa using c), condT, hx, hy, decF (fun q => c (List.cons.inj q).1)]
theorem rsameD {h : GH} {a b : Sl} {xs ys : List Int} (ra : Rd h a xs) (rb : Rd h b ys) (hm : xs.length ≤ 2000000) {R : Nat} (hR : 4000000 < R) {β : Type} (K : Bool → GH → Option β) : F_ref01_Same R a b h K = K (decide (xs = ys)) h := by
  unfold F_ref01_Same
  rw [F_ref01_Same_gen, ra.n, rb.n, bne_int]
  by_cases c : xs.length = ys.length
  · rw [decF (by omega), condF]
    have := rsame_loopD ra rb c hm R K xs.length R 0 (by omega) (by omega)
    rw [List.drop_zero, List.drop_zero, show ((0 : Nat) : Int) = 0 from rfl] at this
    exact this
  · rw [decT (by omega), condT, decF (fun q => c (by rw [q]))]
theorem cutL_len (bs : List Int) (p n : Nat) : (cutL bs p n).length ≤ bs.length := by unfold cutL; simp; omega
theorem rdCens_lens (bs : List Int) : ∀ (k p : Nat), (rdCens bs k p).2.1.length ≤ k ∧ ∀ c ∈ (rdCens bs k p).2.1, c.nm.length ≤ bs.length ∧ c.ex.length ≤ bs.length ∧ c.cm.length ≤ bs.length
  | 0, p => by simp [rdCens]
  | k + 1, p => by
    unfold rdCens
    split
    · simp
    · have ih := rdCens_lens bs k (p + cenLen bs p)
      refine ⟨by have := ih.1; simp only [List.length_cons]; omega, fun c hc => ?_⟩
      rcases List.mem_cons.1 hc with rfl | hc
      · exact ⟨cutL_len _ _ _, cutL_len _ _ _, cutL_len _ _ _⟩
      · exact ih.2 c hc
theorem rdLocs_len (bs : List Int) : ∀ (l : List Cn) (p : Nat), (rdLocs bs l p).2.1.length ≤ l.length ∧ ∀ it ∈ (rdLocs bs l p).2.1, it.c ∈ l ∧ it.ex.length ≤ bs.length ∧ it.da.length ≤ bs.length
  | [], p => by simp [rdLocs]
  | c :: l, p => by
    unfold rdLocs
    split
    · simp
    · have ih := rdLocs_len bs l (p + oneLen bs p)
      refine ⟨by have := ih.1; simp only [List.length_cons]; omega, fun it hi => ?_⟩
      rcases List.mem_cons.1 hi with rfl | hi
      · exact ⟨List.mem_cons_self, cutL_len _ _ _, cutL_len _ _ _⟩
      · exact ⟨List.mem_cons_of_mem _ (ih.2 it hi).1, (ih.2 it hi).2⟩
theorem censP_lens (bs : List Int) (k : Nat) : (censP bs k).2.length ≤ k ∧ ∀ c ∈ (censP bs k).2, c.nm.length ≤ bs.length ∧ c.ex.length ≤ bs.length ∧ c.cm.length ≤ bs.length := by
  unfold censP
  split
  · simp
  split
  · simp
  split
  · simp
  · exact rdCens_lens bs k 0
theorem scanP_len {bs : List Int} (hb : B8 bs) : (scanP bs).cm.length ≤ bs.length ∧ (scanP bs).its.length ≤ 65535 ∧ ∀ it ∈ (scanP bs).its, it.c.nm.length ≤ bs.length ∧ it.c.ex.length ≤ bs.length ∧ it.c.cm.length ≤ bs.length ∧ it.ex.length ≤ bs.length ∧ it.da.length ≤ bs.length := by
  unfold scanP
  split
  · simp
  split
  · simp
  split
  · simp
  split
  · simp
  have l1 := rdLocs_len (bs.take (scX bs).b6.toNat) (scCs bs).2 0
  have l2 := censP_lens ((bs.take (findE bs).toNat).drop (scX bs).b6.toNat) (scX bs).b4.toNat
  have n1 : (bs.take (scX bs).b6.toNat).length ≤ bs.length := by simp; omega
  have n2 : ((bs.take (findE bs).toNat).drop (scX bs).b6.toNat).length ≤ bs.length := by simp; omega
  have hb4 : (scX bs).b4.toNat ≤ 65535 := by
    have := (fld_bd hb ((findE bs).toNat + 10)).1
    show (fld bs ((findE bs).toNat + 10) 2).toNat ≤ _
    omega
  refine ⟨cutL_len _ _ _, Nat.le_trans (Nat.le_trans l1.1 l2.1) hb4, fun it hi => ?_⟩
  have hi := l1.2 it hi
  have hc := l2.2 _ hi.1
  exact ⟨Nat.le_trans hc.1 n2, Nat.le_trans hc.2.1 n2, Nat.le_trans hc.2.2 n2, Nat.le_trans hi.2.1 n1, Nat.le_trans hi.2.2 n1⟩
theorem lives26' {β : Type} (h : GH) (K : Bool → GH → Option β) : F_law26_lives h K = K true h := rfl
end Go.Proofs.Ytibngikhlgmhaaa.Gx

