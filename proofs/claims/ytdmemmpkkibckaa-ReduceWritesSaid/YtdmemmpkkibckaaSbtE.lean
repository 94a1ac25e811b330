/- The merge of two sorted pieces in place: its five loops. No condition. -/
import Derived.Test.YtdmemmpkkibckaaSbtD
namespace Go.Proofs.Ytdmemmpkkibckaa.Gx.Sb
open Go Go.RowKit
set_option linter.unusedVariables false
set_option linter.unusedSimpArgs false
theorem half_eq (x y : Nat) (hx : x + y ≤ 4000000) : IntKind.wrap .i64 (shrI .u64 (IntKind.wrap .u64 (IntKind.wrap .i64 (((x : Nat) : Int) + ((y : Nat) : Int)))) 1) = (((x + y) / 2 : Nat) : Int) := by
  have h1 : min (1 : Int).toNat (IntKind.bits .u64) = 1 := by decide
  rw [i64w (x := ((x : Nat) : Int) + ((y : Nat) : Int)) (by omega), IntWalk.u64_in _ (by omega), shrI, h1, Int.fdiv_eq_ediv_of_nonneg _ (by omega), i64w (by omega)]
  omega
/-- the least place for which the test fails, halving -/
def bsr (p : Nat → Bool) : Nat → Nat → Nat → Nat
  | 0, i, j => i
  | n + 1, i, j => if i < j then (if p ((i + j) / 2) = true then bsr p n ((i + j) / 2 + 1) j else bsr p n i ((i + j) / 2)) else i
theorem bsr_spec (p : Nat → Bool) : ∀ n i j, i ≤ j → j - i < n → i ≤ bsr p n i j ∧ bsr p n i j ≤ j ∧ (bsr p n i j = i ∨ p (bsr p n i j - 1) = true) ∧ (bsr p n i j = j ∨ p (bsr p n i j) = false)
  | 0, i, j, h, hn => by omega
  | n + 1, i, j, h, hn => by
    unfold bsr
    by_cases c : i < j
    · rw [if_pos c]
      cases hp : p ((i + j) / 2) with
      | true =>
        rw [if_pos rfl]
        obtain ⟨a1, a2, a3, a4⟩ := bsr_spec p n ((i + j) / 2 + 1) j (by omega) (by omega)
        refine ⟨by omega, a2, ?_, a4⟩
        rcases a3 with e | e
        · right; rw [e, Nat.add_sub_cancel]; exact hp
        · exact .inr e
      | false =>
        rw [if_neg (by simp)]
        obtain ⟨a1, a2, a3, a4⟩ := bsr_spec p n i ((i + j) / 2) (by omega) (by omega)
        refine ⟨a1, by omega, a3, ?_⟩
        rcases a4 with e | e
        · right; rw [e]; exact hp
        · exact .inr e
    · rw [if_neg c]
      exact ⟨Nat.le_refl _, h, .inl rfl, .inl (by omega)⟩
theorem within_n {β : Type} {i n : Nat} (h : i < n) (K : Option β) : within ((i : Nat) : Int) n K = K := within_t (by omega) (by omega) K
theorem InK.get {keys zs : List Int} (h : InK keys zs) {i : Nat} (hi : i < zs.length) : 0 ≤ zs.getD i 0 ∧ zs.getD i 0 < keys.length := by
  rw [List.getD_eq_getElem?_getD, List.getElem?_eq_getElem hi]; exact h _ (List.getElem_mem hi)
theorem i64p1 {x : Nat} (h : x ≤ 4000000) : IntKind.wrap .i64 (((x : Nat) : Int) + 1) = ((x + 1 : Nat) : Int) := by rw [i64w (by omega)]; rfl
section
variable {h : GH} {g gp : Nat} (hg : g < h.next) {ls : Sl} {keys : List Int} (k : Keys h gp ls keys) (hgp : gp ≠ g) (hgl : g ∉ rowsOf ls) {R : Nat} {zs : List Int} (hm : zs.length ≤ 1000000) (hin : InK keys zs)
include hg k hgp hgl hm hin
theorem sm_l0 {β : Type} (F2 F3 : Sl → Int → Int → Int → Option Addr → GH → (GH → Option β) → Option β) {a : Nat} (ha : a < zs.length) (K0 : Sl → Int → Int → GH → Option β) : ∀ n i j, j ≤ zs.length → i ≤ j → j - i < n →
    F_slices_symMergeCmpFunc_byte_s1_l0 (F_follow_counts_ordered_1_s1 R) F2 F3 R n ⟨some ⟨g, 0, none⟩, zs.length, zs.length⟩ (a : Nat) (some ⟨gp, 0, none⟩) (i : Nat) (j : Nat) (Wr h g zs) K0
      = K0 ⟨some ⟨g, 0, none⟩, zs.length, zs.length⟩ (a : Nat) (bsr (fun c => ltK keys (zs.getD c 0) (zs.getD a 0)) n i j : Nat) (Wr h g zs)
  | 0, i, j, h1, h2, h3 => by omega
  | n + 1, i, j, h1, h2, h3 => by
    rw [F_slices_symMergeCmpFunc_byte_s1_l0_succ]
    unfold bsr
    by_cases c : i < j
    · rw [decT (by omega), condT, if_pos c]
      simp only [exA_s, half_eq i j (by omega), Int.toNat_natCast, within_n (show (i + j) / 2 < zs.length by omega), within_n ha]
      rw [Wr.get hg (i := (i + j) / 2) (by omega), exI_s, Wr.get hg ha, exI_s, less_eq (k.wr hgp hgl zs) R (hin.get (by omega)) (hin.get ha), cmp_lt]
      cases hp : ltK keys (zs.getD ((i + j) / 2) 0) (zs.getD a 0) with
      | true => rw [condT, if_pos rfl, i64p1 (by omega)]; exact sm_l0 F2 F3 ha K0 n _ _ h1 (by omega) (by omega)
      | false => rw [condF, if_neg (by simp)]; exact sm_l0 F2 F3 ha K0 n _ _ (by omega) (by omega) (by omega)
    · rw [decF (by omega), condF, if_neg c]
theorem sm_l2 {β : Type} (F2 F3 : Sl → Int → Int → Int → Option Addr → GH → (GH → Option β) → Option β) {a : Nat} (ha : a < zs.length) (K0 : Sl → Int → Int → GH → Option β) : ∀ n i j, j ≤ zs.length → i ≤ j → j - i < n →
    F_slices_symMergeCmpFunc_byte_s1_l2 (F_follow_counts_ordered_1_s1 R) F2 F3 R n ⟨some ⟨g, 0, none⟩, zs.length, zs.length⟩ (a : Nat) (some ⟨gp, 0, none⟩) (i : Nat) (j : Nat) (Wr h g zs) K0
      = K0 ⟨some ⟨g, 0, none⟩, zs.length, zs.length⟩ (a : Nat) (bsr (fun c => !ltK keys (zs.getD a 0) (zs.getD c 0)) n i j : Nat) (Wr h g zs)
  | 0, i, j, h1, h2, h3 => by omega
  | n + 1, i, j, h1, h2, h3 => by
    rw [F_slices_symMergeCmpFunc_byte_s1_l2_succ]
    unfold bsr
    by_cases c : i < j
    · rw [decT (by omega), condT, if_pos c]
      simp only [exA_s, half_eq i j (by omega), Int.toNat_natCast, within_n (show (i + j) / 2 < zs.length by omega), within_n ha]
      rw [Wr.get hg ha, exI_s, Wr.get hg (i := (i + j) / 2) (by omega), exI_s, less_eq (k.wr hgp hgl zs) R (hin.get ha) (hin.get (by omega)), cmp_lt]
      cases hp : ltK keys (zs.getD a 0) (zs.getD ((i + j) / 2) 0) with
      | false => rw [notF, condT, if_pos rfl, i64p1 (by omega)]; exact sm_l2 F2 F3 ha K0 n _ _ h1 (by omega) (by omega)
      | true => rw [notT, condF, if_neg (by simp)]; exact sm_l2 F2 F3 ha K0 n _ _ (by omega) (by omega) (by omega)
    · rw [decF (by omega), condF, if_neg c]
theorem sm_l4 {β : Type} (F2 F3 : Sl → Int → Int → Int → Option Addr → GH → (GH → Option β) → Option β) {p : Nat} (hp : p < 2 * zs.length) (y1 y2 y3 y4 y5 : Int) (K0 : Sl → Int → Int → Int → Option Addr → Int → Int → Int → GH → Option β) : ∀ n i j, p < zs.length + i → j ≤ p + 1 → j ≤ zs.length → i ≤ j → j - i < n →
    F_slices_symMergeCmpFunc_byte_s1_l4 (F_follow_counts_ordered_1_s1 R) F2 F3 R n ⟨some ⟨g, 0, none⟩, zs.length, zs.length⟩ y1 y2 y3 (some ⟨gp, 0, none⟩) y4 y5 (i : Nat) (j : Nat) (p : Nat) (Wr h g zs) K0
      = K0 ⟨some ⟨g, 0, none⟩, zs.length, zs.length⟩ y1 y2 y3 (some ⟨gp, 0, none⟩) y4 y5 (bsr (fun c => !ltK keys (zs.getD (p - c) 0) (zs.getD c 0)) n i j : Nat) (Wr h g zs)
  | 0, i, j, h1, h2, h3, h4, h5 => by omega
  | n + 1, i, j, h1, h2, h3, h4, h5 => by
    rw [F_slices_symMergeCmpFunc_byte_s1_l4_succ]
    unfold bsr
    by_cases c : i < j
    · have ep : IntKind.wrap .i64 (((p : Nat) : Int) - (((i + j) / 2 : Nat) : Int)) = ((p - (i + j) / 2 : Nat) : Int) := by rw [i64w (by omega)]; omega
      rw [decT (by omega), condT, if_pos c]
      simp only [exA_s, half_eq i j (by omega), ep, Int.toNat_natCast, within_n (show (i + j) / 2 < zs.length by omega), within_n (show p - (i + j) / 2 < zs.length by omega)]
      rw [Wr.get hg (i := p - (i + j) / 2) (by omega), exI_s, Wr.get hg (i := (i + j) / 2) (by omega), exI_s, less_eq (k.wr hgp hgl zs) R (hin.get (by omega)) (hin.get (by omega)), cmp_lt]
      cases hlt : ltK keys (zs.getD (p - (i + j) / 2) 0) (zs.getD ((i + j) / 2) 0) with
      | false => rw [notF, condT, if_pos rfl, i64p1 (by omega)]; exact sm_l4 F2 F3 hp y1 y2 y3 y4 y5 K0 n _ _ (by omega) (by omega) h3 (by omega) (by omega)
      | true => rw [notT, condF, if_neg (by simp)]; exact sm_l4 F2 F3 hp y1 y2 y3 y4 y5 K0 n _ _ h1 (by omega) (by omega) (by omega) (by omega)
    · rw [decF (by omega), condF, if_neg c]
end
theorem set_two (P S : List Int) (x y : Int) : ((P ++ x :: y :: S).set P.length y).set (P.length + 1) x = P ++ y :: x :: S := by
  rw [List.set_append_right _ _ (Nat.le_refl _), Nat.sub_self, List.set_cons_zero, List.set_append_right _ _ (by omega), show P.length + 1 - P.length = 1 by omega]; rfl
theorem set_two' (P S : List Int) (x y : Int) : ((P ++ x :: y :: S).set (P.length + 1) x).set P.length y = P ++ y :: x :: S := by
  rw [List.set_append_right _ _ (by omega), show P.length + 1 - P.length = 1 by omega, List.set_cons_succ, List.set_cons_zero, List.set_append_right _ _ (Nat.le_refl _), Nat.sub_self, List.set_cons_zero]
theorem getD_at1 (P S : List Int) (x y : Int) : (P ++ x :: y :: S).getD (P.length + 1) 0 = y := by
  rw [List.getD_eq_getElem?_getD, List.getElem?_append_right (by omega), show P.length + 1 - P.length = 1 by omega]; rfl
section
variable {h : GH} {g : Nat} (hg : g < h.next) {R : Nat} {L : Nat} (hm : L ≤ 1000000)
include hg hm
theorem sm_l1 {β : Type} (F1 : Int → Int → Option Addr → GH → (Int → GH → Option β) → Option β) (F2 F3 : Sl → Int → Int → Int → Option Addr → GH → (GH → Option β) → Option β) (x : Int) (S : List Int) (K0 : GH → Option β) : ∀ (B P : List Int) n, B.length < n → L = (P ++ [x] ++ B ++ S).length →
    F_slices_symMergeCmpFunc_byte_s1_l1 F1 F2 F3 R n ⟨some ⟨g, 0, none⟩, L, L⟩ ((P.length + 1 + B.length : Nat) : Int) (P.length : Nat) (Wr h g (P ++ [x] ++ B ++ S)) K0 = K0 (Wr h g (P ++ B ++ [x] ++ S))
  | [], P, n, h1, h2 => by
    obtain ⟨n, rfl⟩ : ∃ q, n = q + 1 := ⟨n - 1, by simp at h1; omega⟩
    simp at h2
    rw [F_slices_symMergeCmpFunc_byte_s1_l1_succ, i64w (by simp; omega), decF (by simp), condF]; simp
  | y :: B, P, n, h1, h2 => by
    obtain ⟨n, rfl⟩ : ∃ q, n = q + 1 := ⟨n - 1, by simp at h1; omega⟩
    have hLn : L = P.length + 1 + (B.length + 1) + S.length := by rw [h2]; simp; omega
    have hz : P ++ [x] ++ y :: B ++ S = P ++ x :: y :: (B ++ S) := by simp
    have hl : (P ++ x :: y :: (B ++ S)).length = L := by rw [hLn]; simp; omega
    rw [F_slices_symMergeCmpFunc_byte_s1_l1_succ, i64w (by simp; omega), decT (by simp; omega), condT]
    simp only [exA_s, i64p1 (show P.length ≤ 4000000 by omega), Int.toNat_natCast, within_n (show P.length < L by omega), within_n (show P.length + 1 < L by omega)]
    rw [hz, Wr.get hg (i := P.length + 1) (by omega), exI_s, Wr.get hg (i := P.length) (by omega), exI_s, getD_at, getD_at1, Wr.put hg (i := P.length) (by omega), Wr.put hg (i := P.length + 1) (by simp), set_two]
    have := sm_l1 F1 F2 F3 x S K0 B (P ++ [y]) n (by simp at h1; omega) (by rw [hLn]; simp; omega)
    simp only [List.length_append, List.length_singleton, List.length_cons, List.append_assoc, List.cons_append, List.nil_append] at this ⊢
    rw [show P.length + 1 + (B.length + 1) = P.length + 1 + 1 + B.length by omega]
    exact this
theorem sm_l3 {β : Type} (F1 : Int → Int → Option Addr → GH → (Int → GH → Option β) → Option β) (F2 F3 : Sl → Int → Int → Int → Option Addr → GH → (GH → Option β) → Option β) (x : Int) (P : List Int) (K0 : GH → Option β) : ∀ (A S : List Int) n, A.length < n → L = (P ++ A.reverse ++ [x] ++ S).length →
    F_slices_symMergeCmpFunc_byte_s1_l3 F1 F2 F3 R n ⟨some ⟨g, 0, none⟩, L, L⟩ (P.length : Nat) ((P.length + A.length : Nat) : Int) (Wr h g (P ++ A.reverse ++ [x] ++ S)) K0 = K0 (Wr h g (P ++ [x] ++ A.reverse ++ S))
  | [], S, n, h1, h2 => by
    obtain ⟨n, rfl⟩ : ∃ q, n = q + 1 := ⟨n - 1, by simp at h1; omega⟩
    rw [F_slices_symMergeCmpFunc_byte_s1_l3_succ, decF (by simp), condF]; simp
  | y :: A, S, n, h1, h2 => by
    obtain ⟨n, rfl⟩ : ∃ q, n = q + 1 := ⟨n - 1, by simp at h1; omega⟩
    have hLn : L = P.length + (A.length + 1) + 1 + S.length := by rw [h2]; simp; omega
    have hz : P ++ (y :: A).reverse ++ [x] ++ S = (P ++ A.reverse) ++ y :: x :: S := by simp
    have hq : (P ++ A.reverse).length = P.length + A.length := by simp
    have hl : ((P ++ A.reverse) ++ y :: x :: S).length = L := by rw [hLn]; simp; omega
    have e1 : IntKind.wrap .i64 (((P.length + (A.length + 1) : Nat) : Int) - 1) = ((P.length + A.length : Nat) : Int) := by rw [i64w (by omega)]; omega
    rw [F_slices_symMergeCmpFunc_byte_s1_l3_succ, List.length_cons, decT (by omega), condT]
    simp only [exA_s, e1, Int.toNat_natCast, within_n (show P.length + A.length < L by omega), within_n (show P.length + (A.length + 1) < L by omega)]
    have p1 := getD_at (P ++ A.reverse) (x :: S) y
    have p2 := getD_at1 (P ++ A.reverse) S y x
    have p3 := set_two' (P ++ A.reverse) S y x
    rw [hq] at p1 p2 p3
    rw [hz, Wr.get hg (i := P.length + A.length) (by omega), exI_s, Wr.get hg (i := P.length + (A.length + 1)) (by omega), exI_s, p1, show P.length + (A.length + 1) = P.length + A.length + 1 by omega, p2, Wr.put hg (i := P.length + A.length + 1) (by omega), Wr.put hg (i := P.length + A.length) (by rw [List.length_set]; omega), p3]
    have := sm_l3 F1 F2 F3 x P K0 A (y :: S) n (by simp at h1; omega) (by rw [hLn]; simp; omega)
    rw [show (P ++ A.reverse) ++ x :: y :: S = P ++ A.reverse ++ [x] ++ y :: S by simp]
    refine Eq.trans this ?_
    simp
end
end Go.Proofs.Ytdmemmpkkibckaa.Gx.Sb

