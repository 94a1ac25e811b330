/- Insertion sort of a piece. No condition. -/
import Derived.Test.YtdmemmpkkibckaaSbtC
namespace Go.Proofs.Ytdmemmpkkibckaa.Gx.Sb
open Go Go.RowKit
set_option linter.unusedVariables false
set_option linter.unusedSimpArgs false
/-- x ahead of y by its key -/
def ltK (keys : List Int) (x y : Int) : Bool := decide (keys.getD x.toNat 0 < keys.getD y.toNat 0)
theorem cmp_lt (keys : List Int) (x y : Int) : decide (cmpI (keys.getD x.toNat 0) (keys.getD y.toNat 0) < 0) = ltK keys x y := by
  unfold cmpI ltK
  by_cases c1 : keys.getD x.toNat 0 < keys.getD y.toNat 0
  · rw [if_pos c1, decT c1]; rfl
  · rw [if_neg c1, decF c1]
    by_cases c2 : keys.getD x.toNat 0 > keys.getD y.toNat 0
    · rw [if_pos c2]; rfl
    · rw [if_neg c2]; rfl
/-- x moved down behind what is not greater (rows turned round) -/
def bub (keys : List Int) : List Int → Int → List Int
  | [], x => [x]
  | y :: r, x => if ltK keys x y = true then y :: bub keys r x else x :: y :: r
theorem bub_length (keys : List Int) (x : Int) : ∀ r, (bub keys r x).length = r.length + 1
  | [] => rfl
  | y :: r => by unfold bub; split <;> simp [bub_length keys x r]
def InK (keys : List Int) (zs : List Int) : Prop := ∀ x ∈ zs, 0 ≤ x ∧ x < keys.length
theorem getD_at (P S : List Int) (x : Int) : (P ++ x :: S).getD P.length 0 = x := by
  rw [List.getD_eq_getElem?_getD, List.getElem?_append_right (Nat.le_refl _), Nat.sub_self]; rfl
theorem bub_loop {h : GH} {g gp : Nat} (hg : g < h.next) {ls : Sl} {keys : List Int} (k : Keys h gp ls keys) (hgp : gp ≠ g) (hgl : g ∉ rowsOf ls) {R : Nat} {L : Nat} (hm : L ≤ 1000000) (P : List Int) (b i : Int) : ∀ (r S : List Int) (x : Int) (n : Nat), r.length < n → L = (P ++ r.reverse ++ [x] ++ S).length → InK keys (P ++ r.reverse ++ [x] ++ S) →
    ∀ {β : Type} (K2 : Sl → Int → Int → Option Addr → Int → GH → Option β), F_slices_insertionSortCmpFunc_byte_s1_l1 (F_follow_counts_ordered_1_s1 R) R n ⟨some ⟨g, 0, none⟩, L, L⟩ (P.length : Nat) b (some ⟨gp, 0, none⟩) i ((P.length + r.length : Nat) : Int) (Wr h g (P ++ r.reverse ++ [x] ++ S)) K2
      = K2 ⟨some ⟨g, 0, none⟩, L, L⟩ (P.length : Nat) b (some ⟨gp, 0, none⟩) i (Wr h g (P ++ (bub keys r x).reverse ++ S)) := by
  intro r
  induction r with
  | nil =>
    intro S x n hn hL hin β K2
    obtain ⟨n, rfl⟩ : ∃ q, n = q + 1 := ⟨n - 1, by simp at hn; omega⟩
    rw [F_slices_insertionSortCmpFunc_byte_s1_l1_succ, decF (by simp), condF]; simp [bub]
  | cons y r ih =>
    intro S x n hn hL hin β K2
    obtain ⟨n, rfl⟩ : ∃ q, n = q + 1 := ⟨n - 1, by simp at hn; omega⟩
    have hLn : L = P.length + (r.length + 1) + 1 + S.length := by rw [hL]; simp; omega
    have hz : P ++ (y :: r).reverse ++ [x] ++ S = (P ++ r.reverse ++ [y]) ++ x :: S := by simp
    have hz2 : P ++ (y :: r).reverse ++ [x] ++ S = (P ++ r.reverse) ++ y :: (x :: S) := by simp
    have g1 : (P ++ (y :: r).reverse ++ [x] ++ S).getD (P.length + (r.length + 1)) 0 = x := by
      rw [hz]; have := getD_at (P ++ r.reverse ++ [y]) S x; rwa [show (P ++ r.reverse ++ [y]).length = P.length + (r.length + 1) by simp [Nat.add_assoc]] at this
    have g2 : (P ++ (y :: r).reverse ++ [x] ++ S).getD (P.length + r.length) 0 = y := by
      rw [hz2]; have := getD_at (P ++ r.reverse) (x :: S) y; rwa [show (P ++ r.reverse).length = P.length + r.length by simp] at this
    have hx := hin x (by simp)
    have hy := hin y (by simp)
    have hzl : (P ++ (y :: r).reverse ++ [x] ++ S).length = L := hL.symm
    have ej : IntKind.wrap .i64 (((P.length + (r.length + 1) : Nat) : Int) - 1) = ((P.length + r.length : Nat) : Int) := by rw [i64w (by omega)]; omega
    have wj : ∀ {β : Type} (K : Option β), within (((P.length + (r.length + 1) : Nat)) : Int) L K = K := fun K => within_t (by omega) (by omega) K
    have wi : ∀ {β : Type} (K : Option β), within (((P.length + r.length : Nat)) : Int) L K = K := fun K => within_t (by omega) (by omega) K
    obtain ⟨zs, hzs⟩ : ∃ zs, zs = P ++ (y :: r).reverse ++ [x] ++ S := ⟨_, rfl⟩
    rw [← hzs] at g1 g2 hzl ⊢
    rw [F_slices_insertionSortCmpFunc_byte_s1_l1_succ, List.length_cons, decT (by omega), condT]
    simp only [exA_s, ej, Int.toNat_natCast]
    rw [wj, Wr.get hg (i := P.length + (r.length + 1)) (by omega), exI_s, wi, Wr.get hg (i := P.length + r.length) (by omega), exI_s, g1, g2, less_eq (k.wr hgp hgl zs) R hx hy, cmp_lt]
    cases hlt : ltK keys x y with
    | false =>
      rw [condF, hzs]
      simp [bub, hlt]
    | true =>
      rw [condT, wi, Wr.get hg (i := P.length + r.length) (by omega), exI_s, wj, Wr.get hg (i := P.length + (r.length + 1)) (by omega), exI_s, wj, Wr.put hg (i := P.length + (r.length + 1)) (by omega), wi, Wr.put hg (i := P.length + r.length) (by simp; omega), g1, g2]
      have hsw : (zs.set (P.length + (r.length + 1)) y).set (P.length + r.length) x = P ++ r.reverse ++ [x] ++ (y :: S) := by
        rw [hzs, hz, List.set_append_right _ _ (by simp [Nat.add_assoc])]
        rw [show P.length + (r.length + 1) - (P ++ r.reverse ++ [y]).length = 0 by simp [Nat.add_assoc]]
        rw [List.set_cons_zero, show (P ++ r.reverse ++ [y]) ++ y :: S = (P ++ r.reverse) ++ y :: (y :: S) by simp, List.set_append_right _ _ (by simp)]
        rw [show P.length + r.length - (P ++ r.reverse).length = 0 by simp, List.set_cons_zero]; simp
      rw [hsw]
      have := ih (y :: S) x n (by simp at hn; omega) (by rw [hLn]; simp; omega) (fun z hz => hin z (by simp at hz ⊢; rcases hz with h | h | h | h | h <;> simp [h])) K2
      rw [this]
      simp [bub, hlt]
/-- one thing more put into its place -/
def insK (keys : List Int) (acc : List Int) (x : Int) : List Int := (bub keys acc.reverse x).reverse
theorem insK_length (keys acc : List Int) (x : Int) : (insK keys acc x).length = acc.length + 1 := by simp [insK, bub_length]
theorem bub_mem (keys : List Int) (x z : Int) : ∀ r, z ∈ bub keys r x ↔ z = x ∨ z ∈ r
  | [] => by simp [bub]
  | y :: r => by
    unfold bub
    split
    · simp [bub_mem keys x z r]; constructor
      · rintro (h | h | h) <;> simp [h]
      · rintro (h | h | h) <;> simp [h]
    · simp
theorem insK_mem (keys acc : List Int) (x z : Int) : z ∈ insK keys acc x ↔ z = x ∨ z ∈ acc := by simp [insK, bub_mem]
theorem ins_loop {h : GH} {g gp : Nat} (hg : g < h.next) {ls : Sl} {keys : List Int} (k : Keys h gp ls keys) (hgp : gp ≠ g) (hgl : g ∉ rowsOf ls) {R : Nat} (hR : 4000000 < R) {L : Nat} (hm : L ≤ 1000000) (P S : List Int) : ∀ (B A : List Int) (n : Nat), B.length < n → L = (P ++ A ++ B ++ S).length → InK keys (P ++ A ++ B ++ S) →
    ∀ {β : Type} (K0 : GH → Option β), F_slices_insertionSortCmpFunc_byte_s1_l0 (F_follow_counts_ordered_1_s1 R) R n ⟨some ⟨g, 0, none⟩, L, L⟩ (P.length : Nat) ((P.length + A.length + B.length : Nat) : Int) (some ⟨gp, 0, none⟩) ((P.length + A.length : Nat) : Int) (Wr h g (P ++ A ++ B ++ S)) K0
      = K0 (Wr h g (P ++ B.foldl (insK keys) A ++ S)) := by
  intro B
  induction B with
  | nil =>
    intro A n hn hL hin β K0
    obtain ⟨n, rfl⟩ : ∃ q, n = q + 1 := ⟨n - 1, by simp at hn; omega⟩
    rw [F_slices_insertionSortCmpFunc_byte_s1_l0_succ, decF (by simp), condF]; simp
  | cons x B ih =>
    intro A n hn hL hin β K0
    obtain ⟨n, rfl⟩ : ∃ q, n = q + 1 := ⟨n - 1, by simp at hn; omega⟩
    have hLn : L = P.length + A.length + (B.length + 1) + S.length := by rw [hL]; simp; omega
    rw [F_slices_insertionSortCmpFunc_byte_s1_l0_succ, List.length_cons, decT (by omega), condT]
    have hb := bub_loop hg k hgp hgl (R := R) (β := β) (L := L) hm P (((P.length + A.length + (B.length + 1) : Nat)) : Int) (((P.length + A.length : Nat)) : Int) A.reverse (B ++ S) x R (by simp; omega) (by rw [hLn]; simp; omega) (fun z hz => hin z (by simp at hz ⊢; exact hz))
    rw [List.length_reverse, List.reverse_reverse] at hb
    rw [show P ++ A ++ x :: B ++ S = P ++ A ++ [x] ++ (B ++ S) by simp]
    refine Eq.trans (hb _) ?_
    have := ih (insK keys A x) n (by simp at hn; omega) (by rw [hLn]; simp [insK_length]; omega) (fun z hz => hin z (by
      simp [insK_mem] at hz ⊢
      rcases hz with h | (h | h) | h | h
      · exact .inl h
      · exact .inr (.inr (.inl h))
      · exact .inr (.inl h)
      · exact .inr (.inr (.inr (.inl h)))
      · exact .inr (.inr (.inr (.inr h))))) K0
    rw [insK_length] at this
    rw [i64w (by omega), show (((P.length + A.length : Nat)) : Int) + 1 = ((P.length + (A.length + 1) : Nat) : Int) by omega, show P.length + A.length + (B.length + 1) = P.length + (A.length + 1) + B.length by omega]
    rw [show P ++ (bub keys A.reverse x).reverse ++ (B ++ S) = P ++ insK keys A x ++ B ++ S by simp [insK]]
    exact this
theorem insertion_eq {h : GH} {g gp : Nat} (hg : g < h.next) {ls : Sl} {keys : List Int} (k : Keys h gp ls keys) (hgp : gp ≠ g) (hgl : g ∉ rowsOf ls) {R : Nat} (hR : 4000000 < R) {L : Nat} (hm : L ≤ 1000000) (P : List Int) (x : Int) (B S : List Int) (hL : L = (P ++ (x :: B) ++ S).length) (hin : InK keys (P ++ (x :: B) ++ S)) {a b : Int} (ha : a = (P.length : Nat)) (hb : b = ((P.length + (B.length + 1) : Nat) : Int)) {β : Type} (K : GH → Option β) :
    F_slices_insertionSortCmpFunc_byte_s1 R ⟨some ⟨g, 0, none⟩, L, L⟩ a b (some ⟨gp, 0, none⟩) (Wr h g (P ++ (x :: B) ++ S)) K = K (Wr h g (P ++ B.foldl (insK keys) [x] ++ S)) := by
  subst ha hb
  have hLn : L = P.length + (B.length + 1) + S.length := by rw [hL]; simp; omega
  unfold F_slices_insertionSortCmpFunc_byte_s1; rw [F_slices_insertionSortCmpFunc_byte_s1_gen]
  have := ins_loop hg k hgp hgl hR hm P S B [x] R (by omega) (by rw [hL]; simp) (fun z hz => hin z (by simpa using hz)) (β := β) (fun h47 => K h47)
  rw [List.length_singleton, show P.length + 1 + B.length = P.length + (B.length + 1) by omega, show P ++ [x] ++ B ++ S = P ++ (x :: B) ++ S by simp] at this
  rw [i64w (by omega), show (((P.length : Nat)) : Int) + 1 = ((P.length + 1 : Nat) : Int) from rfl]
  exact this
end Go.Proofs.Ytdmemmpkkibckaa.Gx.Sb

