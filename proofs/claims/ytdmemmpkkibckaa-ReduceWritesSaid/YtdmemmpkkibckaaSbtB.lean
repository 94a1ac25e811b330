/- rotate: two pieces side by side change places. No condition. -/
import Derived.Test.YtdmemmpkkibckaaSbtA
namespace Go.Proofs.Ytdmemmpkkibckaa.Gx.Sb
open Go Go.RowKit
set_option linter.unusedVariables false
set_option linter.unusedSimpArgs false
theorem swap_pieces {h : GH} {g : Nat} (hg : g < h.next) {R : Nat} (hR : 4000000 < R) (P X Y Z S : List Int) (hxz : X.length = Z.length) {L : Nat} (hL : L = (P ++ X ++ Y ++ Z ++ S).length) (hm : L ≤ 1000000) {a b n : Int} (ha : a = (P.length : Nat)) (hb : b = ((P.length + X.length + Y.length : Nat) : Int)) (hn : n = (X.length : Nat)) (p : Option Addr) {β : Type} (K : GH → Option β) :
    F_slices_swapRangeCmpFunc_byte_s1 R ⟨some ⟨g, 0, none⟩, L, L⟩ a b n p (Wr h g (P ++ X ++ Y ++ Z ++ S)) K = K (Wr h g (P ++ Z ++ Y ++ X ++ S)) := by
  subst ha hb hn hL
  rw [swap_range hg hR (by simp) (by simp; omega) hm, swpR_pieces P X Y Z S hxz]
theorem rotate_loop {h : GH} {g : Nat} (hg : g < h.next) {R : Nat} (hR : 4000000 < R) (p : Option Addr) {L : Nat} (hm : L ≤ 1000000) {m : Nat} : ∀ (n : Nat) (P A B S : List Int), A.length + B.length < n → 0 < A.length → 0 < B.length → L = (P ++ A ++ B ++ S).length → m = P.length + A.length →
    ∃ P' A' B' S' : List Int, A'.length = B'.length ∧ P' ++ B' ++ A' ++ S' = P ++ B ++ A ++ S ∧ m = P'.length + A'.length ∧ L = (P' ++ A' ++ B' ++ S').length ∧
      ∀ {β : Type} (K0 : Sl → Int → Option Addr → Int → GH → Option β), F_slices_rotateCmpFunc_byte_s1_l0 (F_slices_swapRangeCmpFunc_byte_s1 R) R n ⟨some ⟨g, 0, none⟩, L, L⟩ (m : Nat) p (A.length : Nat) (B.length : Nat) (Wr h g (P ++ A ++ B ++ S)) K0
        = K0 ⟨some ⟨g, 0, none⟩, L, L⟩ (m : Nat) p (A'.length : Nat) (Wr h g (P' ++ A' ++ B' ++ S')) := by
  intro n
  induction n with
  | zero => intro P A B S h1; omega
  | succ n ih =>
    intro P A B S h1 h2 h3 hL hmm
    have hLn : L = P.length + A.length + B.length + S.length := by rw [hL]; simp; omega
    by_cases he : A.length = B.length
    · refine ⟨P, A, B, S, he, rfl, hmm, hL, fun K0 => ?_⟩
      rw [F_slices_rotateCmpFunc_byte_s1_l0_succ, he, bne_self_eq_false, condF]
    · have hne : (((A.length : Nat) : Int) != ((B.length : Nat) : Int)) = true := by rw [bne_iff_ne]; omega
      by_cases hgt : A.length > B.length
      · obtain ⟨A1, A2, rfl, hA1⟩ : ∃ A1 A2, A = A1 ++ A2 ∧ A1.length = B.length := ⟨A.take B.length, A.drop B.length, (List.take_append_drop _ _).symm, by simp; omega⟩
        rw [List.length_append] at *
        obtain ⟨P', A', B', S', q1, q2, q3, q4, q5⟩ := ih (P ++ B) A2 A1 S (by omega) (by omega) (by omega) (by simp; omega) (by simp; omega)
        refine ⟨P', A', B', S', q1, by rw [q2]; simp, q3, q4, fun K0 => ?_⟩
        rw [F_slices_rotateCmpFunc_byte_s1_l0_succ, hne, condT, decT (by omega), condT]
        have := swap_pieces hg hR P A1 A2 B S hA1 (L := L) (by simp; omega) hm (a := IntKind.wrap .i64 (((m : Nat) : Int) - ((A1.length + A2.length : Nat) : Int))) (b := (m : Nat)) (n := (B.length : Nat)) (by rw [i64w (by omega)]; omega) (by omega) (by omega) p
          (β := _) (fun h15 => F_slices_rotateCmpFunc_byte_s1_l0 (F_slices_swapRangeCmpFunc_byte_s1 R) R n ⟨some ⟨g, 0, none⟩, L, L⟩ (m : Nat) p (IntKind.wrap .i64 (((A1.length + A2.length : Nat) : Int) - ((B.length : Nat) : Int))) (B.length : Nat) h15 K0)
        rw [show P ++ (A1 ++ A2) ++ B ++ S = P ++ A1 ++ A2 ++ B ++ S by simp]
        refine Eq.trans this ?_
        rw [show IntKind.wrap .i64 (((A1.length + A2.length : Nat) : Int) - ((B.length : Nat) : Int)) = (A2.length : Nat) by rw [i64w (by omega)]; omega, ← hA1]
        exact q5 K0
      · obtain ⟨B1, B2, rfl, hB2⟩ : ∃ B1 B2, B = B1 ++ B2 ∧ A.length = B2.length := ⟨B.take (B.length - A.length), B.drop (B.length - A.length), (List.take_append_drop _ _).symm, by simp; omega⟩
        rw [List.length_append] at *
        obtain ⟨P', A', B', S', q1, q2, q3, q4, q5⟩ := ih P B2 B1 (A ++ S) (by omega) (by omega) (by omega) (by simp; omega) (by omega)
        refine ⟨P', A', B', S', q1, by rw [q2]; simp, q3, q4, fun K0 => ?_⟩
        rw [F_slices_rotateCmpFunc_byte_s1_l0_succ, hne, condT, decF (by omega), condF]
        have := swap_pieces hg hR P A B1 B2 S hB2 (L := L) (by simp; omega) hm (a := IntKind.wrap .i64 (((m : Nat) : Int) - ((A.length : Nat) : Int))) (b := IntKind.wrap .i64 (IntKind.wrap .i64 (((m : Nat) : Int) + ((B1.length + B2.length : Nat) : Int)) - ((A.length : Nat) : Int))) (n := (A.length : Nat)) (by rw [i64w (by omega)]; omega) (by rw [i64w (x := ((m : Nat) : Int) + ((B1.length + B2.length : Nat) : Int)) (by omega), i64w (by omega)]; omega) (by omega) p
          (β := _) (fun h15 => F_slices_rotateCmpFunc_byte_s1_l0 (F_slices_swapRangeCmpFunc_byte_s1 R) R n ⟨some ⟨g, 0, none⟩, L, L⟩ (m : Nat) p (A.length : Nat) (IntKind.wrap .i64 (((B1.length + B2.length : Nat) : Int) - ((A.length : Nat) : Int))) h15 K0)
        rw [show P ++ A ++ (B1 ++ B2) ++ S = P ++ A ++ B1 ++ B2 ++ S by simp]
        refine Eq.trans this ?_
        rw [show IntKind.wrap .i64 (((B1.length + B2.length : Nat) : Int) - ((A.length : Nat) : Int)) = (B1.length : Nat) by rw [i64w (by omega)]; omega, hB2, show P ++ B2 ++ B1 ++ A ++ S = P ++ B2 ++ B1 ++ (A ++ S) by simp]
        exact q5 K0
theorem rotate_eq {h : GH} {g : Nat} (hg : g < h.next) {R : Nat} (hR : 4000000 < R) (p : Option Addr) (P A B S : List Int) {L : Nat} (hL : L = (P ++ A ++ B ++ S).length) (hm : L ≤ 1000000) (h2 : 0 < A.length) (h3 : 0 < B.length) {a m b : Int} (ha : a = (P.length : Nat)) (hmm : m = ((P.length + A.length : Nat) : Int)) (hb : b = ((P.length + A.length + B.length : Nat) : Int)) {β : Type} (K : GH → Option β) :
    F_slices_rotateCmpFunc_byte_s1 R ⟨some ⟨g, 0, none⟩, L, L⟩ a m b p (Wr h g (P ++ A ++ B ++ S)) K = K (Wr h g (P ++ B ++ A ++ S)) := by
  have hLn : L = P.length + A.length + B.length + S.length := by rw [hL]; simp; omega
  obtain ⟨P', A', B', S', q1, q2, q3, q4, q5⟩ := rotate_loop hg hR p hm R P A B S (by omega) h2 h3 hL rfl
  unfold F_slices_rotateCmpFunc_byte_s1; rw [F_slices_rotateCmpFunc_byte_s1_gen]
  rw [show IntKind.wrap .i64 (m - a) = (A.length : Nat) by rw [i64w (by omega)]; omega, show IntKind.wrap .i64 (b - m) = (B.length : Nat) by rw [i64w (by omega)]; omega, hmm, q5]
  have := swap_pieces hg hR P' A' [] B' S' q1 (L := L) (by rw [q4]; simp) hm (a := IntKind.wrap .i64 (((P.length + A.length : Nat) : Int) - ((A'.length : Nat) : Int))) (b := ((P.length + A.length : Nat) : Int)) (n := (A'.length : Nat)) (by rw [i64w (by omega)]; omega) (by simp; omega) rfl p K
  simp only [List.append_nil] at this
  rw [this, q2]
end Go.Proofs.Ytdmemmpkkibckaa.Gx.Sb

