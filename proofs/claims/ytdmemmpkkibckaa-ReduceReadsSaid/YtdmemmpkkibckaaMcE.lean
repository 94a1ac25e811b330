/- What a machine answers to any bytes: the law's run. No condition. -/
import Derived.Test.YtdmemmpkkibckaaMcD
import Derived.Test.YtdmemmpkkibckaaRow
namespace Go.Proofs.Ytdmemmpkkibckaa.Gx
open Go Go.RowKit
set_option linter.unusedVariables false
variable {R : Nat}
section
variable {β : Type}
theorem within_s {i : Int} {n : Nat} (h0 : 0 ≤ i) (h1 : i < n) (K : Option β) : within i n K = K := by
  rw [within, decide_eq_true h0, decide_eq_true h1, condT, condT]
def newR (f size : Int) : Bool := decide (1 ≤ f ∧ f ≤ 4 ∧ 0 ≤ size)
theorem new_own {f size : Int} (hn : newR f size = true) (h : GH) : ∃ h' m g, (∀ (β : Type) (K : Option Addr → Int → GH → Option β), (F_dle_New R) f size h K = K (some ⟨m, 0, none⟩) 0 h') ∧ Mach h' m g f size 0 0 0 ⟨none, 0, 0⟩ [] ∧ Keep h h' [] ∧ ∀ k ∈ ownM m g ⟨none, 0, 0⟩, h.next ≤ k := by
  have hq := of_decide_eq_true hn
  refine ⟨(h.push (.row ⟨outCells size ⟨none, 0, 0⟩, 0, false⟩)).push (.row ⟨machCells f h.next 0 0 0, 0, false⟩), h.next + 1, h.next, fun β K => ?_, ⟨look_push_new, ⟨by rw [look_push_old (by simp [next_push])]; exact look_push_new, ⟨rfl, rfl, .inl ⟨rfl, rfl⟩⟩⟩⟩, (keep_push _ _ _).trans (keep_push _ _ []) (by simp), fun k hk => by simp [ownM, ownO, rowsOf] at hk; omega⟩
  unfold F_dle_New; rw [F_dle_New_gen]
  unfold F_dle_right; rw [F_dle_right_gen, decide_eq_true (show f ≥ 1 by omega), condT, decide_eq_true (show f ≤ 4 by omega), notT, condF]
  unfold F_hist_New; rw [F_hist_New_gen, decide_eq_false (show ¬ (65536 : Int) < 1 by omega), condF, decide_eq_false (show ¬ (65536 : Int) > 65536 by omega), condF, decide_eq_false (show ¬ size < 0 by omega), condF, gnew_eq rfl, bne_self_eq_false, condF, gnew_eq rfl]
  rfl
theorem new_ref {f size : Int} (hn : newR f size = true) (h : GH) : ∃ h' m g, (∀ (β : Type) (K : Option Addr → Int → GH → Option β), (F_ref13_New R) f size h K = K (some ⟨m, 0, none⟩) 0 h') ∧ Mach h' m g f size 0 0 0 ⟨none, 0, 0⟩ [] ∧ Keep h h' [] ∧ ∀ k ∈ ownM m g ⟨none, 0, 0⟩, h.next ≤ k := by
  have hq := of_decide_eq_true hn
  refine ⟨(h.push (.row ⟨outCells size ⟨none, 0, 0⟩, 0, false⟩)).push (.row ⟨machCells f h.next 0 0 0, 0, false⟩), h.next + 1, h.next, fun β K => ?_, ⟨look_push_new, ⟨by rw [look_push_old (by simp [next_push])]; exact look_push_new, ⟨rfl, rfl, .inl ⟨rfl, rfl⟩⟩⟩⟩, (keep_push _ _ _).trans (keep_push _ _ []) (by simp), fun k hk => by simp [ownM, ownO, rowsOf] at hk; omega⟩
  unfold F_ref13_New; rw [F_ref13_New_gen, decide_eq_false (show ¬ f < 1 by omega), condF, decide_eq_false (show ¬ f > 4 by omega), condF, decide_eq_false (show ¬ size < 0 by omega), condF, gnew_eq rfl, gnew_eq rfl]
  rfl
theorem new_not {f size : Int} (hn : newR f size = false) (h : GH) (K : Option Addr → Int → GH → Option β) : (F_dle_New R) f size h K = K none 2 h ∧ (F_ref13_New R) f size h K = K none 2 h := by
  have hq := of_decide_eq_false hn
  constructor
  · unfold F_dle_New; rw [F_dle_New_gen]
    unfold F_dle_right; rw [F_dle_right_gen]
    by_cases h1 : f ≥ 1
    · rw [decide_eq_true h1, condT]
      by_cases h2 : f ≤ 4
      · rw [decide_eq_true h2, notT, condF]
        unfold F_hist_New; rw [F_hist_New_gen, decide_eq_false (show ¬ (65536 : Int) < 1 by omega), condF, decide_eq_false (show ¬ (65536 : Int) > 65536 by omega), condF, decide_eq_true (show size < 0 by omega), condT, bne_iff_ne.2 (by omega), condT]
      · rw [decide_eq_false h2, notF, condT]
    · rw [decide_eq_false h1, condF, notF, condT]
  · unfold F_ref13_New; rw [F_ref13_New_gen]
    by_cases h1 : f < 1
    · rw [decide_eq_true h1, condT]
    · rw [decide_eq_false h1, condF]
      by_cases h2 : f > 4
      · rw [decide_eq_true h2, condT]
      · rw [decide_eq_false h2, condF, decide_eq_true (show size < 0 by omega), condT]
end
end Go.Proofs.Ytdmemmpkkibckaa.Gx

