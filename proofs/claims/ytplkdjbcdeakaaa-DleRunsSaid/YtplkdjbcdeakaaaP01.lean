/- What small functions of the document tell, as printed. -/
import Derived.Test.YtplkdjbcdeakaaaEv
import Derived.Test.YtplkdjbcdeakaaaQx1
import Derived.Test.YtplkdjbcdeakaaaQx4
namespace Go.Proofs.Ytplkdjbcdeakaaa.Q
open Go.RowKit Go.Proofs.YtplkdjbcdeakaaaW.PrintWords Go.Proofs.YtplkdjbcdeakaaaW.PrintLast Go.Proofs.YtplkdjbcdeakaaaW.PrintMore

theorem cut_f (l : List Int) (n : Nat) : duffelref01_Cut.f l n = some (l.take n) := by
  unfold duffelref01_Cut.f
  by_cases h : (l.length : Int) > n
  · rw [if_pos h, if_pos (by omega), if_pos (by omega)]; rfl
  · rw [if_neg h, List.take_of_length_le (by omega)]
theorem copy_f (l : List Int) (h : l.length < 140737488355328) : duffelref01_Copy.f l = some l := by
  unfold duffelref01_Copy.f
  rw [if_pos (by simpa using h)]; simp
def withinI (x lo hi : Int) : Int := if x < lo then lo else if x > hi then hi else x
theorem within_f (x lo hi : Int) : duffelref01_Within.f x lo hi = some (withinI x lo hi) := by
  unfold duffelref01_Within.f withinI
  split
  · rfl
  · split <;> rfl
theorem withinI_bd {x lo hi : Int} (h : lo ≤ hi) : lo ≤ withinI x lo hi ∧ withinI x lo hi ≤ hi := by
  unfold withinI
  split
  · omega
  · split <;> omega
theorem same01_f (xs ys : List Int) (hn : xs.length < 9223372036854775807) : Ev (fun k => duffelref01_Same.f k xs ys) (decide (xs = ys)) := by
  by_cases hl : xs.length = ys.length
  · refine Ev.congr (fun k => by rw [duffelref01_Same.f, if_pos (by omega)]) ?_
    refine evE ?_ (show decide (∀ j, j < xs.length → 0 ≤ j → xs.getD j 0 = ys.getD j 0) = _ by
      rw [decide_eq_decide]
      constructor
      · intro h
        apply List.ext_getElem hl
        intro j h1 h2
        have := h j h1 (Nat.zero_le _)
        simpa [List.getD_eq_getElem?_getD, h1, h2] using this
      · rintro rfl j _ _; rfl)
    have key : ∀ i, i ≤ xs.length → Ev (fun k => duffelref01_Same.l0 k xs ys (i : Int)) (decide (∀ j, j < xs.length → i ≤ j → xs.getD j 0 = ys.getD j 0)) := by
      intro i hi
      obtain ⟨d, hd⟩ : ∃ d, xs.length - i = d := ⟨_, rfl⟩
      induction d generalizing i with
      | zero =>
        refine evS (fun k => by rw [duffelref01_Same.l0, if_neg (by omega)]) ?_
        exact evE evR (by symm; rw [decide_eq_true_eq]; intro j h1 h2; omega)
      | succ d ih =>
        by_cases he : rd xs (i : Int) = rd ys (i : Int)
        · refine evS (fun k => by rw [duffelref01_Same.l0, if_pos (by omega), if_pos (by omega), if_pos (by omega), if_pos he, wrap_inc (by omega)]) ?_
          refine evE (ih (i + 1) (by omega) (by omega)) ?_
          rw [decide_eq_decide]
          constructor
          · intro h j h1 h2
            rcases Nat.lt_or_ge i j with h3 | h3
            · exact h j h1 h3
            · obtain rfl : i = j := by omega
              exact he
          · intro h j h1 h2
            exact h j h1 (by omega)
        · refine evS (fun k => by rw [duffelref01_Same.l0, if_pos (by omega), if_pos (by omega), if_pos (by omega), if_neg he]) ?_
          exact evE evR (by symm; rw [decide_eq_false_iff_not]; intro h; exact he (h i (by omega) (Nat.le_refl _)))
    exact key 0 (Nat.zero_le _)
  · refine Ev.congr (fun k => by rw [duffelref01_Same.f, if_neg (by omega)]) ?_
    exact evE evR (by symm; rw [decide_eq_false_iff_not]; rintro rfl; exact hl rfl)
end Go.Proofs.Ytplkdjbcdeakaaa.Q

