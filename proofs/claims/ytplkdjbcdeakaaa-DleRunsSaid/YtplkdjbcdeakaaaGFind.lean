/- finder.Find in the print's words. Where the text is too long for the walk, nothing is said. -/
import Derived.Test.YtplkdjbcdeakaaaGTok
import Derived.Test.YtplkdjbcdeakaaaRef9b
namespace Go.Proofs.Ytplkdjbcdeakaaa.Q
open Go.RowKit Go.Proofs.YtplkdjbcdeakaaaW.PrintWords Go.Proofs.YtplkdjbcdeakaaaW.PrintLast Go.Proofs.YtplkdjbcdeakaaaW.PrintMore
set_option linter.unusedVariables false

def finder_Find.f (l0 : List Int) (a1_0 : Int) (a1_1 : Int) (a1_2 : Int) (a1_3 : Int) (a1_4 : Bool) : Option ((List (S67)) × Int) :=
  if smallText l0 then (if shapeOk a1_0 a1_1 a1_2 a1_3 then some ((findSpec l0 a1_1 a1_2 a1_0 a1_3 a1_4).map tokS, 0) else some ([], 2)) else none
theorem finder_Find.calls (A0 : Option Addr) (c0 : Nat) (l0 : List Int) (a1_0 : Int) (a1_1 : Int) (a1_2 : Int) (a1_3 : Int) (a1_4 : Bool) (r1 : List (S67)) (r2 : Int) (w : World) (hr0 : Kd.C (Kd.int .u8) w A0 l0.length l0) (hc0 : l0.length ≤ c0) (h : finder_Find.f l0 a1_0 a1_1 a1_2 a1_3 a1_4 = some (r1, r2)) :
    Calls Try.prog 35 #[.slice A0 l0.length c0, .agg #[.int .i64 a1_0, .int .i64 a1_1, .int .i64 a1_2, .int .i64 a1_3, .bool a1_4]] w fun e w' => ∃ v0_ : Value, e = .returned (.tuple #[v0_, .int .i64 r2]) ∧ Kd.R k67 67 w' w.heap.size (fun _ => True) v0_ r1 ∧ Below w.heap.size w w' := by
  unfold finder_Find.f at h
  by_cases hs : smallText l0 = true
  · rw [if_pos hs] at h
    obtain ⟨hn, hb⟩ := smallText_split hs
    by_cases hk : shapeOk a1_0 a1_1 a1_2 a1_3 = true
    · rw [if_pos hk] at h
      injection h with h
      injection h with e1 e2
      subst e1 e2
      refine (find_yes w A0 l0.length c0 a1_0 a1_1 a1_2 a1_3 a1_4 l0 hk (rn_of_C hr0) (fun x hx => bytesOk_get hb hx) hc0 hn).mono ?_
      rintro e w' ⟨v, rfl, hown, hbl⟩
      exact ⟨v, rfl, R_of_toks hown rfl, hbl⟩
    · rw [if_neg hk] at h
      injection h with h
      injection h with e1 e2
      subst e1 e2
      have hk : shapeOk a1_0 a1_1 a1_2 a1_3 = false := by simpa using hk
      refine (find_no w A0 l0.length c0 a1_0 a1_1 a1_2 a1_3 a1_4 hk).mono ?_
      rintro e w' ⟨rfl, hbl⟩
      exact ⟨_, rfl, Kd.R_nil _ _ _ _ _, hbl⟩
  · rw [if_neg hs] at h
    cases h
open Go.RowKit Go.Proofs.YtplkdjbcdeakaaaW.PrintWords Go.Proofs.YtplkdjbcdeakaaaW.PrintLast Go.Proofs.YtplkdjbcdeakaaaW.PrintMore
set_option linter.unusedVariables false

def duffelref09_Find.f (l0 : List Int) (a1_0 : Int) (a1_1 : Int) (a1_2 : Int) (a1_3 : Int) (a1_4 : Bool) : Option ((List (S67)) × Int) :=
  if smallText l0 then (if shapeOk a1_0 a1_1 a1_2 a1_3 then some ((findSpec l0 a1_1 a1_2 a1_0 a1_3 a1_4).map tokS, 0) else some ([], 2)) else none
theorem duffelref09_Find.calls (A0 : Option Addr) (c0 : Nat) (l0 : List Int) (a1_0 : Int) (a1_1 : Int) (a1_2 : Int) (a1_3 : Int) (a1_4 : Bool) (r1 : List (S67)) (r2 : Int) (w : World) (hr0 : Kd.C (Kd.int .u8) w A0 l0.length l0) (hc0 : l0.length ≤ c0) (h : duffelref09_Find.f l0 a1_0 a1_1 a1_2 a1_3 a1_4 = some (r1, r2)) :
    Calls Try.prog 37 #[.slice A0 l0.length c0, .agg #[.int .i64 a1_0, .int .i64 a1_1, .int .i64 a1_2, .int .i64 a1_3, .bool a1_4]] w fun e w' => ∃ v0_ : Value, e = .returned (.tuple #[v0_, .int .i64 r2]) ∧ Kd.R k67 67 w' w.heap.size (fun _ => True) v0_ r1 ∧ Below w.heap.size w w' := by
  unfold duffelref09_Find.f at h
  by_cases hs : smallText l0 = true
  · rw [if_pos hs] at h
    obtain ⟨hn, hb⟩ := smallText_split hs
    by_cases hk : shapeOk a1_0 a1_1 a1_2 a1_3 = true
    · rw [if_pos hk] at h
      injection h with h
      injection h with e1 e2
      subst e1 e2
      refine (rfind_yes w A0 l0.length c0 a1_0 a1_1 a1_2 a1_3 a1_4 l0 hk (rn_of_C hr0) hn).mono ?_
      rintro e w' ⟨v, rfl, hown, hbl⟩
      exact ⟨v, rfl, R_of_toks hown rfl, hbl⟩
    · rw [if_neg hk] at h
      injection h with h
      injection h with e1 e2
      subst e1 e2
      have hk : shapeOk a1_0 a1_1 a1_2 a1_3 = false := by simpa using hk
      refine (rfind_no w A0 l0.length c0 a1_0 a1_1 a1_2 a1_3 a1_4 hk).mono ?_
      rintro e w' ⟨rfl, hbl⟩
      exact ⟨_, rfl, Kd.R_nil _ _ _ _ _, hbl⟩
  · rw [if_neg hs] at h
    cases h
end Go.Proofs.Ytplkdjbcdeakaaa.Q

