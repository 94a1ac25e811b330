/- Tokens in the print's words. No condition. -/
import Derived.Test.YtplkdjbcdeakaaaQx0
import Derived.Test.YtplkdjbcdeakaaaKd
import Derived.Test.YtplkdjbcdeakaaaFind6
import Derived.Test.YtplkdjbcdeakaaaUBytes
namespace Go.Proofs.Ytplkdjbcdeakaaa.Q
open Go.RowKit Go.Proofs.YtplkdjbcdeakaaaW.PrintWords Go.Proofs.YtplkdjbcdeakaaaW.PrintLast Go.Proofs.YtplkdjbcdeakaaaW.PrintMore
set_option linter.unusedVariables false

abbrev Tk := S67
def tokS (t : Tok) : Tk := ⟨t.lit, t.dist, t.len⟩
theorem tokCs_at (l : List Tok) (j : Nat) (a : Tok) (h : l[j]? = some a) : ((tokCs l).drop (j * 3)).take 3 = [.int .u8 a.lit, .int .i64 a.dist, .int .i64 a.len] := by
  induction l generalizing j with
  | nil => simp at h
  | cons b l ih =>
    have hc : tokCs (b :: l) = [.int .u8 b.lit, .int .i64 b.dist, .int .i64 b.len] ++ tokCs l := by simp [tokCs, tokC]
    cases j with
    | zero =>
      have : b = a := by simpa using h
      subst this
      rw [hc]; rfl
    | succ j =>
      have h2 : l[j]? = some a := by simpa using h
      rw [hc, show (j + 1) * 3 = 3 + j * 3 by omega, ← List.drop_drop]
      exact ih j h2
theorem R_of_toks {w : World} {base n : Nat} {v : Value} {l : List Tok} (ho : w.ownsRow base 67 3 v n (tokCs l)) (hn : n = l.length) : Kd.R k67 67 w base (fun _ => True) v (l.map tokS) := by
  subst hn
  refine ⟨fun _ _ => trivial, tokCs l, by rw [List.length_map]; exact ho, by rw [List.length_map]; exact tokCs_len l, fun j p hj => ?_⟩
  rw [List.getElem?_map, Option.map_eq_some_iff] at hj
  obtain ⟨a, ha, rfl⟩ := hj
  have hs : k67.sz = 3 := rfl
  rw [hs, tokCs_at l j a ha]
  exact k67_mkM _ _ _ (tokS a)
def smallText (l : List Int) : Bool := decide (l.length ≤ 1099511627776) && bytesOk l
theorem smallText_mk {l : List Int} (h : l.length ≤ 1099511627776) (hb : bytesOk l = true) : smallText l = true := by unfold smallText; rw [hb, decide_eq_true h]; rfl
theorem smallText_split {l : List Int} (h : smallText l = true) : l.length ≤ 1099511627776 ∧ bytesOk l = true := by
  unfold smallText at h
  rw [Bool.and_eq_true] at h
  exact ⟨of_decide_eq_true h.1, h.2⟩
end Go.Proofs.Ytplkdjbcdeakaaa.Q

