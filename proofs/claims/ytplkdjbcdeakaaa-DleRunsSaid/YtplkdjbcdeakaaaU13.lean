/- Plain: the bytes with copies, token by token. -/
import Derived.Test.YtplkdjbcdeakaaaLaw9b
import Derived.Test.YtplkdjbcdeakaaaUBytes
namespace Go.Proofs.Ytplkdjbcdeakaaa

def plainB (c : Int) : List Int := if c = 144 then [c, 0] else [c]
def plainS (bs : List Int) : List Int := bs.flatMap plainB
theorem plainS_snoc (bs : List Int) (c : Int) : plainS (bs ++ [c]) = plainS bs ++ plainB c := by simp [plainS]
theorem plainB_len (c : Int) : (plainB c).length ≤ 2 := by unfold plainB; split <;> simp
theorem plainS_len (bs : List Int) : (plainS bs).length ≤ 2 * bs.length := by
  induction bs with
  | nil => simp [plainS]
  | cons c bs ih =>
    have h := plainB_len c
    have e : plainS (c :: bs) = plainB c ++ plainS bs := by simp [plainS]
    rw [e, List.length_append, List.length_cons]
    omega
/-- A copy's V: the length, as far as it goes, and the distance's upper part. -/
def vOf (low d n : Nat) : Nat := min (n - 3) (low - 1) + (d - 1) / 256 * low
def encC (low d n : Nat) : List Int :=
  [144, (vOf low d n : Int)] ++ ((if low - 1 ≤ n - 3 then [((n - 3 - (low - 1) : Nat) : Int)] else []) ++ [(((d - 1) % 256 : Nat) : Int)])
def encT (low : Nat) (bs : List Int) (i : Nat) (t : Tok) : List Int :=
  if t.len = 0 then plainS ((bs.drop i).take 1) else if vOf low t.dist.toNat t.len.toNat = 0 then plainS ((bs.drop i).take t.len.toNat) else encC low t.dist.toNat t.len.toNat
def stepT (t : Tok) : Nat := if t.len = 0 then 1 else t.len.toNat
def encL (low : Nat) (bs : List Int) : List Tok → Nat → List Int
  | [], _ => []
  | t :: l, i => encT low bs i t ++ encL low bs l (i + stepT t)
theorem encT_len (low : Nat) (bs : List Int) (i : Nat) (t : Tok) (h : t.len = 0 ∨ 3 ≤ t.len) : (encT low bs i t).length ≤ 2 * stepT t := by
  unfold encT stepT
  by_cases h0 : t.len = 0
  · rw [if_pos h0, if_pos h0]
    have := plainS_len ((bs.drop i).take 1)
    simp at this ⊢
    omega
  · rw [if_neg h0, if_neg h0]
    split
    · have := plainS_len ((bs.drop i).take t.len.toNat)
      rw [List.length_take] at this
      omega
    · unfold encC
      split <;> simp <;> omega
end Go.Proofs.Ytplkdjbcdeakaaa

