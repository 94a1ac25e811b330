/- Which shapes are right; which tokens a text has. -/
import Derived.Test.YtplkdjbcdeakaaaFind4
import Derived.Test.YtplkdjbcdeakaaaAppend
import Derived.Deep.DeepCutAuto
import Derived.Deep.RegionWith
import Derived.Deep.LoopGhost
namespace Go.Proofs.Ytplkdjbcdeakaaa
open Go.RowKit

def shapeOk (win mn mx ch : Int) : Bool := decide (1 ≤ win ∧ win ≤ 65536 ∧ 2 ≤ mn ∧ mn ≤ 3 ∧ mn ≤ mx ∧ mx ≤ 65538 ∧ 0 ≤ ch ∧ ch ≤ 4096)
def shapeV (win mn mx ch : Int) (lz : Bool) : Value := .agg #[.int .i64 win, .int .i64 mn, .int .i64 mx, .int .i64 ch, .bool lz]

def chk (win mn mx ch : Int) : Int := if shapeOk win mn mx ch = true then 0 else 2
theorem chk_ok {win mn mx ch : Int} (h : 1 ≤ win ∧ win ≤ 65536 ∧ 2 ≤ mn ∧ mn ≤ 3 ∧ mn ≤ mx ∧ mx ≤ 65538 ∧ 0 ≤ ch ∧ ch ≤ 4096) : 0 = chk win mn mx ch := by simp [chk, shapeOk, h]
theorem chk_no {win mn mx ch : Int} (h : ¬ (1 ≤ win ∧ win ≤ 65536 ∧ 2 ≤ mn ∧ mn ≤ 3 ∧ mn ≤ mx ∧ mx ≤ 65538 ∧ 0 ≤ ch ∧ ch ≤ 4096)) : 2 = chk win mn mx ch := by simp only [chk, shapeOk, decide_eq_true_eq]; rw [if_neg h]

theorem ret_int {k : IntKind} {a b : Int} (h : a = b) : Ending.returned (.int k a) = .returned (.int k b) := by rw [h]

set_option maxHeartbeats 1000000 in
theorem check_any (w : World) (win mn mx ch : Int) (lz : Bool) :
    Calls Try.prog 40 #[.agg #[.int .i64 win, .int .i64 mn, .int .i64 mx, .int .i64 ch, .bool lz]] w fun e w' => e = .returned (.int .i64 (chk win mn mx ch)) ∧ Below w.heap.size w w' := by
  go_enter Try.func40, Try.ntmps40
  go_wp2_with fail
  all_goals
    go_ret
    exact ⟨ret_int (by first | exact chk_no (by omega) | exact chk_ok (by omega)), (Below.refl _ _).alloc (Nat.le_refl _) _⟩

/-- A token: its byte, its distance, its length. -/
structure Tok where
  (lit dist len : Int)
def tokC (t : Tok) : List Value := [.int .u8 t.lit, .int .i64 t.dist, .int .i64 t.len]
def tokCs (l : List Tok) : List Value := l.flatMap tokC
theorem tokCs_len (l : List Tok) : (tokCs l).length = l.length * 3 := by
  induction l with
  | nil => rfl
  | cons t l ih => simp only [tokCs, List.flatMap_cons, List.length_append, List.length_cons] at ih ⊢; rw [ih]; simp [tokC]; omega
theorem tokCs_snoc (l : List Tok) (t : Tok) : tokCs (l ++ [t]) = tokCs l ++ tokC t := by simp [tokCs]

/-- Does a token wait for a longer one at the next place? -/
def waits (bs : List Int) (mn mx win ch : Int) (lz : Bool) (i : Nat) : Bool :=
  decide (atSpec bs mn mx win ch i = (0, 0)) || (lz && decide (((atSpec bs mn mx win ch i).2 : Int) < mx) && decide ((atSpec bs mn mx win ch i).2 < (atSpec bs mn mx win ch (i + 1)).2))
def findLoop (bs : List Int) (mn mx win ch : Int) (lz : Bool) : Nat → Nat → List Tok
  | 0, _ => []
  | f + 1, i =>
    if i < bs.length then
      if waits bs mn mx win ch lz i = true then ⟨bs.getD i 0, 0, 0⟩ :: findLoop bs mn mx win ch lz f (i + 1)
      else ⟨0, (atSpec bs mn mx win ch i).1, (atSpec bs mn mx win ch i).2⟩ :: findLoop bs mn mx win ch lz f (i + (atSpec bs mn mx win ch i).2)
    else []
def findSpec (bs : List Int) (mn mx win ch : Int) (lz : Bool) : List Tok := findLoop bs mn mx win ch lz bs.length 0

theorem lenFrom_bound (bs : List Int) (f i : Nat) (mx : Int) (m k : Nat) (hk : i + k ≤ bs.length) : i + lenFrom bs f i mx m k ≤ bs.length := by
  induction m generalizing k with
  | zero => exact hk
  | succ m ih =>
    rw [lenFrom]
    split
    · rename_i h
      exact ih (k + 1) (by omega)
    · exact hk
theorem same_bound (bs : List Int) (f i : Nat) (mx : Int) (hi : i ≤ bs.length) : i + same bs f i mx ≤ bs.length := lenFrom_bound _ _ _ _ _ _ (by omega)
/-- What is found is nothing, or has a length; and ends within the text. -/
theorem atLoop_good (bs : List Int) (mn mx win ch : Int) (i : Nat) (hi : i ≤ bs.length) (f frm cnt : Nat) (best : Nat × Nat) (hb : (best = (0, 0) ∨ 0 < best.2) ∧ i + best.2 ≤ bs.length) :
    (atLoop bs mn mx win ch i f frm cnt best = (0, 0) ∨ 0 < (atLoop bs mn mx win ch i f frm cnt best).2) ∧ i + (atLoop bs mn mx win ch i f frm cnt best).2 ≤ bs.length := by
  induction f generalizing frm cnt best with
  | zero => exact hb
  | succ f ih =>
    rw [atLoop]
    have hb' : ((if best.2 < same bs (frm - 1) i mx then (i - (frm - 1), same bs (frm - 1) i mx) else best) = (0, 0) ∨ 0 < (if best.2 < same bs (frm - 1) i mx then (i - (frm - 1), same bs (frm - 1) i mx) else best).2) ∧
        i + (if best.2 < same bs (frm - 1) i mx then (i - (frm - 1), same bs (frm - 1) i mx) else best).2 ≤ bs.length := by
      split
      · rename_i h
        exact ⟨.inr (by simp only; omega), same_bound _ _ _ _ hi⟩
      · exact hb
    generalize (if best.2 < same bs (frm - 1) i mx then (i - (frm - 1), same bs (frm - 1) i mx) else best) = nb at hb' ⊢
    split
    · split
      · exact hb'
      · exact ih _ _ _ hb'
    · exact hb
theorem atSpec_good (bs : List Int) (mn mx win ch : Int) (i : Nat) (hi : i ≤ bs.length) :
    (atSpec bs mn mx win ch i = (0, 0) ∨ 0 < (atSpec bs mn mx win ch i).2) ∧ i + (atSpec bs mn mx win ch i).2 ≤ bs.length := by
  unfold atSpec
  split
  · exact atLoop_good bs mn mx win ch i hi _ _ _ _ ⟨.inl rfl, hi⟩
  · exact ⟨.inl rfl, hi⟩
theorem findLoop_len (bs : List Int) (mn mx win ch : Int) (lz : Bool) (f i : Nat) : (findLoop bs mn mx win ch lz f i).length ≤ f := by
  induction f generalizing i with
  | zero => simp [findLoop]
  | succ f ih =>
    rw [findLoop]
    split
    · split
      · simpa using ih _
      · simpa using ih _
    · simp

set_option maxHeartbeats 1000000 in
theorem find_no (w : World) (A : Option Addr) (n c : Nat) (win mn mx ch : Int) (lz : Bool) (h : shapeOk win mn mx ch = false) :
    Calls Try.prog 35 #[.slice A n c, .agg #[.int .i64 win, .int .i64 mn, .int .i64 mx, .int .i64 ch, .bool lz]] w fun e w' => e = .returned (.tuple #[.slice none 0 0, .int .i64 2]) ∧ Below w.heap.size w w' := by
  have hk : Hid (chk win mn mx ch = 2) := by show _ = _; unfold chk; simp [h]
  go_enter Try.func35, Try.ntmps35
  go_wp2_with fail
  refine (check_any _ win mn mx ch lz).mono ?_
  rintro e w1 ⟨rfl, hb1⟩
  rw [hk.out]
  go_wp2_with fail
  go_ret2
  exact ⟨rfl, ((Below.refl _ _).alloc (Nat.le_refl _) _).trans (hb1.mono (by simp))⟩
end Go.Proofs.Ytplkdjbcdeakaaa

