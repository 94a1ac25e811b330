/- The plain machine: words that printed texts use, and what they stand for. No condition. -/
import Derived.Test.YtephmpbccajaaaaGxR
namespace Go.Proofs.Ytephmpbccajaaaa.Gx
open Go Go.RowKit
set_option linter.unusedVariables false
section
variable {β : Type} {r : β}
def exTup (n : Nat) (v : Value) (K : List Value → Option β) : Option β := match v with | .tuple vs => (bif Nat.beq vs.toList.length n then K vs.toList else none) | _ => none
theorem exI_v {k : IntKind} {o : Option Value} {K : Int → Option β} (h : exI k o K = some r) : ∃ n, o = some (.int k n) ∧ K n = some r := by
  unfold exI at h; split at h
  · have h1 := of_decide_eq_true (cond_none h).1; subst h1; exact ⟨_, rfl, (cond_none h).2⟩
  · cases h
theorem exB_v {o : Option Value} {K : Bool → Option β} (h : exB o K = some r) : ∃ n, o = some (.bool n) ∧ K n = some r := by
  unfold exB at h; split at h
  · exact ⟨_, rfl, h⟩
  · cases h
theorem exT_v {o : Option Value} {K : ByteArray → Option β} (h : exT o K = some r) : ∃ n, o = some (.string n) ∧ K n = some r := by
  unfold exT at h; split at h
  · exact ⟨_, rfl, h⟩
  · cases h
theorem exP_v {o : Option Value} {K : Option Addr → Option β} (h : exP o K = some r) : ∃ n, o = some (.pointer n) ∧ K n = some r := by
  unfold exP at h; split at h
  · exact ⟨_, rfl, h⟩
  · cases h
theorem exS_v {o : Option Value} {K : Sl → Option β} (h : exS o K = some r) : ∃ n : Sl, o = some (.slice n.a n.n n.c) ∧ K n = some r := by
  unfold exS at h; split at h
  · exact ⟨_, rfl, h⟩
  · cases h
theorem exV_v {o : Option Value} {K : Value → Option β} (h : exV o K = some r) : ∃ n, o = some n ∧ K n = some r := by
  unfold exV at h; split at h
  · exact ⟨_, rfl, h⟩
  · cases h
theorem exAg_v {v : Value} {K : List Value → Option β} (h : exAg v K = some r) : ∃ cs : Array Value, v = .agg cs ∧ K cs.toList = some r := by
  unfold exAg at h; split at h
  · exact ⟨_, rfl, h⟩
  · cases h
theorem exTup_v {n : Nat} {v : Value} {K : List Value → Option β} (h : exTup n v K = some r) : ∃ vs : Array Value, v = .tuple vs ∧ vs.toList.length = n ∧ K vs.toList = some r := by
  unfold exTup at h; split at h
  · exact ⟨_, rfl, Nat.eq_of_beq_eq_true (cond_none h).1, (cond_none h).2⟩
  · cases h
theorem beq_v {n m : Nat} {x : Option β} (h : (bif Nat.beq n m then x else none) = some r) : n = m ∧ x = some r := ⟨Nat.eq_of_beq_eq_true (cond_none h).1, (cond_none h).2⟩
theorem arr1 {a : Array Value} {x0 : Value} (hl : a.toList.length = 1) (h0 : nth a.toList 0 = some x0) : a = #[x0] := by
  apply Array.ext'
  apply List.ext_getElem?
  intro i
  rcases (by omega : i = 0 ∨ 1 ≤ i) with rfl | h
  · rw [← nth_eq, h0]; rfl
  · rw [List.getElem?_eq_none (by omega), List.getElem?_eq_none (by simpa using h)]
theorem arr2 {a : Array Value} {x0 x1 : Value} (hl : a.toList.length = 2) (h0 : nth a.toList 0 = some x0) (h1 : nth a.toList 1 = some x1) : a = #[x0, x1] := by
  apply Array.ext'
  apply List.ext_getElem?
  intro i
  rcases (by omega : i = 0 ∨ i = 1 ∨ 2 ≤ i) with rfl | rfl | h
  · rw [← nth_eq, h0]; rfl
  · rw [← nth_eq, h1]; rfl
  · rw [List.getElem?_eq_none (by omega), List.getElem?_eq_none (by simpa using h)]
theorem arr3 {a : Array Value} {x0 x1 x2 : Value} (hl : a.toList.length = 3) (h0 : nth a.toList 0 = some x0) (h1 : nth a.toList 1 = some x1) (h2 : nth a.toList 2 = some x2) : a = #[x0, x1, x2] := by
  apply Array.ext'
  apply List.ext_getElem?
  intro i
  rcases (by omega : i = 0 ∨ i = 1 ∨ i = 2 ∨ 3 ≤ i) with rfl | rfl | rfl | h
  · rw [← nth_eq, h0]; rfl
  · rw [← nth_eq, h1]; rfl
  · rw [← nth_eq, h2]; rfl
  · rw [List.getElem?_eq_none (by omega), List.getElem?_eq_none (by simpa using h)]
theorem arr4 {a : Array Value} {x0 x1 x2 x3 : Value} (hl : a.toList.length = 4) (h0 : nth a.toList 0 = some x0) (h1 : nth a.toList 1 = some x1) (h2 : nth a.toList 2 = some x2) (h3 : nth a.toList 3 = some x3) : a = #[x0, x1, x2, x3] := by
  apply Array.ext'
  apply List.ext_getElem?
  intro i
  rcases (by omega : i = 0 ∨ i = 1 ∨ i = 2 ∨ i = 3 ∨ 4 ≤ i) with rfl | rfl | rfl | rfl | h
  · rw [← nth_eq, h0]; rfl
  · rw [← nth_eq, h1]; rfl
  · rw [← nth_eq, h2]; rfl
  · rw [← nth_eq, h3]; rfl
  · rw [List.getElem?_eq_none (by omega), List.getElem?_eq_none (by simpa using h)]
theorem arr5 {a : Array Value} {x0 x1 x2 x3 x4 : Value} (hl : a.toList.length = 5) (h0 : nth a.toList 0 = some x0) (h1 : nth a.toList 1 = some x1) (h2 : nth a.toList 2 = some x2) (h3 : nth a.toList 3 = some x3) (h4 : nth a.toList 4 = some x4) : a = #[x0, x1, x2, x3, x4] := by
  apply Array.ext'
  apply List.ext_getElem?
  intro i
  rcases (by omega : i = 0 ∨ i = 1 ∨ i = 2 ∨ i = 3 ∨ i = 4 ∨ 5 ≤ i) with rfl | rfl | rfl | rfl | rfl | h
  · rw [← nth_eq, h0]; rfl
  · rw [← nth_eq, h1]; rfl
  · rw [← nth_eq, h2]; rfl
  · rw [← nth_eq, h3]; rfl
  · rw [← nth_eq, h4]; rfl
  · rw [List.getElem?_eq_none (by omega), List.getElem?_eq_none (by simpa using h)]
theorem arr6 {a : Array Value} {x0 x1 x2 x3 x4 x5 : Value} (hl : a.toList.length = 6) (h0 : nth a.toList 0 = some x0) (h1 : nth a.toList 1 = some x1) (h2 : nth a.toList 2 = some x2) (h3 : nth a.toList 3 = some x3) (h4 : nth a.toList 4 = some x4) (h5 : nth a.toList 5 = some x5) : a = #[x0, x1, x2, x3, x4, x5] := by
  apply Array.ext'
  apply List.ext_getElem?
  intro i
  rcases (by omega : i = 0 ∨ i = 1 ∨ i = 2 ∨ i = 3 ∨ i = 4 ∨ i = 5 ∨ 6 ≤ i) with rfl | rfl | rfl | rfl | rfl | rfl | h
  · rw [← nth_eq, h0]; rfl
  · rw [← nth_eq, h1]; rfl
  · rw [← nth_eq, h2]; rfl
  · rw [← nth_eq, h3]; rfl
  · rw [← nth_eq, h4]; rfl
  · rw [← nth_eq, h5]; rfl
  · rw [List.getElem?_eq_none (by omega), List.getElem?_eq_none (by simpa using h)]
theorem arr7 {a : Array Value} {x0 x1 x2 x3 x4 x5 x6 : Value} (hl : a.toList.length = 7) (h0 : nth a.toList 0 = some x0) (h1 : nth a.toList 1 = some x1) (h2 : nth a.toList 2 = some x2) (h3 : nth a.toList 3 = some x3) (h4 : nth a.toList 4 = some x4) (h5 : nth a.toList 5 = some x5) (h6 : nth a.toList 6 = some x6) : a = #[x0, x1, x2, x3, x4, x5, x6] := by
  apply Array.ext'
  apply List.ext_getElem?
  intro i
  rcases (by omega : i = 0 ∨ i = 1 ∨ i = 2 ∨ i = 3 ∨ i = 4 ∨ i = 5 ∨ i = 6 ∨ 7 ≤ i) with rfl | rfl | rfl | rfl | rfl | rfl | rfl | h
  · rw [← nth_eq, h0]; rfl
  · rw [← nth_eq, h1]; rfl
  · rw [← nth_eq, h2]; rfl
  · rw [← nth_eq, h3]; rfl
  · rw [← nth_eq, h4]; rfl
  · rw [← nth_eq, h5]; rfl
  · rw [← nth_eq, h6]; rfl
  · rw [List.getElem?_eq_none (by omega), List.getElem?_eq_none (by simpa using h)]
theorem arr8 {a : Array Value} {x0 x1 x2 x3 x4 x5 x6 x7 : Value} (hl : a.toList.length = 8) (h0 : nth a.toList 0 = some x0) (h1 : nth a.toList 1 = some x1) (h2 : nth a.toList 2 = some x2) (h3 : nth a.toList 3 = some x3) (h4 : nth a.toList 4 = some x4) (h5 : nth a.toList 5 = some x5) (h6 : nth a.toList 6 = some x6) (h7 : nth a.toList 7 = some x7) : a = #[x0, x1, x2, x3, x4, x5, x6, x7] := by
  apply Array.ext'
  apply List.ext_getElem?
  intro i
  rcases (by omega : i = 0 ∨ i = 1 ∨ i = 2 ∨ i = 3 ∨ i = 4 ∨ i = 5 ∨ i = 6 ∨ i = 7 ∨ 8 ≤ i) with rfl | rfl | rfl | rfl | rfl | rfl | rfl | rfl | h
  · rw [← nth_eq, h0]; rfl
  · rw [← nth_eq, h1]; rfl
  · rw [← nth_eq, h2]; rfl
  · rw [← nth_eq, h3]; rfl
  · rw [← nth_eq, h4]; rfl
  · rw [← nth_eq, h5]; rfl
  · rw [← nth_eq, h6]; rfl
  · rw [← nth_eq, h7]; rfl
  · rw [List.getElem?_eq_none (by omega), List.getElem?_eq_none (by simpa using h)]
theorem arr9 {a : Array Value} {x0 x1 x2 x3 x4 x5 x6 x7 x8 : Value} (hl : a.toList.length = 9) (h0 : nth a.toList 0 = some x0) (h1 : nth a.toList 1 = some x1) (h2 : nth a.toList 2 = some x2) (h3 : nth a.toList 3 = some x3) (h4 : nth a.toList 4 = some x4) (h5 : nth a.toList 5 = some x5) (h6 : nth a.toList 6 = some x6) (h7 : nth a.toList 7 = some x7) (h8 : nth a.toList 8 = some x8) : a = #[x0, x1, x2, x3, x4, x5, x6, x7, x8] := by
  apply Array.ext'
  apply List.ext_getElem?
  intro i
  rcases (by omega : i = 0 ∨ i = 1 ∨ i = 2 ∨ i = 3 ∨ i = 4 ∨ i = 5 ∨ i = 6 ∨ i = 7 ∨ i = 8 ∨ 9 ≤ i) with rfl | rfl | rfl | rfl | rfl | rfl | rfl | rfl | rfl | h
  · rw [← nth_eq, h0]; rfl
  · rw [← nth_eq, h1]; rfl
  · rw [← nth_eq, h2]; rfl
  · rw [← nth_eq, h3]; rfl
  · rw [← nth_eq, h4]; rfl
  · rw [← nth_eq, h5]; rfl
  · rw [← nth_eq, h6]; rfl
  · rw [← nth_eq, h7]; rfl
  · rw [← nth_eq, h8]; rfl
  · rw [List.getElem?_eq_none (by omega), List.getElem?_eq_none (by simpa using h)]
theorem arr10 {a : Array Value} {x0 x1 x2 x3 x4 x5 x6 x7 x8 x9 : Value} (hl : a.toList.length = 10) (h0 : nth a.toList 0 = some x0) (h1 : nth a.toList 1 = some x1) (h2 : nth a.toList 2 = some x2) (h3 : nth a.toList 3 = some x3) (h4 : nth a.toList 4 = some x4) (h5 : nth a.toList 5 = some x5) (h6 : nth a.toList 6 = some x6) (h7 : nth a.toList 7 = some x7) (h8 : nth a.toList 8 = some x8) (h9 : nth a.toList 9 = some x9) : a = #[x0, x1, x2, x3, x4, x5, x6, x7, x8, x9] := by
  apply Array.ext'
  apply List.ext_getElem?
  intro i
  rcases (by omega : i = 0 ∨ i = 1 ∨ i = 2 ∨ i = 3 ∨ i = 4 ∨ i = 5 ∨ i = 6 ∨ i = 7 ∨ i = 8 ∨ i = 9 ∨ 10 ≤ i) with rfl | rfl | rfl | rfl | rfl | rfl | rfl | rfl | rfl | rfl | h
  · rw [← nth_eq, h0]; rfl
  · rw [← nth_eq, h1]; rfl
  · rw [← nth_eq, h2]; rfl
  · rw [← nth_eq, h3]; rfl
  · rw [← nth_eq, h4]; rfl
  · rw [← nth_eq, h5]; rfl
  · rw [← nth_eq, h6]; rfl
  · rw [← nth_eq, h7]; rfl
  · rw [← nth_eq, h8]; rfl
  · rw [← nth_eq, h9]; rfl
  · rw [List.getElem?_eq_none (by omega), List.getElem?_eq_none (by simpa using h)]
theorem arr11 {a : Array Value} {x0 x1 x2 x3 x4 x5 x6 x7 x8 x9 x10 : Value} (hl : a.toList.length = 11) (h0 : nth a.toList 0 = some x0) (h1 : nth a.toList 1 = some x1) (h2 : nth a.toList 2 = some x2) (h3 : nth a.toList 3 = some x3) (h4 : nth a.toList 4 = some x4) (h5 : nth a.toList 5 = some x5) (h6 : nth a.toList 6 = some x6) (h7 : nth a.toList 7 = some x7) (h8 : nth a.toList 8 = some x8) (h9 : nth a.toList 9 = some x9) (h10 : nth a.toList 10 = some x10) : a = #[x0, x1, x2, x3, x4, x5, x6, x7, x8, x9, x10] := by
  apply Array.ext'
  apply List.ext_getElem?
  intro i
  rcases (by omega : i = 0 ∨ i = 1 ∨ i = 2 ∨ i = 3 ∨ i = 4 ∨ i = 5 ∨ i = 6 ∨ i = 7 ∨ i = 8 ∨ i = 9 ∨ i = 10 ∨ 11 ≤ i) with rfl | rfl | rfl | rfl | rfl | rfl | rfl | rfl | rfl | rfl | rfl | h
  · rw [← nth_eq, h0]; rfl
  · rw [← nth_eq, h1]; rfl
  · rw [← nth_eq, h2]; rfl
  · rw [← nth_eq, h3]; rfl
  · rw [← nth_eq, h4]; rfl
  · rw [← nth_eq, h5]; rfl
  · rw [← nth_eq, h6]; rfl
  · rw [← nth_eq, h7]; rfl
  · rw [← nth_eq, h8]; rfl
  · rw [← nth_eq, h9]; rfl
  · rw [← nth_eq, h10]; rfl
  · rw [List.getElem?_eq_none (by omega), List.getElem?_eq_none (by simpa using h)]
theorem arr12 {a : Array Value} {x0 x1 x2 x3 x4 x5 x6 x7 x8 x9 x10 x11 : Value} (hl : a.toList.length = 12) (h0 : nth a.toList 0 = some x0) (h1 : nth a.toList 1 = some x1) (h2 : nth a.toList 2 = some x2) (h3 : nth a.toList 3 = some x3) (h4 : nth a.toList 4 = some x4) (h5 : nth a.toList 5 = some x5) (h6 : nth a.toList 6 = some x6) (h7 : nth a.toList 7 = some x7) (h8 : nth a.toList 8 = some x8) (h9 : nth a.toList 9 = some x9) (h10 : nth a.toList 10 = some x10) (h11 : nth a.toList 11 = some x11) : a = #[x0, x1, x2, x3, x4, x5, x6, x7, x8, x9, x10, x11] := by
  apply Array.ext'
  apply List.ext_getElem?
  intro i
  rcases (by omega : i = 0 ∨ i = 1 ∨ i = 2 ∨ i = 3 ∨ i = 4 ∨ i = 5 ∨ i = 6 ∨ i = 7 ∨ i = 8 ∨ i = 9 ∨ i = 10 ∨ i = 11 ∨ 12 ≤ i) with rfl | rfl | rfl | rfl | rfl | rfl | rfl | rfl | rfl | rfl | rfl | rfl | h
  · rw [← nth_eq, h0]; rfl
  · rw [← nth_eq, h1]; rfl
  · rw [← nth_eq, h2]; rfl
  · rw [← nth_eq, h3]; rfl
  · rw [← nth_eq, h4]; rfl
  · rw [← nth_eq, h5]; rfl
  · rw [← nth_eq, h6]; rfl
  · rw [← nth_eq, h7]; rfl
  · rw [← nth_eq, h8]; rfl
  · rw [← nth_eq, h9]; rfl
  · rw [← nth_eq, h10]; rfl
  · rw [← nth_eq, h11]; rfl
  · rw [List.getElem?_eq_none (by omega), List.getElem?_eq_none (by simpa using h)]
theorem arr13 {a : Array Value} {x0 x1 x2 x3 x4 x5 x6 x7 x8 x9 x10 x11 x12 : Value} (hl : a.toList.length = 13) (h0 : nth a.toList 0 = some x0) (h1 : nth a.toList 1 = some x1) (h2 : nth a.toList 2 = some x2) (h3 : nth a.toList 3 = some x3) (h4 : nth a.toList 4 = some x4) (h5 : nth a.toList 5 = some x5) (h6 : nth a.toList 6 = some x6) (h7 : nth a.toList 7 = some x7) (h8 : nth a.toList 8 = some x8) (h9 : nth a.toList 9 = some x9) (h10 : nth a.toList 10 = some x10) (h11 : nth a.toList 11 = some x11) (h12 : nth a.toList 12 = some x12) : a = #[x0, x1, x2, x3, x4, x5, x6, x7, x8, x9, x10, x11, x12] := by
  apply Array.ext'
  apply List.ext_getElem?
  intro i
  rcases (by omega : i = 0 ∨ i = 1 ∨ i = 2 ∨ i = 3 ∨ i = 4 ∨ i = 5 ∨ i = 6 ∨ i = 7 ∨ i = 8 ∨ i = 9 ∨ i = 10 ∨ i = 11 ∨ i = 12 ∨ 13 ≤ i) with rfl | rfl | rfl | rfl | rfl | rfl | rfl | rfl | rfl | rfl | rfl | rfl | rfl | h
  · rw [← nth_eq, h0]; rfl
  · rw [← nth_eq, h1]; rfl
  · rw [← nth_eq, h2]; rfl
  · rw [← nth_eq, h3]; rfl
  · rw [← nth_eq, h4]; rfl
  · rw [← nth_eq, h5]; rfl
  · rw [← nth_eq, h6]; rfl
  · rw [← nth_eq, h7]; rfl
  · rw [← nth_eq, h8]; rfl
  · rw [← nth_eq, h9]; rfl
  · rw [← nth_eq, h10]; rfl
  · rw [← nth_eq, h11]; rfl
  · rw [← nth_eq, h12]; rfl
  · rw [List.getElem?_eq_none (by omega), List.getElem?_eq_none (by simpa using h)]
theorem arr14 {a : Array Value} {x0 x1 x2 x3 x4 x5 x6 x7 x8 x9 x10 x11 x12 x13 : Value} (hl : a.toList.length = 14) (h0 : nth a.toList 0 = some x0) (h1 : nth a.toList 1 = some x1) (h2 : nth a.toList 2 = some x2) (h3 : nth a.toList 3 = some x3) (h4 : nth a.toList 4 = some x4) (h5 : nth a.toList 5 = some x5) (h6 : nth a.toList 6 = some x6) (h7 : nth a.toList 7 = some x7) (h8 : nth a.toList 8 = some x8) (h9 : nth a.toList 9 = some x9) (h10 : nth a.toList 10 = some x10) (h11 : nth a.toList 11 = some x11) (h12 : nth a.toList 12 = some x12) (h13 : nth a.toList 13 = some x13) : a = #[x0, x1, x2, x3, x4, x5, x6, x7, x8, x9, x10, x11, x12, x13] := by
  apply Array.ext'
  apply List.ext_getElem?
  intro i
  rcases (by omega : i = 0 ∨ i = 1 ∨ i = 2 ∨ i = 3 ∨ i = 4 ∨ i = 5 ∨ i = 6 ∨ i = 7 ∨ i = 8 ∨ i = 9 ∨ i = 10 ∨ i = 11 ∨ i = 12 ∨ i = 13 ∨ 14 ≤ i) with rfl | rfl | rfl | rfl | rfl | rfl | rfl | rfl | rfl | rfl | rfl | rfl | rfl | rfl | h
  · rw [← nth_eq, h0]; rfl
  · rw [← nth_eq, h1]; rfl
  · rw [← nth_eq, h2]; rfl
  · rw [← nth_eq, h3]; rfl
  · rw [← nth_eq, h4]; rfl
  · rw [← nth_eq, h5]; rfl
  · rw [← nth_eq, h6]; rfl
  · rw [← nth_eq, h7]; rfl
  · rw [← nth_eq, h8]; rfl
  · rw [← nth_eq, h9]; rfl
  · rw [← nth_eq, h10]; rfl
  · rw [← nth_eq, h11]; rfl
  · rw [← nth_eq, h12]; rfl
  · rw [← nth_eq, h13]; rfl
  · rw [List.getElem?_eq_none (by omega), List.getElem?_eq_none (by simpa using h)]
theorem arr15 {a : Array Value} {x0 x1 x2 x3 x4 x5 x6 x7 x8 x9 x10 x11 x12 x13 x14 : Value} (hl : a.toList.length = 15) (h0 : nth a.toList 0 = some x0) (h1 : nth a.toList 1 = some x1) (h2 : nth a.toList 2 = some x2) (h3 : nth a.toList 3 = some x3) (h4 : nth a.toList 4 = some x4) (h5 : nth a.toList 5 = some x5) (h6 : nth a.toList 6 = some x6) (h7 : nth a.toList 7 = some x7) (h8 : nth a.toList 8 = some x8) (h9 : nth a.toList 9 = some x9) (h10 : nth a.toList 10 = some x10) (h11 : nth a.toList 11 = some x11) (h12 : nth a.toList 12 = some x12) (h13 : nth a.toList 13 = some x13) (h14 : nth a.toList 14 = some x14) : a = #[x0, x1, x2, x3, x4, x5, x6, x7, x8, x9, x10, x11, x12, x13, x14] := by
  apply Array.ext'
  apply List.ext_getElem?
  intro i
  rcases (by omega : i = 0 ∨ i = 1 ∨ i = 2 ∨ i = 3 ∨ i = 4 ∨ i = 5 ∨ i = 6 ∨ i = 7 ∨ i = 8 ∨ i = 9 ∨ i = 10 ∨ i = 11 ∨ i = 12 ∨ i = 13 ∨ i = 14 ∨ 15 ≤ i) with rfl | rfl | rfl | rfl | rfl | rfl | rfl | rfl | rfl | rfl | rfl | rfl | rfl | rfl | rfl | h
  · rw [← nth_eq, h0]; rfl
  · rw [← nth_eq, h1]; rfl
  · rw [← nth_eq, h2]; rfl
  · rw [← nth_eq, h3]; rfl
  · rw [← nth_eq, h4]; rfl
  · rw [← nth_eq, h5]; rfl
  · rw [← nth_eq, h6]; rfl
  · rw [← nth_eq, h7]; rfl
  · rw [← nth_eq, h8]; rfl
  · rw [← nth_eq, h9]; rfl
  · rw [← nth_eq, h10]; rfl
  · rw [← nth_eq, h11]; rfl
  · rw [← nth_eq, h12]; rfl
  · rw [← nth_eq, h13]; rfl
  · rw [← nth_eq, h14]; rfl
  · rw [List.getElem?_eq_none (by omega), List.getElem?_eq_none (by simpa using h)]
theorem arr16 {a : Array Value} {x0 x1 x2 x3 x4 x5 x6 x7 x8 x9 x10 x11 x12 x13 x14 x15 : Value} (hl : a.toList.length = 16) (h0 : nth a.toList 0 = some x0) (h1 : nth a.toList 1 = some x1) (h2 : nth a.toList 2 = some x2) (h3 : nth a.toList 3 = some x3) (h4 : nth a.toList 4 = some x4) (h5 : nth a.toList 5 = some x5) (h6 : nth a.toList 6 = some x6) (h7 : nth a.toList 7 = some x7) (h8 : nth a.toList 8 = some x8) (h9 : nth a.toList 9 = some x9) (h10 : nth a.toList 10 = some x10) (h11 : nth a.toList 11 = some x11) (h12 : nth a.toList 12 = some x12) (h13 : nth a.toList 13 = some x13) (h14 : nth a.toList 14 = some x14) (h15 : nth a.toList 15 = some x15) : a = #[x0, x1, x2, x3, x4, x5, x6, x7, x8, x9, x10, x11, x12, x13, x14, x15] := by
  apply Array.ext'
  apply List.ext_getElem?
  intro i
  rcases (by omega : i = 0 ∨ i = 1 ∨ i = 2 ∨ i = 3 ∨ i = 4 ∨ i = 5 ∨ i = 6 ∨ i = 7 ∨ i = 8 ∨ i = 9 ∨ i = 10 ∨ i = 11 ∨ i = 12 ∨ i = 13 ∨ i = 14 ∨ i = 15 ∨ 16 ≤ i) with rfl | rfl | rfl | rfl | rfl | rfl | rfl | rfl | rfl | rfl | rfl | rfl | rfl | rfl | rfl | rfl | h
  · rw [← nth_eq, h0]; rfl
  · rw [← nth_eq, h1]; rfl
  · rw [← nth_eq, h2]; rfl
  · rw [← nth_eq, h3]; rfl
  · rw [← nth_eq, h4]; rfl
  · rw [← nth_eq, h5]; rfl
  · rw [← nth_eq, h6]; rfl
  · rw [← nth_eq, h7]; rfl
  · rw [← nth_eq, h8]; rfl
  · rw [← nth_eq, h9]; rfl
  · rw [← nth_eq, h10]; rfl
  · rw [← nth_eq, h11]; rfl
  · rw [← nth_eq, h12]; rfl
  · rw [← nth_eq, h13]; rfl
  · rw [← nth_eq, h14]; rfl
  · rw [← nth_eq, h15]; rfl
  · rw [List.getElem?_eq_none (by omega), List.getElem?_eq_none (by simpa using h)]
theorem arr17 {a : Array Value} {x0 x1 x2 x3 x4 x5 x6 x7 x8 x9 x10 x11 x12 x13 x14 x15 x16 : Value} (hl : a.toList.length = 17) (h0 : nth a.toList 0 = some x0) (h1 : nth a.toList 1 = some x1) (h2 : nth a.toList 2 = some x2) (h3 : nth a.toList 3 = some x3) (h4 : nth a.toList 4 = some x4) (h5 : nth a.toList 5 = some x5) (h6 : nth a.toList 6 = some x6) (h7 : nth a.toList 7 = some x7) (h8 : nth a.toList 8 = some x8) (h9 : nth a.toList 9 = some x9) (h10 : nth a.toList 10 = some x10) (h11 : nth a.toList 11 = some x11) (h12 : nth a.toList 12 = some x12) (h13 : nth a.toList 13 = some x13) (h14 : nth a.toList 14 = some x14) (h15 : nth a.toList 15 = some x15) (h16 : nth a.toList 16 = some x16) : a = #[x0, x1, x2, x3, x4, x5, x6, x7, x8, x9, x10, x11, x12, x13, x14, x15, x16] := by
  apply Array.ext'
  apply List.ext_getElem?
  intro i
  rcases (by omega : i = 0 ∨ i = 1 ∨ i = 2 ∨ i = 3 ∨ i = 4 ∨ i = 5 ∨ i = 6 ∨ i = 7 ∨ i = 8 ∨ i = 9 ∨ i = 10 ∨ i = 11 ∨ i = 12 ∨ i = 13 ∨ i = 14 ∨ i = 15 ∨ i = 16 ∨ 17 ≤ i) with rfl | rfl | rfl | rfl | rfl | rfl | rfl | rfl | rfl | rfl | rfl | rfl | rfl | rfl | rfl | rfl | rfl | h
  · rw [← nth_eq, h0]; rfl
  · rw [← nth_eq, h1]; rfl
  · rw [← nth_eq, h2]; rfl
  · rw [← nth_eq, h3]; rfl
  · rw [← nth_eq, h4]; rfl
  · rw [← nth_eq, h5]; rfl
  · rw [← nth_eq, h6]; rfl
  · rw [← nth_eq, h7]; rfl
  · rw [← nth_eq, h8]; rfl
  · rw [← nth_eq, h9]; rfl
  · rw [← nth_eq, h10]; rfl
  · rw [← nth_eq, h11]; rfl
  · rw [← nth_eq, h12]; rfl
  · rw [← nth_eq, h13]; rfl
  · rw [← nth_eq, h14]; rfl
  · rw [← nth_eq, h15]; rfl
  · rw [← nth_eq, h16]; rfl
  · rw [List.getElem?_eq_none (by omega), List.getElem?_eq_none (by simpa using h)]
theorem arr18 {a : Array Value} {x0 x1 x2 x3 x4 x5 x6 x7 x8 x9 x10 x11 x12 x13 x14 x15 x16 x17 : Value} (hl : a.toList.length = 18) (h0 : nth a.toList 0 = some x0) (h1 : nth a.toList 1 = some x1) (h2 : nth a.toList 2 = some x2) (h3 : nth a.toList 3 = some x3) (h4 : nth a.toList 4 = some x4) (h5 : nth a.toList 5 = some x5) (h6 : nth a.toList 6 = some x6) (h7 : nth a.toList 7 = some x7) (h8 : nth a.toList 8 = some x8) (h9 : nth a.toList 9 = some x9) (h10 : nth a.toList 10 = some x10) (h11 : nth a.toList 11 = some x11) (h12 : nth a.toList 12 = some x12) (h13 : nth a.toList 13 = some x13) (h14 : nth a.toList 14 = some x14) (h15 : nth a.toList 15 = some x15) (h16 : nth a.toList 16 = some x16) (h17 : nth a.toList 17 = some x17) : a = #[x0, x1, x2, x3, x4, x5, x6, x7, x8, x9, x10, x11, x12, x13, x14, x15, x16, x17] := by
  apply Array.ext'
  apply List.ext_getElem?
  intro i
  rcases (by omega : i = 0 ∨ i = 1 ∨ i = 2 ∨ i = 3 ∨ i = 4 ∨ i = 5 ∨ i = 6 ∨ i = 7 ∨ i = 8 ∨ i = 9 ∨ i = 10 ∨ i = 11 ∨ i = 12 ∨ i = 13 ∨ i = 14 ∨ i = 15 ∨ i = 16 ∨ i = 17 ∨ 18 ≤ i) with rfl | rfl | rfl | rfl | rfl | rfl | rfl | rfl | rfl | rfl | rfl | rfl | rfl | rfl | rfl | rfl | rfl | rfl | h
  · rw [← nth_eq, h0]; rfl
  · rw [← nth_eq, h1]; rfl
  · rw [← nth_eq, h2]; rfl
  · rw [← nth_eq, h3]; rfl
  · rw [← nth_eq, h4]; rfl
  · rw [← nth_eq, h5]; rfl
  · rw [← nth_eq, h6]; rfl
  · rw [← nth_eq, h7]; rfl
  · rw [← nth_eq, h8]; rfl
  · rw [← nth_eq, h9]; rfl
  · rw [← nth_eq, h10]; rfl
  · rw [← nth_eq, h11]; rfl
  · rw [← nth_eq, h12]; rfl
  · rw [← nth_eq, h13]; rfl
  · rw [← nth_eq, h14]; rfl
  · rw [← nth_eq, h15]; rfl
  · rw [← nth_eq, h16]; rfl
  · rw [← nth_eq, h17]; rfl
  · rw [List.getElem?_eq_none (by omega), List.getElem?_eq_none (by simpa using h)]
end
end Go.Proofs.Ytephmpbccajaaaa.Gx

