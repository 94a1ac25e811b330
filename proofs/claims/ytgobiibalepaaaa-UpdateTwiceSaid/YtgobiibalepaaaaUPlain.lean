/- Update's plan in plain words: keys, the first and the last place of a key, what becomes of each old and each new. No condition. -/
import Derived.RowKit
namespace Go.Proofs.Ytgobiibalepaaaa

def capB (c : Int) : Int := if c = 129 then 154 else (if c = 130 then 144 else (if c = 132 then 142 else (if c = 134 then 143 else (if c = 135 then 128 else (if c = 145 then 146 else (if c = 148 then 153 else (if c = 164 then 165 else c)))))))
def foldB (c : Int) : Int := if 97 ≤ c ∧ c ≤ 122 then c - 32 else if c = 92 then 47 else capB c
def foldN (l : List Int) : List Int := l.map foldB
theorem foldN_len (l : List Int) : (foldN l).length = l.length := by simp [foldN]
def bytesOk (l : List Int) : Bool := l.all fun x => decide (0 ≤ x ∧ x ≤ 255)
theorem bytesOk_get {l : List Int} (h : bytesOk l = true) {x : Int} (hx : x ∈ l) : 0 ≤ x ∧ x ≤ 255 := by
  have := List.all_eq_true.1 h x hx
  simpa using this
theorem foldB_bd {c : Int} (h : 0 ≤ c ∧ c ≤ 255) : 0 ≤ foldB c ∧ foldB c ≤ 255 := by
  unfold foldB capB
  split
  · omega
  · repeat' (split <;> try omega)
theorem foldN_ok {l : List Int} (h : bytesOk l = true) : bytesOk (foldN l) = true := by
  unfold bytesOk foldN
  rw [List.all_map]
  refine List.all_eq_true.2 fun x hx => ?_
  have := foldB_bd (bytesOk_get h hx)
  simpa using this
/-- The first place of a key among i. -/
def fstU (ks : List (List Int)) (k : List Int) : Nat → Option Nat
  | 0 => none
  | i + 1 => match fstU ks k i with
    | some j => some j
    | none => if ks.getD i [] = k then some i else none
/-- The last one. -/
def lstU (ks : List (List Int)) (k : List Int) : Nat → Option Nat
  | 0 => none
  | i + 1 => if ks.getD i [] = k then some i else lstU ks k i
def pickU (last : Bool) (ks : List (List Int)) (k : List Int) (i : Nat) : Option Nat := if last then lstU ks k i else fstU ks k i
theorem fstU_lt {ks : List (List Int)} {k : List Int} {n j : Nat} (h : fstU ks k n = some j) : j < n := by
  induction n with
  | zero => cases h
  | succ n ih =>
    rw [fstU] at h
    split at h
    · rename_i q hq
      have : q = j := by injection h
      have := ih (by rw [hq, this])
      omega
    · split at h
      · have : n = j := by injection h
        omega
      · cases h
theorem lstU_lt {ks : List (List Int)} {k : List Int} {n j : Nat} (h : lstU ks k n = some j) : j < n := by
  induction n with
  | zero => cases h
  | succ n ih =>
    rw [lstU] at h
    split at h
    · have : n = j := by injection h
      omega
    · have := ih h
      omega
def actOld (mode : Int) (ok nk : List (List Int)) (lt : Nat → Nat → Bool) (i : Nat) : Int × Int × Int :=
  match lstU nk (ok.getD i []) nk.length with
  | none => if mode = 4 then (4, i, -1) else (1, i, -1)
  | some j => if fstU ok (ok.getD i []) ok.length = some i ∧ (mode = 1 ∨ lt j i = true) then (2, i, j) else (1, i, -1)
def isNew (mode : Int) (ok nk : List (List Int)) (j : Nat) : Bool := decide (mode ≠ 3 ∧ fstU ok (nk.getD j []) ok.length = none ∧ lstU nk (nk.getD j []) nk.length = some j)
def olds (mode : Int) (ok nk : List (List Int)) (lt : Nat → Nat → Bool) (n : Nat) : List (Int × Int × Int) := (List.range n).map (actOld mode ok nk lt)
def news (mode : Int) (ok nk : List (List Int)) (n : Nat) : List (Int × Int × Int) := ((List.range n).filter (isNew mode ok nk)).map fun (j : Nat) => (3, -1, (j : Int))
theorem olds_succ (mode : Int) (ok nk : List (List Int)) (lt : Nat → Nat → Bool) (n : Nat) : olds mode ok nk lt (n + 1) = olds mode ok nk lt n ++ [actOld mode ok nk lt n] := by simp [olds, List.range_succ]
theorem news_yes {mode : Int} {ok nk : List (List Int)} {n : Nat} (h : isNew mode ok nk n = true) : news mode ok nk (n + 1) = news mode ok nk n ++ [(3, -1, (n : Int))] := by simp [news, List.range_succ, List.filter_append, h]
theorem news_no {mode : Int} {ok nk : List (List Int)} {n : Nat} (h : isNew mode ok nk n = false) : news mode ok nk (n + 1) = news mode ok nk n := by simp [news, List.range_succ, List.filter_append, h]
theorem news_len (mode : Int) (ok nk : List (List Int)) (n : Nat) : (news mode ok nk n).length ≤ n := by
  simp only [news, List.length_map]
  exact Nat.le_trans (List.length_filter_le _ _) (by simp)
end Go.Proofs.Ytgobiibalepaaaa
