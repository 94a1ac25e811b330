/- What bytes are an archive of, in plain lists. No condition. -/
import Derived.Test.YtibngikhlgmhaaaDnA
import Derived.Test.YtibngikhlgmhaaaCenB
namespace Go.Proofs.Ytibngikhlgmhaaa.Gx
open Go
set_option linter.unusedVariables false
set_option linter.unusedSimpArgs false
/-- a central header -/
structure Cn where
  (a1 a2 a3 a4 a5 a6 a7 a8 : Int)
  (nm ex : List Int)
  (a11 a12 a13 a14 a15 : Int)
  (cm : List Int)
/-- so many bytes from a place on -/
def cutL (bs : List Int) (p n : Nat) : List Int := (bs.drop p).take n
def szN (bs : List Int) (p : Nat) : Nat := (fld bs p 2).toNat
def cenAt (bs : List Int) (p : Nat) : Cn :=
  ⟨fld bs (p + 6) 2, fld bs (p + 8) 2, fld bs (p + 10) 2, fld bs (p + 12) 2, fld bs (p + 14) 2, fld bs (p + 16) 4, fld bs (p + 20) 4, fld bs (p + 24) 4,
   cutL bs (p + 46) (szN bs (p + 28)), cutL bs (p + (46 + szN bs (p + 28))) (szN bs (p + 30)),
   fld bs (p + 4) 2, fld bs (p + 34) 2, fld bs (p + 36) 2, fld bs (p + 38) 4, fld bs (p + 42) 4,
   cutL bs (p + (46 + szN bs (p + 28) + szN bs (p + 30))) (szN bs (p + 32))⟩
def cenLen (bs : List Int) (p : Nat) : Nat := 46 + szN bs (p + 28) + szN bs (p + 30) + szN bs (p + 32)
def sigErr (bs : List Int) (p : Nat) (sg : Int) : Int := if bs.length < p + 4 then 3 else if fld bs p 4 ≠ sg then 13 else 0
def cenErr (bs : List Int) (p : Nat) : Int := if sigErr bs p 33639248 ≠ 0 then sigErr bs p 33639248 else if bs.length < p + 46 ∨ bs.length < p + cenLen bs p then 3 else 0
/-- a local header: its name, its extra field; the numbers by place -/
def locLen (bs : List Int) (p : Nat) : Nat := 30 + szN bs (p + 26) + szN bs (p + 28)
def locErr (bs : List Int) (p : Nat) : Int := if sigErr bs p 67324752 ≠ 0 then sigErr bs p 67324752 else if bs.length < p + 30 ∨ bs.length < p + locLen bs p then 3 else 0
structure Hd where
  (a1 a2 a3 a4 a5 a6 a7 a8 : Int)
  (nm ex : List Int)
def locAt (bs : List Int) (p : Nat) : Hd :=
  ⟨fld bs (p + 4) 2, fld bs (p + 6) 2, fld bs (p + 8) 2, fld bs (p + 10) 2, fld bs (p + 12) 2, fld bs (p + 14) 4, fld bs (p + 18) 4, fld bs (p + 22) 4,
   cutL bs (p + 30) (szN bs (p + 26)), cutL bs (p + (30 + szN bs (p + 26))) (szN bs (p + 28))⟩
/-- an end -/
structure En where
  (b1 b2 b3 b4 b5 b6 : Int)
  cm : List Int
def endAt (bs : List Int) (p : Nat) : En := ⟨fld bs (p + 4) 2, fld bs (p + 6) 2, fld bs (p + 8) 2, fld bs (p + 10) 2, fld bs (p + 12) 4, fld bs (p + 16) 4, cutL bs (p + 22) (szN bs (p + 20))⟩
def endLen (bs : List Int) (p : Nat) : Nat := 22 + szN bs (p + 20)
def endErr (bs : List Int) (p : Nat) : Int := if sigErr bs p 101010256 ≠ 0 then sigErr bs p 101010256 else if bs.length < p + 22 ∨ bs.length < p + endLen bs p then 3 else 0
def isEnd (bs : List Int) (i : Nat) : Prop := i + 22 ≤ bs.length ∧ fld bs i 4 = 101010256 ∧ i + 22 + szN bs (i + 20) = bs.length
instance (bs : List Int) (i : Nat) : Decidable (isEnd bs i) := inferInstanceAs (Decidable (_ ∧ _))
/-- the last place at which an end stands; -1: there is none -/
def lastEnd (bs : List Int) : Nat → Int
  | 0 => -1
  | k + 1 => if isEnd bs k then (k : Nat) else lastEnd bs k
def findE (bs : List Int) : Int := lastEnd bs (bs.length - 21)
theorem lastEnd_ge (bs : List Int) : ∀ k, -1 ≤ lastEnd bs k ∧ lastEnd bs k < (k : Nat)
  | 0 => by simp [lastEnd]
  | k + 1 => by
    have := lastEnd_ge bs k
    unfold lastEnd; split <;> omega
theorem lastEnd_is (bs : List Int) : ∀ k, 0 ≤ lastEnd bs k → isEnd bs (lastEnd bs k).toNat
  | 0, h => by simp [lastEnd] at h
  | k + 1, h => by
    unfold lastEnd at h ⊢
    split
    · rename_i c; rw [Int.toNat_natCast]; exact c
    · rename_i c; rw [if_neg c] at h; exact lastEnd_is bs k h
/-- central headers, one behind the other -/
def rdCens (bs : List Int) : Nat → Nat → Int × List Cn × Nat
  | 0, p => (0, [], p)
  | k + 1, p => if cenErr bs p ≠ 0 then (cenErr bs p, [], p) else ((rdCens bs k (p + cenLen bs p)).1, cenAt bs p :: (rdCens bs k (p + cenLen bs p)).2.1, (rdCens bs k (p + cenLen bs p)).2.2)
def chkN (c : Cn) : Int := chkC c.a1 c.a2 c.a3 c.a4 c.a5 c.a7 c.a8 c.a11 c.a12 c.a13 c.a15 c.ex
def chkCs : List Cn → Int
  | [] => 0
  | c :: l => if chkN c ≠ 0 then chkN c else chkCs l
/-- all central headers, or why none -/
def censP (bs : List Int) (total : Nat) : Int × List Cn :=
  if (rdCens bs total 0).1 ≠ 0 then ((rdCens bs total 0).1, [])
  else if (rdCens bs total 0).2.2 < bs.length then (14, [])
  else if chkCs (rdCens bs total 0).2.1 ≠ 0 then (chkCs (rdCens bs total 0).2.1, [])
  else (0, (rdCens bs total 0).2.1)
/-- an item -/
structure It where
  c : Cn
  ex : List Int
  da : List Int
def sameH (h : Hd) (c : Cn) : Prop := h.a1 = c.a1 ∧ h.a2 = c.a2 ∧ h.a3 = c.a3 ∧ h.a4 = c.a4 ∧ h.a5 = c.a5 ∧ h.a6 = c.a6 ∧ h.a7 = c.a7 ∧ h.a8 = c.a8 ∧ h.nm = c.nm
instance (h : Hd) (c : Cn) : Decidable (sameH h c) := inferInstanceAs (Decidable (_ ∧ _))
/-- why a local header with its data may not be; 0: it may -/
def oneErr (bs : List Int) (c : Cn) (p : Nat) : Int :=
  if c.a15 ≠ (p : Nat) then 14 else if locErr bs p ≠ 0 then locErr bs p else if ¬ sameH (locAt bs p) c then 15
  else if chkX (locAt bs p).ex ≠ 0 then chkX (locAt bs p).ex else if (locAt bs p).a7 > (bs.length : Int) - ((p + locLen bs p : Nat) : Int) then 14 else 0
def oneIt (bs : List Int) (c : Cn) (p : Nat) : It := ⟨c, (locAt bs p).ex, cutL bs (p + locLen bs p) (locAt bs p).a7.toNat⟩
def oneLen (bs : List Int) (p : Nat) : Nat := locLen bs p + (locAt bs p).a7.toNat
def rdLocs (bs : List Int) : List Cn → Nat → Int × List It × Nat
  | [], p => (0, [], p)
  | c :: l, p => if oneErr bs c p ≠ 0 then (oneErr bs c p, [], p) else ((rdLocs bs l (p + oneLen bs p)).1, oneIt bs c p :: (rdLocs bs l (p + oneLen bs p)).2.1, (rdLocs bs l (p + oneLen bs p)).2.2)
structure SR where
  err : Int
  its : List It
  cm : List Int
def endOk (x : En) (at_ : Int) : Int := if x.b1 ≠ 0 ∨ x.b2 ≠ 0 ∨ x.b3 ≠ x.b4 ∨ x.b5 = 4294967295 ∨ x.b6 = 4294967295 then 12 else if x.b6 + x.b5 ≠ at_ then 14 else 0
def endE (bs : List Int) : Int := if findE bs < 0 then 13 else endOk (endAt bs (findE bs).toNat) (findE bs)
/-- the end; the central headers; the items -/
def scX (bs : List Int) : En := endAt bs (findE bs).toNat
def scCs (bs : List Int) : Int × List Cn := censP ((bs.take (findE bs).toNat).drop (scX bs).b6.toNat) (scX bs).b4.toNat
def scLs (bs : List Int) : Int × List It × Nat := rdLocs (bs.take (scX bs).b6.toNat) (scCs bs).2 0
/-- what bytes are an archive of -/
def scanP (bs : List Int) : SR :=
  if endE bs ≠ 0 then ⟨endE bs, [], []⟩ else if (scCs bs).1 ≠ 0 then ⟨(scCs bs).1, [], []⟩
  else if (scLs bs).1 ≠ 0 then ⟨(scLs bs).1, [], []⟩ else if (scLs bs).2.2 < (bs.take (scX bs).b6.toNat).length then ⟨14, [], []⟩ else ⟨0, (scLs bs).2.1, (scX bs).cm⟩
theorem isEnd_ok {bs : List Int} {i : Nat} (h : isEnd bs i) : endErr (bs.drop i) 0 = 0 ∧ endAt (bs.drop i) 0 = endAt bs i := by
  obtain ⟨h1, h2, h3⟩ := h
  have hf : ∀ k n, fld (bs.drop i) (0 + k) n = fld bs (i + k) n := fun k n => by unfold fld; rw [List.drop_drop, Nat.zero_add]
  have hz : ∀ k, szN (bs.drop i) (0 + k) = szN bs (i + k) := fun k => by unfold szN; rw [hf]
  have hl : (bs.drop i).length = bs.length - i := List.length_drop
  have hs : sigErr (bs.drop i) 0 101010256 = 0 := by
    unfold sigErr
    have := hf 0 4
    rw [Nat.add_zero, Nat.add_zero, h2] at this
    rw [if_neg (by omega), if_neg (by rw [this]; simp)]
  constructor
  · unfold endErr
    rw [hs, if_neg (by simp), endLen, hz, if_neg (by omega)]
  · unfold endAt
    rw [hf, hf, hf, hf, hf, hf, hz]
    unfold cutL
    rw [List.drop_drop, Nat.zero_add]
end Go.Proofs.Ytibngikhlgmhaaa.Gx

