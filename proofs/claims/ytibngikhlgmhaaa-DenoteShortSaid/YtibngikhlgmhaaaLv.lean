/- The texts of functions, for runs that are known throughout. Printed by a program of this place (wip/gx/ux.py). No condition. -/
import Derived.Test.YtibngikhlgmhaaaGxQ
import Derived.Test.YtibngikhlgmhaaaProg
namespace Go.Proofs.Ytibngikhlgmhaaa.Gx
open Go
set_option linter.unusedVariables false
theorem mixed_okU : Try.prog.follows .mixedOrders = true := by kernel_rfl
def LV9 (k : Nat) : Option (List Nat) := none
def LV11 (k : Nat) : Option (List Nat) := none
def LV14 (k : Nat) : Option (List Nat) := bif Nat.beq k 10 then some [5, 7, 9, 37, 38] else none
def LV20 (k : Nat) : Option (List Nat) := bif Nat.beq k 5 then some [0, 1, 6, 7, 21, 22, 23] else none
def LV24 (k : Nat) : Option (List Nat) := bif Nat.beq k 3 then some [0, 3] else none
def LV25 (k : Nat) : Option (List Nat) := bif Nat.beq k 2 then some [5, 6, 7] else none
def LV26 (k : Nat) : Option (List Nat) := none
def LV27 (k : Nat) : Option (List Nat) := none
def LV28 (k : Nat) : Option (List Nat) := none
def LV29 (k : Nat) : Option (List Nat) := none
def LV34 (k : Nat) : Option (List Nat) := none
def LV35 (k : Nat) : Option (List Nat) := bif Nat.beq k 13 then some [4, 50, 51, 52] else (bif Nat.beq k 4 then some [4, 5, 30, 31] else none)
def LV36 (k : Nat) : Option (List Nat) := none
def LV37 (k : Nat) : Option (List Nat) := none
def LV38 (k : Nat) : Option (List Nat) := none
def LV45 (k : Nat) : Option (List Nat) := none
def LV46 (k : Nat) : Option (List Nat) := none
def LV47 (k : Nat) : Option (List Nat) := none
def LV52 (k : Nat) : Option (List Nat) := bif Nat.beq k 2 then some [0, 1, 7] else none
def LV53 (k : Nat) : Option (List Nat) := none
def LV54 (k : Nat) : Option (List Nat) := none
def LV55 (k : Nat) : Option (List Nat) := bif Nat.beq k 3 then some [4, 5] else none
def LV56 (k : Nat) : Option (List Nat) := none
def LV57 (k : Nat) : Option (List Nat) := none
def LV60 (k : Nat) : Option (List Nat) := none
def LV61 (k : Nat) : Option (List Nat) := none
def LV62 (k : Nat) : Option (List Nat) := none
def LV63 (k : Nat) : Option (List Nat) := none
def LV64 (k : Nat) : Option (List Nat) := none
def LV65 (k : Nat) : Option (List Nat) := none
def LV66 (k : Nat) : Option (List Nat) := none
def LV67 (k : Nat) : Option (List Nat) := none
def LV73 (k : Nat) : Option (List Nat) := none
def LV74 (k : Nat) : Option (List Nat) := none
def LV75 (k : Nat) : Option (List Nat) := none
def LV76 (k : Nat) : Option (List Nat) := none
def LV77 (k : Nat) : Option (List Nat) := none
def LV78 (k : Nat) : Option (List Nat) := none
def LV84 (k : Nat) : Option (List Nat) := none
def LV85 (k : Nat) : Option (List Nat) := bif Nat.beq k 2 then some [0, 1, 7, 8] else none
def LV86 (k : Nat) : Option (List Nat) := none
def LV87 (k : Nat) : Option (List Nat) := none
def LV89 (k : Nat) : Option (List Nat) := none
def LV90 (k : Nat) : Option (List Nat) := none
def LV91 (k : Nat) : Option (List Nat) := none
def LV92 (k : Nat) : Option (List Nat) := none
def LV93 (k : Nat) : Option (List Nat) := none
def LV97 (k : Nat) : Option (List Nat) := bif Nat.beq k 3 then some [0, 1, 11, 12] else none
def LV98 (k : Nat) : Option (List Nat) := none
def LV99 (k : Nat) : Option (List Nat) := none
def LV101 (k : Nat) : Option (List Nat) := bif Nat.beq k 3 then some [5, 10, 11, 12] else none
def LV102 (k : Nat) : Option (List Nat) := none
noncomputable def UX (f : FuncId) : Option (Func × (Nat → Option (List Nat))) :=
  bif Nat.beq f 9 then some (Try.f9, LV9) else
  bif Nat.beq f 11 then some (Try.f11, LV11) else
  bif Nat.beq f 14 then some (Try.f14, LV14) else
  bif Nat.beq f 20 then some (Try.f20, LV20) else
  bif Nat.beq f 24 then some (Try.f24, LV24) else
  bif Nat.beq f 25 then some (Try.f25, LV25) else
  bif Nat.beq f 26 then some (Try.f26, LV26) else
  bif Nat.beq f 27 then some (Try.f27, LV27) else
  bif Nat.beq f 28 then some (Try.f28, LV28) else
  bif Nat.beq f 29 then some (Try.f29, LV29) else
  bif Nat.beq f 34 then some (Try.f34, LV34) else
  bif Nat.beq f 35 then some (Try.f35, LV35) else
  bif Nat.beq f 36 then some (Try.f36, LV36) else
  bif Nat.beq f 37 then some (Try.f37, LV37) else
  bif Nat.beq f 38 then some (Try.f38, LV38) else
  bif Nat.beq f 45 then some (Try.f45, LV45) else
  bif Nat.beq f 46 then some (Try.f46, LV46) else
  bif Nat.beq f 47 then some (Try.f47, LV47) else
  bif Nat.beq f 52 then some (Try.f52, LV52) else
  bif Nat.beq f 53 then some (Try.f53, LV53) else
  bif Nat.beq f 54 then some (Try.f54, LV54) else
  bif Nat.beq f 55 then some (Try.f55, LV55) else
  bif Nat.beq f 56 then some (Try.f56, LV56) else
  bif Nat.beq f 57 then some (Try.f57, LV57) else
  bif Nat.beq f 60 then some (Try.f60, LV60) else
  bif Nat.beq f 61 then some (Try.f61, LV61) else
  bif Nat.beq f 62 then some (Try.f62, LV62) else
  bif Nat.beq f 63 then some (Try.f63, LV63) else
  bif Nat.beq f 64 then some (Try.f64, LV64) else
  bif Nat.beq f 65 then some (Try.f65, LV65) else
  bif Nat.beq f 66 then some (Try.f66, LV66) else
  bif Nat.beq f 67 then some (Try.f67, LV67) else
  bif Nat.beq f 73 then some (Try.f73, LV73) else
  bif Nat.beq f 74 then some (Try.f74, LV74) else
  bif Nat.beq f 75 then some (Try.f75, LV75) else
  bif Nat.beq f 76 then some (Try.f76, LV76) else
  bif Nat.beq f 77 then some (Try.f77, LV77) else
  bif Nat.beq f 78 then some (Try.f78, LV78) else
  bif Nat.beq f 84 then some (Try.f84, LV84) else
  bif Nat.beq f 85 then some (Try.f85, LV85) else
  bif Nat.beq f 86 then some (Try.f86, LV86) else
  bif Nat.beq f 87 then some (Try.f87, LV87) else
  bif Nat.beq f 89 then some (Try.f89, LV89) else
  bif Nat.beq f 90 then some (Try.f90, LV90) else
  bif Nat.beq f 91 then some (Try.f91, LV91) else
  bif Nat.beq f 92 then some (Try.f92, LV92) else
  bif Nat.beq f 93 then some (Try.f93, LV93) else
  bif Nat.beq f 97 then some (Try.f97, LV97) else
  bif Nat.beq f 98 then some (Try.f98, LV98) else
  bif Nat.beq f 99 then some (Try.f99, LV99) else
  bif Nat.beq f 101 then some (Try.f101, LV101) else
  bif Nat.beq f 102 then some (Try.f102, LV102) else
  none
theorem UX_ok : ∀ f fn LV, UX f = some (fn, LV) → Try.prog.funcs[f]? = some fn ∧ (fn.name == "runtime.NumGoroutine") = false := by
  intro f fn LV h
  unfold UX at h
  cases hb : Nat.beq f 9 with
  | true => rw [hb] at h; obtain rfl := Nat.eq_of_beq_eq_true hb; cases h; exact ⟨Try.func9, by kernel_rfl⟩
  | false =>
  rw [hb] at h
  simp only [cond_false] at h
  cases hb : Nat.beq f 11 with
  | true => rw [hb] at h; obtain rfl := Nat.eq_of_beq_eq_true hb; cases h; exact ⟨Try.func11, by kernel_rfl⟩
  | false =>
  rw [hb] at h
  simp only [cond_false] at h
  cases hb : Nat.beq f 14 with
  | true => rw [hb] at h; obtain rfl := Nat.eq_of_beq_eq_true hb; cases h; exact ⟨Try.func14, by kernel_rfl⟩
  | false =>
  rw [hb] at h
  simp only [cond_false] at h
  cases hb : Nat.beq f 20 with
  | true => rw [hb] at h; obtain rfl := Nat.eq_of_beq_eq_true hb; cases h; exact ⟨Try.func20, by kernel_rfl⟩
  | false =>
  rw [hb] at h
  simp only [cond_false] at h
  cases hb : Nat.beq f 24 with
  | true => rw [hb] at h; obtain rfl := Nat.eq_of_beq_eq_true hb; cases h; exact ⟨Try.func24, by kernel_rfl⟩
  | false =>
  rw [hb] at h
  simp only [cond_false] at h
  cases hb : Nat.beq f 25 with
  | true => rw [hb] at h; obtain rfl := Nat.eq_of_beq_eq_true hb; cases h; exact ⟨Try.func25, by kernel_rfl⟩
  | false =>
  rw [hb] at h
  simp only [cond_false] at h
  cases hb : Nat.beq f 26 with
  | true => rw [hb] at h; obtain rfl := Nat.eq_of_beq_eq_true hb; cases h; exact ⟨Try.func26, by kernel_rfl⟩
  | false =>
  rw [hb] at h
  simp only [cond_false] at h
  cases hb : Nat.beq f 27 with
  | true => rw [hb] at h; obtain rfl := Nat.eq_of_beq_eq_true hb; cases h; exact ⟨Try.func27, by kernel_rfl⟩
  | false =>
  rw [hb] at h
  simp only [cond_false] at h
  cases hb : Nat.beq f 28 with
  | true => rw [hb] at h; obtain rfl := Nat.eq_of_beq_eq_true hb; cases h; exact ⟨Try.func28, by kernel_rfl⟩
  | false =>
  rw [hb] at h
  simp only [cond_false] at h
  cases hb : Nat.beq f 29 with
  | true => rw [hb] at h; obtain rfl := Nat.eq_of_beq_eq_true hb; cases h; exact ⟨Try.func29, by kernel_rfl⟩
  | false =>
  rw [hb] at h
  simp only [cond_false] at h
  cases hb : Nat.beq f 34 with
  | true => rw [hb] at h; obtain rfl := Nat.eq_of_beq_eq_true hb; cases h; exact ⟨Try.func34, by kernel_rfl⟩
  | false =>
  rw [hb] at h
  simp only [cond_false] at h
  cases hb : Nat.beq f 35 with
  | true => rw [hb] at h; obtain rfl := Nat.eq_of_beq_eq_true hb; cases h; exact ⟨Try.func35, by kernel_rfl⟩
  | false =>
  rw [hb] at h
  simp only [cond_false] at h
  cases hb : Nat.beq f 36 with
  | true => rw [hb] at h; obtain rfl := Nat.eq_of_beq_eq_true hb; cases h; exact ⟨Try.func36, by kernel_rfl⟩
  | false =>
  rw [hb] at h
  simp only [cond_false] at h
  cases hb : Nat.beq f 37 with
  | true => rw [hb] at h; obtain rfl := Nat.eq_of_beq_eq_true hb; cases h; exact ⟨Try.func37, by kernel_rfl⟩
  | false =>
  rw [hb] at h
  simp only [cond_false] at h
  cases hb : Nat.beq f 38 with
  | true => rw [hb] at h; obtain rfl := Nat.eq_of_beq_eq_true hb; cases h; exact ⟨Try.func38, by kernel_rfl⟩
  | false =>
  rw [hb] at h
  simp only [cond_false] at h
  cases hb : Nat.beq f 45 with
  | true => rw [hb] at h; obtain rfl := Nat.eq_of_beq_eq_true hb; cases h; exact ⟨Try.func45, by kernel_rfl⟩
  | false =>
  rw [hb] at h
  simp only [cond_false] at h
  cases hb : Nat.beq f 46 with
  | true => rw [hb] at h; obtain rfl := Nat.eq_of_beq_eq_true hb; cases h; exact ⟨Try.func46, by kernel_rfl⟩
  | false =>
  rw [hb] at h
  simp only [cond_false] at h
  cases hb : Nat.beq f 47 with
  | true => rw [hb] at h; obtain rfl := Nat.eq_of_beq_eq_true hb; cases h; exact ⟨Try.func47, by kernel_rfl⟩
  | false =>
  rw [hb] at h
  simp only [cond_false] at h
  cases hb : Nat.beq f 52 with
  | true => rw [hb] at h; obtain rfl := Nat.eq_of_beq_eq_true hb; cases h; exact ⟨Try.func52, by kernel_rfl⟩
  | false =>
  rw [hb] at h
  simp only [cond_false] at h
  cases hb : Nat.beq f 53 with
  | true => rw [hb] at h; obtain rfl := Nat.eq_of_beq_eq_true hb; cases h; exact ⟨Try.func53, by kernel_rfl⟩
  | false =>
  rw [hb] at h
  simp only [cond_false] at h
  cases hb : Nat.beq f 54 with
  | true => rw [hb] at h; obtain rfl := Nat.eq_of_beq_eq_true hb; cases h; exact ⟨Try.func54, by kernel_rfl⟩
  | false =>
  rw [hb] at h
  simp only [cond_false] at h
  cases hb : Nat.beq f 55 with
  | true => rw [hb] at h; obtain rfl := Nat.eq_of_beq_eq_true hb; cases h; exact ⟨Try.func55, by kernel_rfl⟩
  | false =>
  rw [hb] at h
  simp only [cond_false] at h
  cases hb : Nat.beq f 56 with
  | true => rw [hb] at h; obtain rfl := Nat.eq_of_beq_eq_true hb; cases h; exact ⟨Try.func56, by kernel_rfl⟩
  | false =>
  rw [hb] at h
  simp only [cond_false] at h
  cases hb : Nat.beq f 57 with
  | true => rw [hb] at h; obtain rfl := Nat.eq_of_beq_eq_true hb; cases h; exact ⟨Try.func57, by kernel_rfl⟩
  | false =>
  rw [hb] at h
  simp only [cond_false] at h
  cases hb : Nat.beq f 60 with
  | true => rw [hb] at h; obtain rfl := Nat.eq_of_beq_eq_true hb; cases h; exact ⟨Try.func60, by kernel_rfl⟩
  | false =>
  rw [hb] at h
  simp only [cond_false] at h
  cases hb : Nat.beq f 61 with
  | true => rw [hb] at h; obtain rfl := Nat.eq_of_beq_eq_true hb; cases h; exact ⟨Try.func61, by kernel_rfl⟩
  | false =>
  rw [hb] at h
  simp only [cond_false] at h
  cases hb : Nat.beq f 62 with
  | true => rw [hb] at h; obtain rfl := Nat.eq_of_beq_eq_true hb; cases h; exact ⟨Try.func62, by kernel_rfl⟩
  | false =>
  rw [hb] at h
  simp only [cond_false] at h
  cases hb : Nat.beq f 63 with
  | true => rw [hb] at h; obtain rfl := Nat.eq_of_beq_eq_true hb; cases h; exact ⟨Try.func63, by kernel_rfl⟩
  | false =>
  rw [hb] at h
  simp only [cond_false] at h
  cases hb : Nat.beq f 64 with
  | true => rw [hb] at h; obtain rfl := Nat.eq_of_beq_eq_true hb; cases h; exact ⟨Try.func64, by kernel_rfl⟩
  | false =>
  rw [hb] at h
  simp only [cond_false] at h
  cases hb : Nat.beq f 65 with
  | true => rw [hb] at h; obtain rfl := Nat.eq_of_beq_eq_true hb; cases h; exact ⟨Try.func65, by kernel_rfl⟩
  | false =>
  rw [hb] at h
  simp only [cond_false] at h
  cases hb : Nat.beq f 66 with
  | true => rw [hb] at h; obtain rfl := Nat.eq_of_beq_eq_true hb; cases h; exact ⟨Try.func66, by kernel_rfl⟩
  | false =>
  rw [hb] at h
  simp only [cond_false] at h
  cases hb : Nat.beq f 67 with
  | true => rw [hb] at h; obtain rfl := Nat.eq_of_beq_eq_true hb; cases h; exact ⟨Try.func67, by kernel_rfl⟩
  | false =>
  rw [hb] at h
  simp only [cond_false] at h
  cases hb : Nat.beq f 73 with
  | true => rw [hb] at h; obtain rfl := Nat.eq_of_beq_eq_true hb; cases h; exact ⟨Try.func73, by kernel_rfl⟩
  | false =>
  rw [hb] at h
  simp only [cond_false] at h
  cases hb : Nat.beq f 74 with
  | true => rw [hb] at h; obtain rfl := Nat.eq_of_beq_eq_true hb; cases h; exact ⟨Try.func74, by kernel_rfl⟩
  | false =>
  rw [hb] at h
  simp only [cond_false] at h
  cases hb : Nat.beq f 75 with
  | true => rw [hb] at h; obtain rfl := Nat.eq_of_beq_eq_true hb; cases h; exact ⟨Try.func75, by kernel_rfl⟩
  | false =>
  rw [hb] at h
  simp only [cond_false] at h
  cases hb : Nat.beq f 76 with
  | true => rw [hb] at h; obtain rfl := Nat.eq_of_beq_eq_true hb; cases h; exact ⟨Try.func76, by kernel_rfl⟩
  | false =>
  rw [hb] at h
  simp only [cond_false] at h
  cases hb : Nat.beq f 77 with
  | true => rw [hb] at h; obtain rfl := Nat.eq_of_beq_eq_true hb; cases h; exact ⟨Try.func77, by kernel_rfl⟩
  | false =>
  rw [hb] at h
  simp only [cond_false] at h
  cases hb : Nat.beq f 78 with
  | true => rw [hb] at h; obtain rfl := Nat.eq_of_beq_eq_true hb; cases h; exact ⟨Try.func78, by kernel_rfl⟩
  | false =>
  rw [hb] at h
  simp only [cond_false] at h
  cases hb : Nat.beq f 84 with
  | true => rw [hb] at h; obtain rfl := Nat.eq_of_beq_eq_true hb; cases h; exact ⟨Try.func84, by kernel_rfl⟩
  | false =>
  rw [hb] at h
  simp only [cond_false] at h
  cases hb : Nat.beq f 85 with
  | true => rw [hb] at h; obtain rfl := Nat.eq_of_beq_eq_true hb; cases h; exact ⟨Try.func85, by kernel_rfl⟩
  | false =>
  rw [hb] at h
  simp only [cond_false] at h
  cases hb : Nat.beq f 86 with
  | true => rw [hb] at h; obtain rfl := Nat.eq_of_beq_eq_true hb; cases h; exact ⟨Try.func86, by kernel_rfl⟩
  | false =>
  rw [hb] at h
  simp only [cond_false] at h
  cases hb : Nat.beq f 87 with
  | true => rw [hb] at h; obtain rfl := Nat.eq_of_beq_eq_true hb; cases h; exact ⟨Try.func87, by kernel_rfl⟩
  | false =>
  rw [hb] at h
  simp only [cond_false] at h
  cases hb : Nat.beq f 89 with
  | true => rw [hb] at h; obtain rfl := Nat.eq_of_beq_eq_true hb; cases h; exact ⟨Try.func89, by kernel_rfl⟩
  | false =>
  rw [hb] at h
  simp only [cond_false] at h
  cases hb : Nat.beq f 90 with
  | true => rw [hb] at h; obtain rfl := Nat.eq_of_beq_eq_true hb; cases h; exact ⟨Try.func90, by kernel_rfl⟩
  | false =>
  rw [hb] at h
  simp only [cond_false] at h
  cases hb : Nat.beq f 91 with
  | true => rw [hb] at h; obtain rfl := Nat.eq_of_beq_eq_true hb; cases h; exact ⟨Try.func91, by kernel_rfl⟩
  | false =>
  rw [hb] at h
  simp only [cond_false] at h
  cases hb : Nat.beq f 92 with
  | true => rw [hb] at h; obtain rfl := Nat.eq_of_beq_eq_true hb; cases h; exact ⟨Try.func92, by kernel_rfl⟩
  | false =>
  rw [hb] at h
  simp only [cond_false] at h
  cases hb : Nat.beq f 93 with
  | true => rw [hb] at h; obtain rfl := Nat.eq_of_beq_eq_true hb; cases h; exact ⟨Try.func93, by kernel_rfl⟩
  | false =>
  rw [hb] at h
  simp only [cond_false] at h
  cases hb : Nat.beq f 97 with
  | true => rw [hb] at h; obtain rfl := Nat.eq_of_beq_eq_true hb; cases h; exact ⟨Try.func97, by kernel_rfl⟩
  | false =>
  rw [hb] at h
  simp only [cond_false] at h
  cases hb : Nat.beq f 98 with
  | true => rw [hb] at h; obtain rfl := Nat.eq_of_beq_eq_true hb; cases h; exact ⟨Try.func98, by kernel_rfl⟩
  | false =>
  rw [hb] at h
  simp only [cond_false] at h
  cases hb : Nat.beq f 99 with
  | true => rw [hb] at h; obtain rfl := Nat.eq_of_beq_eq_true hb; cases h; exact ⟨Try.func99, by kernel_rfl⟩
  | false =>
  rw [hb] at h
  simp only [cond_false] at h
  cases hb : Nat.beq f 101 with
  | true => rw [hb] at h; obtain rfl := Nat.eq_of_beq_eq_true hb; cases h; exact ⟨Try.func101, by kernel_rfl⟩
  | false =>
  rw [hb] at h
  simp only [cond_false] at h
  cases hb : Nat.beq f 102 with
  | true => rw [hb] at h; obtain rfl := Nat.eq_of_beq_eq_true hb; cases h; exact ⟨Try.func102, by kernel_rfl⟩
  | false =>
  rw [hb] at h
  simp only [cond_false] at h
  cases h
def UE {β : Type} : Orc β := fun f args h K => none
theorem UE_sim {β : Type} : SimOrc Try.prog (UE (β := β)) := by
  intro f args h K r hc
  unfold UE at hc
  cases hc
theorem F_law26_lives_run : uorc Try.prog [] UX UE rounds 60 11 [] GH.empty (fun v _ => exB (some v) fun b => some b) = some true := by kernel_rfl
section
variable {β : Type}
/-- duffel/duffellaw26.lives, run by the kernel: true. -/
def F_law26_lives (h : GH) (K : Bool → GH → Option β) : Option β := K true h
theorem F_law26_lives_sim {r : β} {h : GH} {K : Value → GH → Option β} (hc : F_law26_lives h (fun b h' => K (Value.bool b) h') = some r) : ∃ v h', K v h' = some r ∧ CallSim Try.prog 11 [] h v h' := by
  obtain ⟨v, h', hk, hs⟩ := uorc_sim (fun f h => by cases h) mixed_okU UX_ok UE_sim 60 _ _ _ _ _ F_law26_lives_run
  obtain ⟨u, e, hk⟩ := exB_v hk
  cases e
  cases hk
  rcases hs with hs | hs
  · exact ⟨_, h, hc, hs.alone⟩
  · exact (ext_no hs Try.func11 (by kernel_rfl)).elim
end
end Go.Proofs.Ytibngikhlgmhaaa.Gx
