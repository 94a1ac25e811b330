/- The texts of functions, for runs that are known throughout. Printed by a program of this place (wip/gx/ux.py). No condition. -/
import Derived.Test.YtephmpbccajaaaaBack
import Derived.Test.YtephmpbccajaaaaProg
namespace Go.Proofs.Ytephmpbccajaaaa.Gx
open Go
set_option linter.unusedVariables false
theorem mixed_okU : Try.prog.follows .mixedOrders = true := by kernel_rfl
def LV10 (k : Nat) : Option (List Nat) := bif Nat.beq k 6 then some [1, 5, 22, 23] else none
def LV11 (k : Nat) : Option (List Nat) := none
def LV31 (k : Nat) : Option (List Nat) := bif Nat.beq k 5 then some [3, 9, 10, 11] else none
def LV32 (k : Nat) : Option (List Nat) := none
def LV33 (k : Nat) : Option (List Nat) := none
def LV34 (k : Nat) : Option (List Nat) := none
def LV35 (k : Nat) : Option (List Nat) := none
def LV36 (k : Nat) : Option (List Nat) := none
def LV37 (k : Nat) : Option (List Nat) := none
def LV47 (k : Nat) : Option (List Nat) := bif Nat.beq k 9 then some [0, 1, 2, 6, 7, 8] else (bif Nat.beq k 7 then some [0, 1, 2, 6] else (bif Nat.beq k 2 then some [0, 1, 2, 6, 7, 8] else none))
def LV48 (k : Nat) : Option (List Nat) := none
def LV49 (k : Nat) : Option (List Nat) := bif Nat.beq k 1 then some [0, 1, 3] else none
def LV50 (k : Nat) : Option (List Nat) := none
def LV51 (k : Nat) : Option (List Nat) := none
def LV52 (k : Nat) : Option (List Nat) := none
def LV59 (k : Nat) : Option (List Nat) := bif Nat.beq k 4 then some [0, 1, 2, 3, 8, 9] else (bif Nat.beq k 1 then some [0, 1, 2, 3, 8] else none)
def LV60 (k : Nat) : Option (List Nat) := bif Nat.beq k 33 then some [0, 1, 2, 3, 4, 18, 19, 20, 21, 22] else (bif Nat.beq k 21 then some [0, 14, 17] else (bif Nat.beq k 15 then some [0, 2, 4, 14, 15] else (bif Nat.beq k 9 then some [0, 10, 13] else (bif Nat.beq k 3 then some [0, 1, 4, 10, 11] else none))))
def LV61 (k : Nat) : Option (List Nat) := none
def LV62 (k : Nat) : Option (List Nat) := bif Nat.beq k 2 then some [0, 1, 7, 8] else none
def LV64 (k : Nat) : Option (List Nat) := bif Nat.beq k 2 then some [0, 2, 4, 10, 11] else none
def LV65 (k : Nat) : Option (List Nat) := bif Nat.beq k 1 then some [0, 1, 2, 3, 10] else none
noncomputable def UX (f : FuncId) : Option (Func × (Nat → Option (List Nat))) :=
  bif Nat.beq f 10 then some (Try.f10, LV10) else
  bif Nat.beq f 11 then some (Try.f11, LV11) else
  bif Nat.beq f 31 then some (Try.f31, LV31) else
  bif Nat.beq f 32 then some (Try.f32, LV32) else
  bif Nat.beq f 33 then some (Try.f33, LV33) else
  bif Nat.beq f 34 then some (Try.f34, LV34) else
  bif Nat.beq f 35 then some (Try.f35, LV35) else
  bif Nat.beq f 36 then some (Try.f36, LV36) else
  bif Nat.beq f 37 then some (Try.f37, LV37) else
  bif Nat.beq f 47 then some (Try.f47, LV47) else
  bif Nat.beq f 48 then some (Try.f48, LV48) else
  bif Nat.beq f 49 then some (Try.f49, LV49) else
  bif Nat.beq f 50 then some (Try.f50, LV50) else
  bif Nat.beq f 51 then some (Try.f51, LV51) else
  bif Nat.beq f 52 then some (Try.f52, LV52) else
  bif Nat.beq f 59 then some (Try.f59, LV59) else
  bif Nat.beq f 60 then some (Try.f60, LV60) else
  bif Nat.beq f 61 then some (Try.f61, LV61) else
  bif Nat.beq f 62 then some (Try.f62, LV62) else
  bif Nat.beq f 64 then some (Try.f64, LV64) else
  bif Nat.beq f 65 then some (Try.f65, LV65) else
  none
theorem UX_ok : ∀ f fn LV, UX f = some (fn, LV) → Try.prog.funcs[f]? = some fn ∧ (fn.name == "runtime.NumGoroutine") = false := by
  intro f fn LV h
  unfold UX at h
  cases hb : Nat.beq f 10 with
  | true => rw [hb] at h; obtain rfl := Nat.eq_of_beq_eq_true hb; cases h; exact ⟨Try.func10, by kernel_rfl⟩
  | false =>
  rw [hb] at h
  simp only [cond_false] at h
  cases hb : Nat.beq f 11 with
  | true => rw [hb] at h; obtain rfl := Nat.eq_of_beq_eq_true hb; cases h; exact ⟨Try.func11, by kernel_rfl⟩
  | false =>
  rw [hb] at h
  simp only [cond_false] at h
  cases hb : Nat.beq f 31 with
  | true => rw [hb] at h; obtain rfl := Nat.eq_of_beq_eq_true hb; cases h; exact ⟨Try.func31, by kernel_rfl⟩
  | false =>
  rw [hb] at h
  simp only [cond_false] at h
  cases hb : Nat.beq f 32 with
  | true => rw [hb] at h; obtain rfl := Nat.eq_of_beq_eq_true hb; cases h; exact ⟨Try.func32, by kernel_rfl⟩
  | false =>
  rw [hb] at h
  simp only [cond_false] at h
  cases hb : Nat.beq f 33 with
  | true => rw [hb] at h; obtain rfl := Nat.eq_of_beq_eq_true hb; cases h; exact ⟨Try.func33, by kernel_rfl⟩
  | false =>
  rw [hb] at h
  simp only [cond_false] at h
  cases hb : Nat.beq f 34 with
  | true => rw [hb] at h; obtain rfl := Nat.eq_of_beq_eq_true hb; cases h; exact ⟨Try.func34, by kernel_rfl⟩
  | false =>
  rw [hb] at h
  simp only [cond_false] at h
  cases hb : Nat.beq f 35 with
  | true => rw [hb] at h; obtain rfl := Nat.eq_of_beq_eq_true hb; cases h; exact ⟨Try.func35, by kernel_rfl⟩
  | false =>
  rw [hb] at h
  simp only [cond_false] at h
  cases hb : Nat.beq f 36 with
  | true => rw [hb] at h; obtain rfl := Nat.eq_of_beq_eq_true hb; cases h; exact ⟨Try.func36, by kernel_rfl⟩
  | false =>
  rw [hb] at h
  simp only [cond_false] at h
  cases hb : Nat.beq f 37 with
  | true => rw [hb] at h; obtain rfl := Nat.eq_of_beq_eq_true hb; cases h; exact ⟨Try.func37, by kernel_rfl⟩
  | false =>
  rw [hb] at h
  simp only [cond_false] at h
  cases hb : Nat.beq f 47 with
  | true => rw [hb] at h; obtain rfl := Nat.eq_of_beq_eq_true hb; cases h; exact ⟨Try.func47, by kernel_rfl⟩
  | false =>
  rw [hb] at h
  simp only [cond_false] at h
  cases hb : Nat.beq f 48 with
  | true => rw [hb] at h; obtain rfl := Nat.eq_of_beq_eq_true hb; cases h; exact ⟨Try.func48, by kernel_rfl⟩
  | false =>
  rw [hb] at h
  simp only [cond_false] at h
  cases hb : Nat.beq f 49 with
  | true => rw [hb] at h; obtain rfl := Nat.eq_of_beq_eq_true hb; cases h; exact ⟨Try.func49, by kernel_rfl⟩
  | false =>
  rw [hb] at h
  simp only [cond_false] at h
  cases hb : Nat.beq f 50 with
  | true => rw [hb] at h; obtain rfl := Nat.eq_of_beq_eq_true hb; cases h; exact ⟨Try.func50, by kernel_rfl⟩
  | false =>
  rw [hb] at h
  simp only [cond_false] at h
  cases hb : Nat.beq f 51 with
  | true => rw [hb] at h; obtain rfl := Nat.eq_of_beq_eq_true hb; cases h; exact ⟨Try.func51, by kernel_rfl⟩
  | false =>
  rw [hb] at h
  simp only [cond_false] at h
  cases hb : Nat.beq f 52 with
  | true => rw [hb] at h; obtain rfl := Nat.eq_of_beq_eq_true hb; cases h; exact ⟨Try.func52, by kernel_rfl⟩
  | false =>
  rw [hb] at h
  simp only [cond_false] at h
  cases hb : Nat.beq f 59 with
  | true => rw [hb] at h; obtain rfl := Nat.eq_of_beq_eq_true hb; cases h; exact ⟨Try.func59, by kernel_rfl⟩
  | false =>
  rw [hb] at h
  simp only [cond_false] at h
  cases hb : Nat.beq f 60 with
  | true => rw [hb] at h; obtain rfl := Nat.eq_of_beq_eq_true hb; cases h; exact ⟨Try.func60, by kernel_rfl⟩
  | false =>
  rw [hb] at h
  simp only [cond_false] at h
  cases hb : Nat.beq f 61 with
  | true => rw [hb] at h; obtain rfl := Nat.eq_of_beq_eq_true hb; cases h; exact ⟨Try.func61, by kernel_rfl⟩
  | false =>
  rw [hb] at h
  simp only [cond_false] at h
  cases hb : Nat.beq f 62 with
  | true => rw [hb] at h; obtain rfl := Nat.eq_of_beq_eq_true hb; cases h; exact ⟨Try.func62, by kernel_rfl⟩
  | false =>
  rw [hb] at h
  simp only [cond_false] at h
  cases hb : Nat.beq f 64 with
  | true => rw [hb] at h; obtain rfl := Nat.eq_of_beq_eq_true hb; cases h; exact ⟨Try.func64, by kernel_rfl⟩
  | false =>
  rw [hb] at h
  simp only [cond_false] at h
  cases hb : Nat.beq f 65 with
  | true => rw [hb] at h; obtain rfl := Nat.eq_of_beq_eq_true hb; cases h; exact ⟨Try.func65, by kernel_rfl⟩
  | false =>
  rw [hb] at h
  simp only [cond_false] at h
  cases h
def UE {β : Type} : Orc β := fun f args h K => none
theorem UE_sim {β : Type} : SimOrc Try.prog (UE (β := β)) := by
  intro f args h K r hc
  unfold UE at hc
  cases hc
theorem F_law06_lives_run : uorc Try.prog backs UX UE rounds 60 11 [] GH.empty (fun v _ => exB (some v) fun b => some b) = some true := by kernel_rfl
section
variable {β : Type}
/-- duffel/duffellaw06.lives, run by the kernel: true. -/
def F_law06_lives (h : GH) (K : Bool → GH → Option β) : Option β := K true h
theorem F_law06_lives_sim {r : β} {h : GH} {K : Value → GH → Option β} (hc : F_law06_lives h (fun b h' => K (Value.bool b) h') = some r) : ∃ v h', K v h' = some r ∧ CallSim Try.prog 11 [] h v h' := by
  obtain ⟨v, h', hk, hs⟩ := uorc_sim backs_ok mixed_okU UX_ok UE_sim 60 _ _ _ _ _ F_law06_lives_run
  obtain ⟨u, e, hk⟩ := exB_v hk
  cases e
  cases hk
  rcases hs with hs | hs
  · exact ⟨_, h, hc, hs.alone⟩
  · exact (ext_no hs Try.func11 (by kernel_rfl)).elim
end
end Go.Proofs.Ytephmpbccajaaaa.Gx
