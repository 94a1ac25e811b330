/- The texts of functions, for runs that are known throughout. Printed by a program of this place (wip/gx/ux.py). No condition. -/
import Derived.Test.YtplkdjbcdeakaaaGxQ
import Derived.Test.YtplkdjbcdeakaaaProg
namespace Go.Proofs.Ytplkdjbcdeakaaa.Gx
open Go
set_option linter.unusedVariables false
theorem mixed_okU : Try.prog.follows .mixedOrders = true := by kernel_rfl
def LV9 (k : Nat) : Option (List Nat) := none
def LV11 (k : Nat) : Option (List Nat) := none
def LV14 (k : Nat) : Option (List Nat) := none
def LV15 (k : Nat) : Option (List Nat) := none
def LV17 (k : Nat) : Option (List Nat) := none
def LV18 (k : Nat) : Option (List Nat) := none
def LV23 (k : Nat) : Option (List Nat) := none
def LV24 (k : Nat) : Option (List Nat) := none
def LV25 (k : Nat) : Option (List Nat) := none
def LV26 (k : Nat) : Option (List Nat) := none
def LV27 (k : Nat) : Option (List Nat) := none
def LV28 (k : Nat) : Option (List Nat) := bif Nat.beq k 12 then some [0, 1, 2] else (bif Nat.beq k 9 then some [0, 1, 2] else none)
def LV32 (k : Nat) : Option (List Nat) := none
def LV33 (k : Nat) : Option (List Nat) := none
def LV34 (k : Nat) : Option (List Nat) := none
def LV38 (k : Nat) : Option (List Nat) := none
def LV39 (k : Nat) : Option (List Nat) := none
noncomputable def UX (f : FuncId) : Option (Func × (Nat → Option (List Nat))) :=
  bif Nat.beq f 9 then some (Try.f9, LV9) else
  bif Nat.beq f 11 then some (Try.f11, LV11) else
  bif Nat.beq f 14 then some (Try.f14, LV14) else
  bif Nat.beq f 15 then some (Try.f15, LV15) else
  bif Nat.beq f 17 then some (Try.f17, LV17) else
  bif Nat.beq f 18 then some (Try.f18, LV18) else
  bif Nat.beq f 23 then some (Try.f23, LV23) else
  bif Nat.beq f 24 then some (Try.f24, LV24) else
  bif Nat.beq f 25 then some (Try.f25, LV25) else
  bif Nat.beq f 26 then some (Try.f26, LV26) else
  bif Nat.beq f 27 then some (Try.f27, LV27) else
  bif Nat.beq f 28 then some (Try.f28, LV28) else
  bif Nat.beq f 32 then some (Try.f32, LV32) else
  bif Nat.beq f 33 then some (Try.f33, LV33) else
  bif Nat.beq f 34 then some (Try.f34, LV34) else
  bif Nat.beq f 38 then some (Try.f38, LV38) else
  bif Nat.beq f 39 then some (Try.f39, LV39) else
  none
theorem UX_ok : ∀ f fn LV, UX f = some (fn, LV) → Try.prog.funcs[f]? = some fn ∧ (fn.name == "runtime.NumGoroutine") = false := by
  intro f fn LV h
  unfold UX at h
  cases hb : Nat.beq f 9 with
  | true => rw [hb] at h; obtain rfl := Nat.eq_of_beq_eq_true hb; cases h; exact ⟨Try.func9, by kernel_rfl⟩
  | false =>
  rw [hb] at h
  simp only [cond_false] at h
  cases hb : Nat.beq f 11 with
  | true => rw [hb] at h; obtain rfl := Nat.eq_of_beq_eq_true hb; cases h; exact ⟨Try.func11, by kernel_rfl⟩
  | false =>
  rw [hb] at h
  simp only [cond_false] at h
  cases hb : Nat.beq f 14 with
  | true => rw [hb] at h; obtain rfl := Nat.eq_of_beq_eq_true hb; cases h; exact ⟨Try.func14, by kernel_rfl⟩
  | false =>
  rw [hb] at h
  simp only [cond_false] at h
  cases hb : Nat.beq f 15 with
  | true => rw [hb] at h; obtain rfl := Nat.eq_of_beq_eq_true hb; cases h; exact ⟨Try.func15, by kernel_rfl⟩
  | false =>
  rw [hb] at h
  simp only [cond_false] at h
  cases hb : Nat.beq f 17 with
  | true => rw [hb] at h; obtain rfl := Nat.eq_of_beq_eq_true hb; cases h; exact ⟨Try.func17, by kernel_rfl⟩
  | false =>
  rw [hb] at h
  simp only [cond_false] at h
  cases hb : Nat.beq f 18 with
  | true => rw [hb] at h; obtain rfl := Nat.eq_of_beq_eq_true hb; cases h; exact ⟨Try.func18, by kernel_rfl⟩
  | false =>
  rw [hb] at h
  simp only [cond_false] at h
  cases hb : Nat.beq f 23 with
  | true => rw [hb] at h; obtain rfl := Nat.eq_of_beq_eq_true hb; cases h; exact ⟨Try.func23, by kernel_rfl⟩
  | false =>
  rw [hb] at h
  simp only [cond_false] at h
  cases hb : Nat.beq f 24 with
  | true => rw [hb] at h; obtain rfl := Nat.eq_of_beq_eq_true hb; cases h; exact ⟨Try.func24, by kernel_rfl⟩
  | false =>
  rw [hb] at h
  simp only [cond_false] at h
  cases hb : Nat.beq f 25 with
  | true => rw [hb] at h; obtain rfl := Nat.eq_of_beq_eq_true hb; cases h; exact ⟨Try.func25, by kernel_rfl⟩
  | false =>
  rw [hb] at h
  simp only [cond_false] at h
  cases hb : Nat.beq f 26 with
  | true => rw [hb] at h; obtain rfl := Nat.eq_of_beq_eq_true hb; cases h; exact ⟨Try.func26, by kernel_rfl⟩
  | false =>
  rw [hb] at h
  simp only [cond_false] at h
  cases hb : Nat.beq f 27 with
  | true => rw [hb] at h; obtain rfl := Nat.eq_of_beq_eq_true hb; cases h; exact ⟨Try.func27, by kernel_rfl⟩
  | false =>
  rw [hb] at h
  simp only [cond_false] at h
  cases hb : Nat.beq f 28 with
  | true => rw [hb] at h; obtain rfl := Nat.eq_of_beq_eq_true hb; cases h; exact ⟨Try.func28, by kernel_rfl⟩
  | false =>
  rw [hb] at h
  simp only [cond_false] at h
  cases hb : Nat.beq f 32 with
  | true => rw [hb] at h; obtain rfl := Nat.eq_of_beq_eq_true hb; cases h; exact ⟨Try.func32, by kernel_rfl⟩
  | false =>
  rw [hb] at h
  simp only [cond_false] at h
  cases hb : Nat.beq f 33 with
  | true => rw [hb] at h; obtain rfl := Nat.eq_of_beq_eq_true hb; cases h; exact ⟨Try.func33, by kernel_rfl⟩
  | false =>
  rw [hb] at h
  simp only [cond_false] at h
  cases hb : Nat.beq f 34 with
  | true => rw [hb] at h; obtain rfl := Nat.eq_of_beq_eq_true hb; cases h; exact ⟨Try.func34, by kernel_rfl⟩
  | false =>
  rw [hb] at h
  simp only [cond_false] at h
  cases hb : Nat.beq f 38 with
  | true => rw [hb] at h; obtain rfl := Nat.eq_of_beq_eq_true hb; cases h; exact ⟨Try.func38, by kernel_rfl⟩
  | false =>
  rw [hb] at h
  simp only [cond_false] at h
  cases hb : Nat.beq f 39 with
  | true => rw [hb] at h; obtain rfl := Nat.eq_of_beq_eq_true hb; cases h; exact ⟨Try.func39, by kernel_rfl⟩
  | false =>
  rw [hb] at h
  simp only [cond_false] at h
  cases h
def UE {β : Type} : Orc β := fun f args h K => none
theorem UE_sim {β : Type} : SimOrc Try.prog (UE (β := β)) := by
  intro f args h K r hc
  unfold UE at hc
  cases hc
theorem F_law13_lives_run : uorc Try.prog [] UX UE rounds 60 18 [] GH.empty (fun v _ => exB (some v) fun b => some b) = some true := by kernel_rfl
section
variable {β : Type}
/-- duffel/duffellaw13.lives, run by the kernel: true. -/
def F_law13_lives (h : GH) (K : Bool → GH → Option β) : Option β := K true h
theorem F_law13_lives_sim {r : β} {h : GH} {K : Value → GH → Option β} (hc : F_law13_lives h (fun b h' => K (Value.bool b) h') = some r) : ∃ v h', K v h' = some r ∧ CallSim Try.prog 18 [] h v h' := by
  obtain ⟨v, h', hk, hs⟩ := uorc_sim (fun f h => by cases h) mixed_okU UX_ok UE_sim 60 _ _ _ _ _ F_law13_lives_run
  obtain ⟨u, e, hk⟩ := exB_v hk
  cases e
  cases hk
  rcases hs with hs | hs
  · exact ⟨_, h, hc, hs.alone⟩
  · exact (ext_no hs Try.func18 (by kernel_rfl)).elim
end
end Go.Proofs.Ytplkdjbcdeakaaa.Gx
