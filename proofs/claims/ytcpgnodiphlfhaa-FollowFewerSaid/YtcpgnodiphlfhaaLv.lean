/- The texts of functions, for runs that are known throughout. Printed by a program of this place (wip/gx/ux.py). No condition. -/
import Derived.Test.YtcpgnodiphlfhaaGxQ
import Derived.Test.YtcpgnodiphlfhaaProg
namespace Go.Proofs.Ytcpgnodiphlfhaa.Gx
open Go
set_option linter.unusedVariables false
theorem mixed_okU : Try.prog.follows .mixedOrders = true := by kernel_rfl
def LV10 (k : Nat) : Option (List Nat) := none
def LV11 (k : Nat) : Option (List Nat) := none
def LV13 (k : Nat) : Option (List Nat) := none
def LV14 (k : Nat) : Option (List Nat) := none
def LV18 (k : Nat) : Option (List Nat) := none
def LV19 (k : Nat) : Option (List Nat) := none
def LV20 (k : Nat) : Option (List Nat) := bif Nat.beq k 4 then some [0] else none
def LV21 (k : Nat) : Option (List Nat) := none
def LV26 (k : Nat) : Option (List Nat) := none
def LV32 (k : Nat) : Option (List Nat) := none
def LV33 (k : Nat) : Option (List Nat) := none
noncomputable def UX (f : FuncId) : Option (Func × (Nat → Option (List Nat))) :=
  bif Nat.beq f 10 then some (Try.f10, LV10) else
  bif Nat.beq f 11 then some (Try.f11, LV11) else
  bif Nat.beq f 13 then some (Try.f13, LV13) else
  bif Nat.beq f 14 then some (Try.f14, LV14) else
  bif Nat.beq f 18 then some (Try.f18, LV18) else
  bif Nat.beq f 19 then some (Try.f19, LV19) else
  bif Nat.beq f 20 then some (Try.f20, LV20) else
  bif Nat.beq f 21 then some (Try.f21, LV21) else
  bif Nat.beq f 26 then some (Try.f26, LV26) else
  bif Nat.beq f 32 then some (Try.f32, LV32) else
  bif Nat.beq f 33 then some (Try.f33, LV33) else
  none
theorem UX_ok : ∀ f fn LV, UX f = some (fn, LV) → Try.prog.funcs[f]? = some fn ∧ (fn.name == "runtime.NumGoroutine") = false := by
  intro f fn LV h
  unfold UX at h
  cases hb : Nat.beq f 10 with
  | true => rw [hb] at h; obtain rfl := Nat.eq_of_beq_eq_true hb; cases h; exact ⟨Try.func10, by kernel_rfl⟩
  | false =>
  rw [hb] at h
  simp only [cond_false] at h
  cases hb : Nat.beq f 11 with
  | true => rw [hb] at h; obtain rfl := Nat.eq_of_beq_eq_true hb; cases h; exact ⟨Try.func11, by kernel_rfl⟩
  | false =>
  rw [hb] at h
  simp only [cond_false] at h
  cases hb : Nat.beq f 13 with
  | true => rw [hb] at h; obtain rfl := Nat.eq_of_beq_eq_true hb; cases h; exact ⟨Try.func13, by kernel_rfl⟩
  | false =>
  rw [hb] at h
  simp only [cond_false] at h
  cases hb : Nat.beq f 14 with
  | true => rw [hb] at h; obtain rfl := Nat.eq_of_beq_eq_true hb; cases h; exact ⟨Try.func14, by kernel_rfl⟩
  | false =>
  rw [hb] at h
  simp only [cond_false] at h
  cases hb : Nat.beq f 18 with
  | true => rw [hb] at h; obtain rfl := Nat.eq_of_beq_eq_true hb; cases h; exact ⟨Try.func18, by kernel_rfl⟩
  | false =>
  rw [hb] at h
  simp only [cond_false] at h
  cases hb : Nat.beq f 19 with
  | true => rw [hb] at h; obtain rfl := Nat.eq_of_beq_eq_true hb; cases h; exact ⟨Try.func19, by kernel_rfl⟩
  | false =>
  rw [hb] at h
  simp only [cond_false] at h
  cases hb : Nat.beq f 20 with
  | true => rw [hb] at h; obtain rfl := Nat.eq_of_beq_eq_true hb; cases h; exact ⟨Try.func20, by kernel_rfl⟩
  | false =>
  rw [hb] at h
  simp only [cond_false] at h
  cases hb : Nat.beq f 21 with
  | true => rw [hb] at h; obtain rfl := Nat.eq_of_beq_eq_true hb; cases h; exact ⟨Try.func21, by kernel_rfl⟩
  | false =>
  rw [hb] at h
  simp only [cond_false] at h
  cases hb : Nat.beq f 26 with
  | true => rw [hb] at h; obtain rfl := Nat.eq_of_beq_eq_true hb; cases h; exact ⟨Try.func26, by kernel_rfl⟩
  | false =>
  rw [hb] at h
  simp only [cond_false] at h
  cases hb : Nat.beq f 32 with
  | true => rw [hb] at h; obtain rfl := Nat.eq_of_beq_eq_true hb; cases h; exact ⟨Try.func32, by kernel_rfl⟩
  | false =>
  rw [hb] at h
  simp only [cond_false] at h
  cases hb : Nat.beq f 33 with
  | true => rw [hb] at h; obtain rfl := Nat.eq_of_beq_eq_true hb; cases h; exact ⟨Try.func33, by kernel_rfl⟩
  | false =>
  rw [hb] at h
  simp only [cond_false] at h
  cases h
def UE {β : Type} : Orc β := fun f args h K => bif Nat.beq f 27 then xIndexByte args h K else (none)
theorem UE_sim {β : Type} : SimOrc Try.prog (UE (β := β)) := by
  intro f args h K r hc
  unfold UE at hc
  cases hb : Nat.beq f 27 with
  | true => rw [hb] at hc; obtain rfl := Nat.eq_of_beq_eq_true hb; exact any_ext (xIndexByte_sim Try.func27 (by kernel_rfl) (by kernel_rfl) (by kernel_rfl) (by kernel_rfl) hc)
  | false =>
  rw [hb] at hc
  simp only [cond_false] at hc
  cases hc
theorem F_law12_lives_run : uorc Try.prog [] UX UE rounds 60 10 [] GH.empty (fun v _ => exB (some v) fun b => some b) = some true := by kernel_rfl
section
variable {β : Type}
/-- duffel/duffellaw12.lives, run by the kernel: true. -/
def F_law12_lives (h : GH) (K : Bool → GH → Option β) : Option β := K true h
theorem F_law12_lives_sim {r : β} {h : GH} {K : Value → GH → Option β} (hc : F_law12_lives h (fun b h' => K (Value.bool b) h') = some r) : ∃ v h', K v h' = some r ∧ CallSim Try.prog 10 [] h v h' := by
  obtain ⟨v, h', hk, hs⟩ := uorc_sim (fun f h => by cases h) mixed_okU UX_ok UE_sim 60 _ _ _ _ _ F_law12_lives_run
  obtain ⟨u, e, hk⟩ := exB_v hk
  cases e
  cases hk
  rcases hs with hs | hs
  · exact ⟨_, h, hc, hs.alone⟩
  · exact (ext_no hs Try.func10 (by kernel_rfl)).elim
end
end Go.Proofs.Ytcpgnodiphlfhaa.Gx
