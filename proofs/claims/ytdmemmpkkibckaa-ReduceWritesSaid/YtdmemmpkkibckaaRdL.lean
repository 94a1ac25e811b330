/- One byte encoded: what lives. No condition. -/
import Derived.Test.YtdmemmpkkibckaaRdA
namespace Go.Proofs.Ytdmemmpkkibckaa.Gx
open Go Go.RowKit Fd
set_option linter.unusedVariables false
set_option linter.unusedSimpArgs false
theorem enc97 : encL 128 [97] (toks 1 128 [97]) 0 = [97] := by kernel_rfl
theorem best97_0 : bestC [97] 0 = [] := by kernel_rfl
theorem best97_97 : bestC [97] 97 = [] := by kernel_rfl
theorem best97 (c : Nat) : bestC [97] c = [] := by
  by_cases h0 : c = 0
  · subst h0; exact best97_0
  by_cases h1 : c = 97
  · subst h1; exact best97_97
  exact bestC_none h0 (by simp; omega)
theorem sets_nil : ∀ k, wl (setsL (bestC [97]) k) = 6 * k ∧ wv (setsL (bestC [97]) k) = 0
  | 0 => ⟨rfl, rfl⟩
  | k + 1 => by
    have ih := sets_nil k
    rw [setsL, best97, wl_app, wv_app, ih.1, ih.2]
    exact ⟨by simp [oneL, bytes8, wl]; omega, by simp [oneL, bytes8, wv]⟩
def pw : Nat := 2 ^ 1536
theorem red97 : (redE [97]).length = 193 ∧ (redE [97]).getD 192 0 = 97 := by
  have h := sets_nil 256
  have e1 : wl (rencL [97]) = 1544 := by
    rw [rencL, wl_app, h.1, putL, putL, best97]; rfl
  have e2 : wv (rencL [97]) = 97 * pw := by
    have a : wv (rencL [97]) = wv (putL (bestC [97]) [97] 0) * 2 ^ wl (setsL (bestC [97]) 256) := by rw [rencL, wv_app, h.2, Nat.zero_add]
    have b : wv (putL (bestC [97]) [97] 0) = 97 := by rw [putL, putL, best97]; rfl
    exact a.trans ((congrArg (fun x => x * 2 ^ wl (setsL (bestC [97]) 256)) b).trans ((congrArg (fun k => 97 * 2 ^ k) h.1).trans (by kernel_rfl)))
  unfold redE
  rw [if_neg (by simp), e1, e2]
  exact ⟨bytesN_length _ _, by kernel_rfl⟩
theorem lives14 {R : Nat} (hR : 4000000 < R) (h : GH) : ∃ h', Keep h h' [] ∧ ∀ (β : Type) (K : Bool → GH → Option β), F_law14_lives R h K = K true h' := by
  have k0 := keep_push h (.row ⟨[Value.int .u8 97], 1, false⟩) []
  have l0 : (h.push (.row ⟨[Value.int .u8 97], 1, false⟩)).look h.next = some (.row ⟨[Value.int .u8 97], 1, false⟩) := look_push_new
  have r0 : Rd (h.push (.row ⟨[Value.int .u8 97], 1, false⟩)) ⟨some ⟨h.next, 0, none⟩, 1, 1⟩ [97] := row_of_block l0 rfl
  obtain ⟨h1, out, v1, k1, n1, e1⟩ := rencode_eq r0 (by intro x hx; simp at hx; omega) (f := 1) (low := 128) (.inl ⟨rfl, rfl⟩) (by simp) (by rw [enc97]; intro x hx; simp at hx; omega) (by rw [enc97]; simp) hR
  rw [enc97] at v1
  have hl := red97.1
  have q := fun (β : Type) (K : Int → Option β) => v1.byte (β := β) (i := 192) (by omega) (by rw [hl]; omega) K
  refine ⟨h1, k0.trans k1 (by simp), fun β K => ?_⟩
  unfold F_law14_lives
  rw [F_law14_lives_gen, gnew_eq rfl, gfrz, l0]
  simp only [Bool.not_false, Bool.true_and, List.length_cons, List.length_nil]
  rw [show (Nat.blt 0 (0 + 1) && Nat.blt 0 1) = true from rfl, condT, e1, beq_self_eq_true, condT, beq_int, decT (by rw [v1.n, hl]; rfl), condT, q, show (192 : Int).toNat = 192 from rfl, red97.2, beq_self_eq_true]
end Go.Proofs.Ytdmemmpkkibckaa.Gx

