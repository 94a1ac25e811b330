/- The document's Cut: at most n bytes. No condition. -/
import Derived.Test.YtibngikhlgmhaaaArg
import Derived.Test.YtibngikhlgmhaaaGxx
namespace Go.Proofs.Ytibngikhlgmhaaa.Gx
open Go Go.RowKit
set_option linter.unusedVariables false
set_option linter.unusedSimpArgs false
theorem addO_0 (a : Option Addr) : addO a 0 = a := by cases a <;> simp [addO, Addr.add]
theorem ref_cut {h : GH} {a : Sl} {bs : List Int} (r : Rd h a bs) (R n : Nat) : ∃ q, Rd h q (bs.take n) ∧ (∀ k ∈ rowsOf q, k ∈ rowsOf a) ∧ ∀ (β : Type) (K : Sl → GH → Option β), F_ref01_Cut R a n h K = K q h := by
  have hn := r.n
  have hc := r.cap
  by_cases c : a.n > n
  · have := r.cut (lo := 0) (hi := n) (mx := a.c) (by omega) (by omega) (by omega) (Nat.le_refl _)
    rw [List.drop_zero, Nat.sub_zero] at this
    refine ⟨_, this, fun k hk => by simpa [rowsOf, addO_0] using hk, fun β K => ?_⟩
    unfold F_ref01_Cut; rw [F_ref01_Cut_gen, decT (by omega), condT, bnd_t (by omega) (by omega)]; rfl
  · refine ⟨a, by rw [List.take_of_length_le (by omega)]; exact r, fun k hk => hk, fun β K => ?_⟩
    unfold F_ref01_Cut; rw [F_ref01_Cut_gen, decF (by omega), condF]
end Go.Proofs.Ytibngikhlgmhaaa.Gx

