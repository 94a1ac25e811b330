/- SfanoNobody: it answers true: all but the number is run by the kernel. No condition. -/
import Derived.Test.YtephmpbccajaaaaInt
import Derived.Test.YtephmpbccajaaaaGx0
namespace Go.Proofs.Ytephmpbccajaaaa.Gx
open Go Go.RowKit
set_option linter.unusedVariables false
set_option linter.unusedSimpArgs false
def clampP (n : Int) : Int := if n < 1 then 1 else if n > 256 then 256 else n
theorem within_eq (R : Nat) (n : Int) {β : Type} (h : GH) (K : Int → GH → Option β) : F_ref01_Within R n 1 256 h K = K (clampP n) h := by
  unfold F_ref01_Within; rw [F_ref01_Within_gen]; simp only [cond_dec, clampP]
  by_cases c1 : n < 1
  · rw [if_pos c1, if_pos c1]
  · by_cases c2 : n > 256
    · rw [if_neg c1, if_neg c1, if_pos c2, if_pos c2]
    · rw [if_neg c1, if_neg c1, if_neg c2, if_neg c2]
theorem err_nil (R : Nat) {β : Type} (h : GH) (K : Int → GH → Option β) : F_bitio_Reader_Err R none h K = K 1 h := by
  unfold F_bitio_Reader_Err; rw [F_bitio_Reader_Err_gen]; rfl
theorem bits_nil (R : Nat) (n : Int) {β : Type} (h : GH) (K : Int → GH → Option β) : F_bitio_Reader_Bits R none n h K = K 0 h := by
  unfold F_bitio_Reader_Bits; rw [F_bitio_Reader_Bits_gen, err_nil]; rfl
theorem unpack_nil {R : Nat} (hR : 4 < R) (n : Int) {β : Type} (h : GH) (K : Sl → Int → GH → Option β) : F_sfano_Unpack R none (clampP n) h K = K ⟨none, 0, 0⟩ 1 h := by
  have h1 : ¬ clampP n < 1 := by unfold clampP; split <;> (try split) <;> omega
  have h2 : ¬ clampP n > 256 := by unfold clampP; split <;> (try split) <;> omega
  unfold F_sfano_Unpack; rw [F_sfano_Unpack_gen, cond_dec, if_neg h1, cond_dec, if_neg h2, bits_nil]
  obtain ⟨q, rfl⟩ : ∃ q, R = q + 1 := ⟨R - 1, by omega⟩
  rw [F_sfano_Unpack_l0_succ, decT (by decide), condT, err_nil, show ((1 : Int) == 0) = false from rfl, condF, err_nil, show ((1 : Int) != 0) = true from rfl, condT, err_nil]
theorem nobody_run (n : Int) : F_law06_SfanoNobody rounds n (arGH []) (fun b _ => some b) = some true := by
  unfold F_law06_SfanoNobody; rw [F_law06_SfanoNobody_gen]
  simp only [within_eq, unpack_nil (R := rounds) (by unfold rounds; omega)]
  kernel_rfl
theorem nobody_any {W : World} (n : Int) : Calls Try.prog 7 #[.int .i64 n] W fun e W' => e = .returned (.bool true) ∧ Below W.heap.size W W' := by
  obtain ⟨v, h1, hk, hc⟩ := F_law06_SfanoNobody_sim (β := Bool) (r := true) (K := fun v _ => exB (some v) fun b => some b) (nobody_run n)
  obtain ⟨b, e, hk⟩ := exB_v hk
  cases e
  cases hk
  exact ar_calls (l := []) (fun x hx => by cases hx) hc (.cons (.same _ rfl) .nil)
end Go.Proofs.Ytephmpbccajaaaa.Gx

