/- slices.Backward's closure, walked once: it goes through a slice of whole numbers from its end, for whatever body. No condition. -/
import Derived.Test.YtephmpbccajaaaaGxQ
import Derived.Test.YtephmpbccajaaaaProg
import Derived.RangeFuncBox
import Derived.Shelf.Abstract
import Derived.WalkKit
import Derived.OwnWalkIn
import Derived.TacticsInMore
import Derived.LoopNIn
import Derived.LoopIn
namespace Go.Proofs.Ytephmpbccajaaaa.Gx
open Go Go.RowKit Go.Shelf
set_option linter.unusedVariables false
attribute [local go_sem] Oper.semAt_some
set_option maxRecDepth 100000 in
set_option maxHeartbeats 2000000 in
theorem back_ok : BackOk Try.prog 49 := by
  refine ⟨fun args w => ?_, fun n l bs os len zs J hl hJ hY W h0 => ?_⟩
  · exact enters_of Try.func49 (by kernel_rfl) rfl args w
  refine callsIn_of_wp Try.func49 rfl trivial ?_ rfl
  simp only [Try.ntmps49, List.size_toArray, List.length_cons, List.length_nil, Nat.reduceAdd, Nat.reduceSub, Array.replicate_succ, Array.replicate_zero, List.push_toArray, List.append_toArray, List.nil_append, List.cons_append]
  obtain ⟨a0, cap0, hB0, _⟩ := hJ 0 W h0 (Nat.zero_le _)
  gi_wp2
  gi_loopw [3] (fun i wr => ∃ k : Nat, k ≤ len ∧ i = .int .i64 ((len : Int) - 1 - (k : Int)) ∧ J k wr) (fun i _ => (intOf i + 1).toNat)
  case atStart =>
    refine ⟨0, Nat.zero_le _, ?_, h0⟩
    simp
  case round =>
    obtain ⟨k, hk, rfl, hJk⟩ := hrel
    obtain ⟨ak, capk, hBk, hcs⟩ := hJ k wr hJk hk
    by_cases hlt : k < len
    · obtain ⟨b, o, rfl, hc⟩ := hcs (len - 1 - k) (by omega)
      obtain ⟨fn, tmps, assign, body, hy, hR⟩ := hY k wr (n - 1) hJk hlt
      rw [show ((len - 1 - k : Nat) : Int) = (len : Int) - 1 - (k : Int) by omega] at hy
      gi_wp2
      refine ⟨(fun h => by cases h), hR.mono ?_⟩
      rintro e W3 ⟨rfl, hJ3⟩
      gi_wp2
      go_roundw
      case rel => exact ⟨k + 1, by omega, by congr 1; omega, hJ3⟩
      case measure => simp [intOf]; omega
    · obtain rfl : k = len := by omega
      gi_wp2
      go_end0
      exact ⟨⟨_, rfl⟩, hJk⟩
/-- the functions that slices.Backward answers -/
def backs : List Nat := [49]
theorem backs_ok (f : Nat) (h : memN f backs = true) : BackOk Try.prog f := by
  unfold backs memN memN at h
  simp only [Bool.or_false] at h
  rw [← Nat.eq_of_beq_eq_true h]; exact back_ok
section
variable {β : Type}
/-- slices.Backward: a closure over the slice -/
def F_slices_Backward (a1 : Sl) (h : GH) (K : Option Addr → GH → Option β) : Option β := gnew [Value.slice a1.a a1.n a1.c] 0 h fun g h' => K (some ⟨g, 0, none⟩) h'
theorem F_slices_Backward_gen (R : Nat) (a1 : Sl) (h : GH) (K : Value → GH → Option β) : gfun Try.prog (fun _ _ _ _ => none) ⟨[], [], []⟩ R Try.f35 [Value.slice a1.a a1.n a1.c] h K = F_slices_Backward a1 h (fun p h' => K (.func (.func 49) #[] #[Value.pointer p]) h') := by kernel_rfl
theorem F_slices_Backward_sim {r : β} {a1 : Sl} {h : GH} {K : Value → GH → Option β} (hc : F_slices_Backward a1 h (fun p h' => K (.func (.func 49) #[] #[Value.pointer p]) h') = some r) : ∃ v h', K v h' = some r ∧ CallSim Try.prog 35 [Value.slice a1.a a1.n a1.c] h v h' := by
  rw [← F_slices_Backward_gen 0] at hc
  exact gfun_sim (fun _ _ _ _ _ h => by cases h) (by kernel_rfl) (fun f h => by cases h) Try.func35 (by kernel_rfl) hc
end
end Go.Proofs.Ytephmpbccajaaaa.Gx

