/- bytes.Clone walked: bytes in memory of their own. No condition. -/
import Derived.Test.YtgobiibalepaaaaKd
import Derived.Test.YtgobiibalepaaaaR01
namespace Go.Proofs.Ytgobiibalepaaaa.Q
open Go.RowKit Go.Proofs.YtgobiibalepaaaaW.PrintWords Go.Proofs.YtgobiibalepaaaaW.PrintLast Go.Proofs.YtgobiibalepaaaaW.PrintMore

def bytes_Clone.f (l0 : List Int) : Option (List Int) := if l0.length < 140737488355328 then some l0 else none
set_option maxHeartbeats 4000000 in
theorem bytes_Clone.calls (A0 : Option Addr) (c0 : Nat) (l0 : List Int) (r : List Int) (w : World) (hr0 : Kd.C (Kd.int .u8) w A0 l0.length l0) (hc0 : l0.length ≤ c0) (h : bytes_Clone.f l0 = some r) :
    Calls Try.prog 27 #[.slice A0 l0.length c0] w fun e w' => ∃ v0_ : Value, e = .returned (v0_) ∧ Kd.R (Kd.int .u8) 5 w' w.heap.size (fun _ => True) v0_ r ∧ Below w.heap.size w w' := by
  obtain ⟨i0, hi0, hz0, hz1, hz2⟩ := info_parts byteInfo
  have q22 : ∀ (w : World) (a : Option Addr) (n c n' c' : Nat), (binOp .eql 34 (.slice a n c) (.slice none n' c')).run Try.prog w = .ok (.bool a.isNone) w := fun w a n c n' c' => Lib.run_eql_slice_nil w _ _ a n c n' c' Try.underlying34
  unfold bytes_Clone.f at h
  have hn : l0.length < 140737488355328 := by
    refine Decidable.byContradiction fun hc => ?_
    rw [if_neg hc] at h
    cases h
  rw [if_pos hn] at h
  obtain rfl : l0 = r := by injection h
  have hr := rn_of_C hr0
  clear hr0
  generalize hN : l0.length = n at hr hn hc0 ⊢
  replace hN := hide hN
  cases A0 with
  | none =>
    have h0 : n = 0 := by
      rcases Nat.eq_zero_or_pos n with e | e
      · exact e
      · obtain ⟨_, e2, _⟩ := hr.2 e
        cases e2
    have hb : l0 = [] := List.eq_nil_of_length_eq_zero (by rw [hN.out, h0])
    replace hb := hide hb
    replace h0 := hide h0
    go_enter Try.func27, Try.ntmps27
    go_wp2_with fail
    go_ret
    exact ⟨_, rfl, by rw [hb.out]; exact Kd.R_nil _ _ _ _ _, Below.refl _ _⟩
  | some ad =>
    go_enter Try.func27, Try.ntmps27
    have hO := World.ownsRow_made (e := 5) (size := 1) w #[] 0 (Nat.le_refl _) (Nat.zero_le _) rfl
    go_wp2_with (at_builtin; refine wpList_append_any _ rfl _ _ _ rfl w.heap.size 5 i0 _ 1 1 Try.underlying34 hi0 hz0 hz1 hz2 rfl (by omega) _ 0 [] rfl hO w.heap.size _ n c0 (Go.Proofs.Ytgobiibalepaaaa.nums .u8 l0) rfl (Reads.alloc hr (Nat.le_refl _) _) (nums_one _ _) (by simp only [maxLen]; omega) (by omega) (by simp) ?_; intro v5 w5 hown5 hg5 hat5)
    go_ret
    refine ⟨v5, rfl, R_of_nums (by simpa using hown5) hN.out.symm (fun _ _ => trivial), ((Below.refl _ w).alloc (Nat.le_refl _) _).grown hg5 (by simp) (fun k hk => own_base hO k hk)⟩
end Go.Proofs.Ytgobiibalepaaaa.Q
