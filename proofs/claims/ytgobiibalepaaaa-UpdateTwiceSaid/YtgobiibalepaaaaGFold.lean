/- wild.FoldAll walked: bytes without their case, in memory of their own. No condition. -/
import Derived.Test.YtgobiibalepaaaaGClone
import Derived.Test.YtgobiibalepaaaaUPlain
import Derived.Test.YtgobiibalepaaaaQx2
namespace Go.Proofs.Ytgobiibalepaaaa.Q
open Go.RowKit Go.Proofs.YtgobiibalepaaaaW.PrintWords Go.Proofs.YtgobiibalepaaaaW.PrintLast Go.Proofs.YtgobiibalepaaaaW.PrintMore
set_option linter.unusedVariables false

theorem wildFold_f (c : Int) (h : 0 ≤ c ∧ c ≤ 255) : wild_Fold.f 20 c = some (foldB c) := by
  have key : ∀ n : Fin 256, wild_Fold.f 20 (n.val : Int) = some (foldB n.val) := by decide +kernel
  have := key ⟨c.toNat, by omega⟩
  have e : ((⟨c.toNat, by omega⟩ : Fin 256).val : Int) = c := by simp; omega
  rwa [e] at this
theorem fold_step (l : List Int) (k : Nat) (h : k < l.length) : (foldN (l.take k) ++ l.drop k).set k (foldB (l.getD k 0)) = foldN (l.take (k + 1)) ++ l.drop (k + 1) := by
  have hl : (foldN (l.take k)).length = k := by rw [foldN_len, List.length_take]; omega
  rw [List.set_append_right _ _ (by omega), hl, Nat.sub_self, List.drop_eq_getElem_cons h, List.set_cons_zero, List.take_succ_eq_append_getElem h]
  have e : l.getD k 0 = l[k] := by simp [List.getD_eq_getElem?_getD, h]
  have f : foldN (l.take k ++ [l[k]]) = foldN (l.take k) ++ [foldB l[k]] := by simp only [foldN, List.map_append, List.map_cons, List.map_nil]
  rw [e, f, List.append_assoc]
  rfl
theorem fold_at (l : List Int) (k : Nat) (h : k < l.length) : (foldN (l.take k) ++ l.drop k)[k]? = some (l.getD k 0) := by
  have hl : (foldN (l.take k)).length = k := by rw [foldN_len, List.length_take]; omega
  rw [List.getElem?_append_right (by omega), hl, Nat.sub_self, List.drop_eq_getElem_cons h]
  simp [List.getD_eq_getElem?_getD, h]
set_option maxHeartbeats 4000000 in
theorem foldAll_any (w : World) (A : Option Addr) (c : Nat) (l : List Int) (h : Kd.C (Kd.int .u8) w A l.length l) (hc : l.length ≤ c) (hb : bytesOk l = true) (hn : l.length ≤ 1000) :
    Calls Try.prog 24 #[.slice A l.length c] w fun e w' => ∃ v, e = .returned v ∧ Kd.R (Kd.int .u8) 5 w' w.heap.size (fun _ => True) v (foldN l) ∧ Below w.heap.size w w' := by
  have hcl : bytes_Clone.f l = some l := if_pos (by omega)
  obtain ⟨n, hN⟩ : ∃ n, n = l.length := ⟨_, rfl⟩
  have HB := hide hb
  have HC := hide hcl
  have H := hide h
  clear hb hcl h
  go_enter Try.func24, Try.ntmps24
  go_wp2_with fail
  refine (bytes_Clone.calls A c l l w H.out hc HC.out).mono ?_
  rintro e w1 ⟨v, rfl, hR, hb1⟩
  have own1 := own_of_R hR
  obtain ⟨A1, c1, rfl, hc1⟩ := own_form own1
  rw [← hN] at own1 hc1 hn hc ⊢
  replace hN := hide hN
  clear hR H HC
  go_wp2_with fail
  go_loopw [10] (fun v10 wr => ∃ k : Nat, v10 = .int .i64 k ∧ k ≤ n ∧ Below w.heap.size w wr ∧ wr.ownsRow w.heap.size 5 1 (.slice A1 n c1) n (Go.Proofs.Ytgobiibalepaaaa.nums .u8 (foldN (l.take k) ++ l.drop k))) (fun v10 _ => n - (intOf v10).toNat)
  case atStart => exact ⟨0, rfl, by omega, hb1, by simpa [foldN] using own1⟩
  case round =>
    obtain ⟨k, rfl, hk, hbr, hown⟩ := hrel
    clear own1 hb1
    by_cases hlt : k < n
    · obtain ⟨g, cap, hv, hgb, hgl⟩ := hown.form (by omega)
      obtain rfl : A1 = some ⟨g, 0, none⟩ := by injection hv
      have hkl : k < l.length := by rw [← hN.out]; exact hlt
      have q1 : (k : Int) < n := by omega
      have hx0 : (Go.Proofs.Ytgobiibalepaaaa.nums .u8 (foldN (l.take k) ++ l.drop k))[k]? = some (.int .u8 (l.getD k 0)) := by
        rw [Go.Proofs.Ytgobiibalepaaaa.nums, List.getElem?_map, fold_at l k hkl]; rfl
      have e1 : wr.cell? ⟨g, k, none⟩ = some (.int .u8 (l.getD k 0)) := by
        have := hown.cellAt k (by omega)
        rw [this, hx0]
      have z1 : wr.frozen? ⟨g, k, none⟩ = false := hown.frozenAt k
      have hbd : 0 ≤ l.getD k 0 ∧ l.getD k 0 ≤ 255 := by
        rw [List.getD_eq_getElem?_getD, List.getElem?_eq_getElem hkl]
        exact bytesOk_get HB.out (List.getElem_mem hkl)
      have hf := wildFold_f _ hbd
      have hst := hown.stored k (.int .u8 (foldB (l.getD k 0)))
      have hset : (Go.Proofs.Ytgobiibalepaaaa.nums .u8 (foldN (l.take k) ++ l.drop k)).set k (.int .u8 (foldB (l.getD k 0))) = Go.Proofs.Ytgobiibalepaaaa.nums .u8 (foldN (l.take (k + 1)) ++ l.drop (k + 1)) := by
        rw [← fold_step l k hkl]
        simp [Go.Proofs.Ytgobiibalepaaaa.nums, List.map_set]
      rw [hset] at hst
      clear hset hx0
      generalize l.getD k 0 = x at e1 hbd hf hst
      generalize foldB x = y at hf hst
      replace hf := hide hf
      go_wp2_with fail
      refine (wild_Fold.calls 20 x y _ hf.out).mono ?_
      rintro e w2 ⟨rfl, nd, rfl⟩
      go_wp2_with fail
      refine ⟨⟨k + 1, by go_num, by omega, (pw_below_drewN hbr nd).setCell (show w.heap.size ≤ g from hgb) _, hst.1⟩, by simp [intOf]; omega⟩
    · obtain rfl : k = n := by omega
      have hl := hN.out
      have e : foldN (l.take k) ++ l.drop k = foldN l := by rw [hl, List.take_length, List.drop_length, List.append_nil]
      rw [e] at hown
      have hR := R_of_nums (ok := fun _ => True) hown (by rw [foldN_len]; exact hl) (fun _ _ => trivial)
      replace hl := hide hl
      replace e := hide e
      replace hR := hide hR
      clear hown
      go_wp2_with fail
      go_ret
      exact ⟨_, rfl, hR.out, hbr⟩
end Go.Proofs.Ytgobiibalepaaaa.Q

