/- Small functions of the document: Cut, Copy, Same, Within. -/
import Derived.Test.YtplkdjbcdeakaaaChecked
import Derived.Test.YtplkdjbcdeakaaaAppend
namespace Go.Proofs.Ytplkdjbcdeakaaa
open Go.RowKit

theorem ret_boolE {a b : Bool} (h : a = b) : Ending.returned (.bool a) = .returned (.bool b) := by rw [h]
theorem own_form {w : World} {base n : Nat} {e : TypeId} {size : Nat} {v : Value} {xs : List Value} (h : w.ownsRow base e size v n xs) : ∃ A c, v = .slice A n c ∧ n ≤ c := by
  rcases h.2 with ⟨rfl, rfl⟩ | ⟨g, cap, cur, rfl, _, _, hnc, _⟩
  · exact ⟨none, 0, rfl, Nat.le_refl _⟩
  · exact ⟨_, cap, rfl, hnc⟩

set_option maxHeartbeats 400000 in
theorem cut_any (w : World) (A : Option Addr) (n c m : Nat) (hnc : n ≤ c) (hm : m ≤ 1000000) :
    Calls Try.prog 8 #[.slice A n c, .int .i64 m] w fun e w' => e = .returned (.slice A (min n m) c) ∧ w = w' := by
  by_cases h : m < n
  · have hr : Hid (min n m = m) := hide (Nat.min_eq_right (by omega))
    go_enter Try.func8, Try.ntmps8
    go_wp2
    go_ret
    exact ⟨by rw [hr.out]; rfl, rfl⟩
  · have hr : Hid (min n m = n) := hide (Nat.min_eq_left (by omega))
    go_enter Try.func8, Try.ntmps8
    go_wp2
    go_ret
    exact ⟨by rw [hr.out]; rfl, rfl⟩

theorem byteInfo : (Try.prog.info? 5).map (fun i => (i.zero, i.size, i.bytes)) = some (some (.int .u8 0), 1, 1) := by kernel_rfl

theorem nums_one (k : IntKind) (xs : List Int) : ∀ u ∈ nums k xs, u.oneCell' = true := by
  intro u hu
  simp only [nums, List.mem_map] at hu
  obtain ⟨x, _, rfl⟩ := hu
  rfl

set_option maxHeartbeats 400000 in
theorem copy_any (w : World) (A : Option Addr) (n c : Nat) (bs : List Int) (hb : RN .u8 w w.heap.size A n bs) (hn : n ≤ 140737488351232) :
    Calls Try.prog 19 #[.slice A n c] w fun e w' => ∃ v, e = .returned v ∧ w'.ownsRow w.heap.size 5 1 v n (nums .u8 bs) ∧ Below w.heap.size w w' := by
  obtain ⟨i0, hi0, hz0, hz1, hz2⟩ := info_parts byteInfo
  go_enter Try.func19, Try.ntmps19
  go_wp2_with (at_builtin; refine wpList_append_any _ rfl (.tmp 4) (.tmp 5) _ rfl w.heap.size 5 i0 _ 1 1 Try.underlying22 hi0 hz0 hz1 hz2 rfl (by omega) (.slice none 0 0) 0 [] rfl (own_nil _ _ _ _) w.heap.size A n c (nums .u8 bs) rfl hb (nums_one _ _) (by simp only [maxLen]; omega) (by omega) (Nat.le_refl _) ?_; intro v1 w1 hown1 hg1 hat1)
  go_ret
  exact ⟨v1, rfl, by simpa using hown1, (Below.refl _ _).grown hg1 (Nat.le_refl _) (by simp [Value.ownBlock])⟩

def eqL (xs ys : List Int) : Bool := decide (xs = ys)
theorem eqL_refl (xs : List Int) : eqL xs xs = true := by simp [eqL]
theorem eqL_diff {xs ys : List Int} {j : Nat} (h : (xs[j]?.getD 0 != ys[j]?.getD 0) = true) : eqL xs ys = false := by
  simp only [eqL, decide_eq_false_iff_not]
  rintro rfl
  simp at h
theorem eqL_all {xs ys : List Int} {n : Nat} (h1 : xs.length = n) (h2 : ys.length = n) (h : ∀ j, j < n → xs.getD j 0 = ys.getD j 0) : eqL xs ys = true := by
  simp only [eqL, decide_eq_true_eq]
  apply List.ext_getElem
  · omega
  · intro i a b
    have := h i (by omega)
    simpa [List.getD_eq_getElem?_getD, List.getElem?_eq_getElem a, List.getElem?_eq_getElem b] using this

set_option maxHeartbeats 1000000 in
theorem same01_any (w : World) (A A' : Option Addr) (n c n' c' B B' : Nat) (xs ys : List Int) (hx : RN .u8 w B A n xs) (hy : RN .u8 w B' A' n' ys) (hn : n ≤ 140737488351232) (hn' : n' ≤ 140737488351232) :
    Calls Try.prog 13 #[.slice A n c, .slice A' n' c'] w fun e w' => e = .returned (.bool (eqL xs ys)) ∧ Drawn w w' := by
  have hl := hx.len
  have hl' := hy.len
  by_cases hnn : n = n'
  · subst hnn
    have hz : ((n : Int) != n) = false := by simp
    have Hl := hide (And.intro hl hl')
    clear hl hl'
    go_enter Try.func13, Try.ntmps13
    go_wp2_with fail
    go_loopw [5] (fun v5 wr => ∃ k : Nat, v5 = .int .i64 k ∧ k ≤ n ∧ Drawn w wr ∧ Hid (∀ j, j < k → xs.getD j 0 = ys.getD j 0)) (fun v5 _ => n - (intOf v5).toNat)
    case atStart => exact ⟨0, rfl, by omega, Drawn.refl _, hide (fun j hj => absurd hj (by omega))⟩
    case round =>
      obtain ⟨k, rfl, hk, hd, hE⟩ := hrel
      by_cases hlt : k < n
      · obtain ⟨ad, rfl, hc⟩ := hx.at_ hlt
        obtain ⟨ad', rfl, hc'⟩ := hy.at_ hlt
        have e1 := (hd.cell (ad.add k)).trans hc
        have e2 := (hd.cell (ad'.add k)).trans hc'
        clear hc hc'
        have q1 : (k : Int) < n := by omega
        go_wp2_with fail
        go_quiet (fail)
        go_wp2_with fail
        · have hq : (xs[k]?.getD 0 != ys[k]?.getD 0) = true := by assumption
          go_ret
          exact ⟨ret_boolE (eqL_diff (j := k) hq).symm, hd.step _⟩
        · have hq : (xs[k]?.getD 0 != ys[k]?.getD 0) = false := by assumption
          refine ⟨⟨k + 1, by go_num, by omega, hd.step _, hide ?_⟩, by simp [intOf]; omega⟩
          intro j hj
          by_cases e : j = k
          · subst e; simp at hq; simpa [List.getD_eq_getElem?_getD] using hq
          · exact hE.out j (by omega)
      · obtain rfl : k = n := by omega
        have hall := hide (eqL_all Hl.1 Hl.2 hE.out)
        clear hE
        go_wp2_with fail
        go_ret
        exact ⟨ret_boolE hall.out.symm, hd⟩
  · have hz : ((n : Int) != n') = true := by simp; omega
    have hne : Hid (eqL xs ys = false) := by
      show _ = _
      simp only [eqL, decide_eq_false_iff_not]
      rintro rfl
      omega
    clear hnn
    go_enter Try.func13, Try.ntmps13
    go_wp2_with fail
    go_ret
    exact ⟨ret_boolE hne.out.symm, Drawn.refl _⟩

def clampI (x lo hi : Int) : Int := if x < lo then lo else if hi < x then hi else x
theorem clampI_lo {x lo hi : Int} (h : x < lo) : clampI x lo hi = lo := by unfold clampI; rw [if_pos h]
theorem clampI_hi {x lo hi : Int} (h : ¬ x < lo) (h2 : hi < x) : clampI x lo hi = hi := by unfold clampI; rw [if_neg h, if_pos h2]
theorem clampI_in {x lo hi : Int} (h : ¬ x < lo) (h2 : ¬ hi < x) : clampI x lo hi = x := by unfold clampI; rw [if_neg h, if_neg h2]
theorem clampI_bd {x lo hi : Int} (h : lo ≤ hi) : lo ≤ clampI x lo hi ∧ clampI x lo hi ≤ hi := by unfold clampI; split; omega; split <;> omega
theorem ret_intE {k : IntKind} {a b : Int} (h : a = b) : Ending.returned (.int k a) = .returned (.int k b) := by rw [h]
theorem within_any (w : World) (x lo hi : Int) :
    Calls Try.prog 22 #[.int .i64 x, .int .i64 lo, .int .i64 hi] w fun e w' => e = .returned (.int .i64 (clampI x lo hi)) ∧ w = w' := by
  go_enter Try.func22, Try.ntmps22
  go_wp2_with fail
  all_goals (go_ret; exact ⟨ret_intE (by first | exact (clampI_lo (by omega)).symm | exact (clampI_hi (by omega) (by omega)).symm | exact (clampI_in (by omega) (by omega)).symm), rfl⟩)
end Go.Proofs.Ytplkdjbcdeakaaa

