/- Followers cost no more than none: plain lists. No condition. -/
import Derived.Test.YtdmemmpkkibckaaPut
namespace Go.Proofs.Ytdmemmpkkibckaa.Gx
open Go Go.RowKit
set_option linter.unusedVariables false
set_option linter.unusedSimpArgs false
/-! ### the plain law -/
theorem pickN_min (cost : Nat → Int) : ∀ k, cost (pickN cost k) ≤ cost 0
  | 0 => Int.le_refl _
  | k + 1 => by
    have := pickN_min cost k
    unfold pickN
    split <;> omega
theorem bestP_sub (N : List Int) : (bestP N).Nodup ∧ (∀ x ∈ bestP N, 0 ≤ x ∧ x < 256) ∧ (bestP N).length ≤ 32 := by
  refine ⟨((ordZ_nodup N).sublist (List.take_sublist 32 _)).sublist (List.take_sublist _ _), fun x hx => ?_, ?_⟩
  · have := ordZ_mem (List.mem_of_mem_take (List.mem_of_mem_take hx)); omega
  · unfold bestP; simp; omega
/-- what the best followers cost, they and all that stands behind -/
theorem best_cost {N : List Int} (hN : N.length = 256) : 8 * ((bestP N).length : Int) + sumTo (stepC N (bestP N)) 256 ≤ 8 * totN N := by
  obtain ⟨h1, h2, h3⟩ := bestP_sub N
  have e := costTo_eq hN h1 h2
  rw [costTo_sum] at e
  rw [e]
  have hpk := pickN_le (costK N ((ordZ N).take 32)) ((ordZ N).take 32).length
  have hmin := pickN_min (costK N ((ordZ N).take 32)) ((ordZ N).take 32).length
  have hlen : (bestP N).length = pickN (costK N ((ordZ N).take 32)) ((ordZ N).take 32).length := by
    show (((ordZ N).take 32).take _).length = _
    rw [List.length_take]; omega
  have e2 : (if (bestP N).length = 0 then 8 * totN N else 8 * (bestP N).length + sumAt N (bestP N) * (1 + Wd (bestP N).length) + 9 * (totN N - sumAt N (bestP N))) = costK N ((ordZ N).take 32) (pickN (costK N ((ordZ N).take 32)) ((ordZ N).take 32).length) := by
    rw [costK, hlen]; rfl
  rw [e2]
  rw [show costK N ((ordZ N).take 32) 0 = 8 * totN N by rw [costK, if_pos rfl]] at hmin
  exact hmin
/-- how many bits a byte x is behind c -/
def wbit (l : List Int) (x : Nat) : Int := if l.length = 0 then 8 else if ((x : Nat) : Int) ∈ l then 1 + Wd l.length else 9
theorem wbit_put {l : List Int} {x : Nat} : ((wl (fputL l ((x : Nat) : Int)) : Nat) : Int) = wbit l x := by
  have h := idxF_mem l ((x : Nat) : Int) 0
  unfold fputL wbit
  by_cases c1 : l.length = 0
  · rw [if_pos c1, if_pos c1]; rfl
  · rw [if_neg c1, if_neg c1]
    by_cases c2 : ((x : Nat) : Int) ∈ l
    · rw [if_pos (h.1.2 c2), if_pos c2]; simp only [wl]; omega
    · rw [if_neg (fun q => c2 (h.1.1 q)), if_neg c2]; rfl
theorem stepC_w (N l : List Int) (x : Nat) : stepC N l x = N.getD x 0 * wbit l x := by
  unfold stepC wbit
  by_cases c1 : l.length = 0
  · rw [if_pos c1, if_pos c1]; omega
  · rw [if_neg c1, if_neg c1]
    by_cases c2 : ((x : Nat) : Int) ∈ l
    · rw [if_pos c2, if_pos c2]
    · rw [if_neg c2, if_neg c2]; omega
/-- all pairs of bytes, each as often as it comes -/
def allW (b : List Int) (W : Nat → Nat → Int) (i : Nat) : Int := sumTo (fun c => sumTo (fun x => ((behF b i ((c : Nat) : Int) ((x : Nat) : Int) : Nat) : Int) * W c x) 256) 256
theorem sumTo_single (F : Nat → Int) (y : Nat) : ∀ m, sumTo (fun x => if x = y then F x else 0) m = if y < m then F y else 0
  | 0 => by simp [sumTo]
  | m + 1 => by
    simp only [sumTo, sumTo_single F y m]
    by_cases c1 : m = y
    · subst c1; rw [if_pos rfl, if_neg (by omega), if_pos (by omega)]; omega
    · rw [if_neg c1]
      by_cases c2 : y < m
      · rw [if_pos c2, if_pos (by omega)]; omega
      · rw [if_neg c2, if_neg (by omega)]; omega
theorem sumTo_0 : ∀ m, sumTo (fun _ => 0) m = 0
  | 0 => rfl
  | m + 1 => by simp only [sumTo, sumTo_0 m]; rfl
theorem allW_succ (b : List Int) (W : Nat → Nat → Int) {i c x : Nat} (hc : lastB b i = ((c : Nat) : Int)) (hx : b.getD i 0 = ((x : Nat) : Int)) (hc2 : c < 256) (hx2 : x < 256) : allW b W (i + 1) = allW b W i + W c x := by
  unfold allW
  have h1 : ∀ c', c' < 256 → sumTo (fun x' => ((behF b (i + 1) ((c' : Nat) : Int) ((x' : Nat) : Int) : Nat) : Int) * W c' x') 256 = sumTo (fun x' => ((behF b i ((c' : Nat) : Int) ((x' : Nat) : Int) : Nat) : Int) * W c' x') 256 + (if c' = c then W c' x else 0) := fun c' _ => by
    by_cases e : c' = c
    · subst e
      rw [if_pos rfl]
      have h2 := sumTo_single (fun x' => W c' x') x 256
      rw [if_pos hx2] at h2
      rw [← h2, ← sumTo_add]
      apply sumTo_congr
      intro x' _
      rw [behF]
      by_cases e2 : x' = x
      · subst e2; rw [if_pos ⟨hc, hx⟩, if_pos rfl, Int.natCast_add, Int.add_mul]; omega
      · rw [if_neg (by rintro ⟨_, q⟩; omega), if_neg e2, Nat.add_zero, Int.add_zero]
    · rw [if_neg e, Int.add_zero]
      apply sumTo_congr
      intro x' _
      rw [behF, if_neg (by rintro ⟨q, _⟩; omega)]; rfl
  rw [sumTo_congr 256 h1, sumTo_add, sumTo_single (fun c' => W c' x) c 256, if_pos hc2]
theorem allW_0 (b : List Int) (W : Nat → Nat → Int) : allW b W 0 = 0 := by
  unfold allW
  rw [sumTo_congr (G := fun _ => 0) 256 (fun c _ => by
    rw [sumTo_congr (G := fun _ => 0) 256 (fun x _ => by simp [behF]), sumTo_0]), sumTo_0]
/-- all numbers of a text behind its own bytes -/
def putsL (L : Nat → List Int) (b : List Int) : Nat → List (Nat × Nat)
  | 0 => []
  | i + 1 => putsL L b i ++ fputL ((L (lastB b i).toNat).take 32) (b.getD i 0)
theorem puts_all {L : Nat → List Int} (hL : ∀ c, c < 256 → (L c).length ≤ 32) {b : List Int} (hb : B8 b) : ∀ i, i ≤ b.length → ((wl (putsL L b i) : Nat) : Int) = allW b (fun c x => wbit (L c) x) i
  | 0, _ => by rw [allW_0]; rfl
  | i + 1, hi => by
    have hc := lastB_byte b hb (i := i) (by omega)
    have hx : 0 ≤ b.getD i 0 ∧ b.getD i 0 ≤ 255 := by rw [List.getD_eq_getElem?_getD, List.getElem?_eq_getElem (by omega)]; exact hb _ (List.getElem_mem _)
    rw [putsL, wl_app, allW_succ b _ (c := (lastB b i).toNat) (x := (b.getD i 0).toNat) (by omega) (by omega) (by omega) (by omega), ← puts_all hL hb i (by omega), ← wbit_put, Int.natCast_add, List.take_of_length_le (hL _ (by omega)), Int.toNat_of_nonneg hx.1]
theorem sumTo_le {F G : Nat → Int} : ∀ m, (∀ c, c < m → F c ≤ G c) → sumTo F m ≤ sumTo G m
  | 0, _ => Int.le_refl _
  | m + 1, h => by
    have h1 := sumTo_le m (fun c hc => h c (by omega))
    have h2 := h m (by omega)
    simp only [sumTo]; omega
theorem sets_bits (L : Nat → List Int) (hL : ∀ c, c < 256 → (L c).length ≤ 32) : ∀ k, k ≤ 256 → ((wl (setsL L k) : Nat) : Int) = 6 * k + sumTo (fun c => 8 * ((L c).length : Int)) k
  | 0, _ => rfl
  | k + 1, hk => by
    rw [setsL, wl_app, wl_oneL, Int.natCast_add, sets_bits L hL k (by omega), List.take_of_length_le (hL k (by omega))]
    simp only [sumTo]; omega
theorem fewer_law {b : List Int} (hb : B8 b) : wl (setsL (bestC b) 256) + wl (putsL (bestC b) b b.length) ≤ 1536 + 8 * b.length := by
  have hL : ∀ c, c < 256 → (bestC b c).length ≤ 32 := fun c _ => bestC_len b c
  have h1 := sets_bits (bestC b) hL 256 (Nat.le_refl _)
  have h2 := puts_all hL hb b.length (Nat.le_refl _)
  have h3 : sumTo (fun c => 8 * ((bestC b c).length : Int)) 256 + allW b (fun c x => wbit (bestC b c) x) b.length ≤ allW b (fun _ _ => 8) b.length := by
    unfold allW
    rw [← sumTo_add]
    apply sumTo_le
    intro c hc
    have hN := behL_length b b.length ((c : Nat) : Int)
    have h4 := best_cost hN
    have h5 : sumTo (stepC (behL b b.length ((c : Nat) : Int)) (bestP (behL b b.length ((c : Nat) : Int)))) 256 = sumTo (fun x => ((behF b b.length ((c : Nat) : Int) ((x : Nat) : Int) : Nat) : Int) * wbit (bestC b c) x) 256 :=
      sumTo_congr 256 (fun x hx => by rw [stepC_w, behL_getD b _ _ hx]; rfl)
    have h6 := sumTo_tot (behL b b.length ((c : Nat) : Int)) 256 (by rw [hN]; exact Nat.le_refl _)
    rw [List.take_of_length_le (by rw [hN]; exact Nat.le_refl _)] at h6
    have h7 : sumTo (fun x => ((behF b b.length ((c : Nat) : Int) ((x : Nat) : Int) : Nat) : Int) * 8) 256 = 8 * totN (behL b b.length ((c : Nat) : Int)) := by
      rw [sumTo_mul, Int.mul_comm, sumTo_congr (G := fun x => (behL b b.length ((c : Nat) : Int)).getD x 0) 256 (fun x hx => by rw [behL_getD b _ _ hx]), h6]; rfl
    rw [h5] at h4
    rw [h7]
    exact h4
  have h8 : ∀ i, i ≤ b.length → allW b (fun _ _ => 8) i = 8 * ((i : Nat) : Int) := by
    intro i
    induction i with
    | zero => intro _; rw [allW_0]; rfl
    | succ i ih =>
      intro hi
      have hc := lastB_byte b hb (i := i) (by omega)
      have hx : 0 ≤ b.getD i 0 ∧ b.getD i 0 ≤ 255 := by rw [List.getD_eq_getElem?_getD, List.getElem?_eq_getElem (by omega)]; exact hb _ (List.getElem_mem _)
      rw [allW_succ b _ (c := (lastB b i).toNat) (x := (b.getD i 0).toNat) (by omega) (by omega) (by omega) (by omega), ih (by omega)]; omega
  rw [h8 _ (Nat.le_refl _)] at h3
  omega
theorem none_bits (b : List Int) (hb : B8 b) : wl (setsL (fun _ => []) 256) + wl (putsL (fun _ => []) b b.length) = 1536 + 8 * b.length := by
  have h1 := sets_bits (fun _ => []) (fun c _ => by simp) 256 (Nat.le_refl _)
  rw [sumTo_congr (G := fun _ => 0) 256 (fun c _ => by simp), sumTo_0] at h1
  have h2 : ∀ i, wl (putsL (fun _ => []) b i) = 8 * i := by
    intro i
    induction i with
    | zero => rfl
    | succ i ih => rw [putsL, wl_app, ih]; simp only [List.take_nil, fputL, List.length_nil, if_true, wl]; omega
  rw [h2]; omega
end Go.Proofs.Ytdmemmpkkibckaa.Gx

