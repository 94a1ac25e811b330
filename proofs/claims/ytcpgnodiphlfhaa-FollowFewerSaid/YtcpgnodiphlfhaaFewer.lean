/- No more bits than without followers: the law. No condition. -/
import Derived.Test.YtcpgnodiphlfhaaPut
namespace Go.Proofs.Ytcpgnodiphlfhaa.Gx
open Go Go.RowKit
set_option linter.unusedVariables false
set_option linter.unusedSimpArgs false
/-! ### the plain law -/
theorem pickN_min (cost : Nat → Int) : ∀ k, cost (pickN cost k) ≤ cost 0
  | 0 => Int.le_refl _
  | k + 1 => by
    have := pickN_min cost k
    unfold pickN
    split <;> omega
theorem bestP_sub (N : List Int) : (bestP N).Nodup ∧ (∀ x ∈ bestP N, 0 ≤ x ∧ x < 256) ∧ (bestP N).length ≤ 32 := by
  refine ⟨((ordZ_nodup N).sublist (List.take_sublist 32 _)).sublist (List.take_sublist _ _), fun x hx => ?_, ?_⟩
  · have := ordZ_mem (List.mem_of_mem_take (List.mem_of_mem_take hx)); omega
  · unfold bestP; simp; omega
/-- what the best followers cost, they and all that stands behind -/
theorem best_cost {N : List Int} (hN : N.length = 256) : 8 * ((bestP N).length : Int) + sumTo (stepC N (bestP N)) 256 ≤ 8 * totN N := by
  obtain ⟨h1, h2, h3⟩ := bestP_sub N
  have e := costTo_eq hN h1 h2
  rw [costTo_sum] at e
  rw [e]
  have hpk := pickN_le (costK N ((ordZ N).take 32)) ((ordZ N).take 32).length
  have hmin := pickN_min (costK N ((ordZ N).take 32)) ((ordZ N).take 32).length
  have hlen : (bestP N).length = pickN (costK N ((ordZ N).take 32)) ((ordZ N).take 32).length := by
    show (((ordZ N).take 32).take _).length = _
    rw [List.length_take]; omega
  have e2 : (if (bestP N).length = 0 then 8 * totN N else 8 * (bestP N).length + sumAt N (bestP N) * (1 + Wd (bestP N).length) + 9 * (totN N - sumAt N (bestP N))) = costK N ((ordZ N).take 32) (pickN (costK N ((ordZ N).take 32)) ((ordZ N).take 32).length) := by
    rw [costK, hlen]; rfl
  rw [e2]
  rw [show costK N ((ordZ N).take 32) 0 = 8 * totN N by rw [costK, if_pos rfl]] at hmin
  exact hmin
/-- how many bits a byte x is behind c -/
def wbit (l : List Int) (x : Nat) : Int := if l.length = 0 then 8 else if ((x : Nat) : Int) ∈ l then 1 + Wd l.length else 9
theorem wbit_put {l : List Int} {x : Nat} : ((wl (fputL l ((x : Nat) : Int)) : Nat) : Int) = wbit l x := by
  have h := idxF_mem l ((x : Nat) : Int) 0
  unfold fputL wbit
  by_cases c1 : l.length = 0
  · rw [if_pos c1, if_pos c1]; rfl
  · rw [if_neg c1, if_neg c1]
    by_cases c2 : ((x : Nat) : Int) ∈ l
    · rw [if_pos (h.1.2 c2), if_pos c2]; simp only [wl]; omega
    · rw [if_neg (fun q => c2 (h.1.1 q)), if_neg c2]; rfl
theorem stepC_w (N l : List Int) (x : Nat) : stepC N l x = N.getD x 0 * wbit l x := by
  unfold stepC wbit
  by_cases c1 : l.length = 0
  · rw [if_pos c1, if_pos c1]; omega
  · rw [if_neg c1, if_neg c1]
    by_cases c2 : ((x : Nat) : Int) ∈ l
    · rw [if_pos c2, if_pos c2]
    · rw [if_neg c2, if_neg c2]; omega
/-- all pairs of bytes, each as often as it comes -/
def allW (b : List Int) (W : Nat → Nat → Int) (i : Nat) : Int := sumTo (fun c => sumTo (fun x => ((behF b i ((c : Nat) : Int) ((x : Nat) : Int) : Nat) : Int) * W c x) 256) 256
theorem sumTo_single (F : Nat → Int) (y : Nat) : ∀ m, sumTo (fun x => if x = y then F x else 0) m = if y < m then F y else 0
  | 0 => by simp [sumTo]
  | m + 1 => by
    simp only [sumTo, sumTo_single F y m]
    by_cases c1 : m = y
    · subst c1; rw [if_pos rfl, if_neg (by omega), if_pos (by omega)]; omega
    · rw [if_neg c1]
      by_cases c2 : y < m
      · rw [if_pos c2, if_pos (by omega)]; omega
      · rw [if_neg c2, if_neg (by omega)]; omega
theorem sumTo_0 : ∀ m, sumTo (fun _ => 0) m = 0
  | 0 => rfl
  | m + 1 => by simp only [sumTo, sumTo_0 m]; rfl
theorem allW_succ (b : List Int) (W : Nat → Nat → Int) {i c x : Nat} (hc : lastB b i = ((c : Nat) : Int)) (hx : b.getD i 0 = ((x : Nat) : Int)) (hc2 : c < 256) (hx2 : x < 256) : allW b W (i + 1) = allW b W i + W c x := by
  unfold allW
  have h1 : ∀ c', c' < 256 → sumTo (fun x' => ((behF b (i + 1) ((c' : Nat) : Int) ((x' : Nat) : Int) : Nat) : Int) * W c' x') 256 = sumTo (fun x' => ((behF b i ((c' : Nat) : Int) ((x' : Nat) : Int) : Nat) : Int) * W c' x') 256 + (if c' = c then W c' x else 0) := fun c' _ => by
    by_cases e : c' = c
    · subst e
      rw [if_pos rfl]
      have h2 := sumTo_single (fun x' => W c' x') x 256
      rw [if_pos hx2] at h2
      rw [← h2, ← sumTo_add]
      apply sumTo_congr
      intro x' _
      rw [behF]
      by_cases e2 : x' = x
      · subst e2; rw [if_pos ⟨hc, hx⟩, if_pos rfl, Int.natCast_add, Int.add_mul]; omega
      · rw [if_neg (by rintro ⟨_, q⟩; omega), if_neg e2, Nat.add_zero, Int.add_zero]
    · rw [if_neg e, Int.add_zero]
      apply sumTo_congr
      intro x' _
      rw [behF, if_neg (by rintro ⟨q, _⟩; omega)]; rfl
  rw [sumTo_congr 256 h1, sumTo_add, sumTo_single (fun c' => W c' x) c 256, if_pos hc2]
theorem allW_0 (b : List Int) (W : Nat → Nat → Int) : allW b W 0 = 0 := by
  unfold allW
  rw [sumTo_congr (G := fun _ => 0) 256 (fun c _ => by
    rw [sumTo_congr (G := fun _ => 0) 256 (fun x _ => by simp [behF]), sumTo_0]), sumTo_0]
/-- all numbers of a text behind its own bytes -/
def putsL (L : Nat → List Int) (b : List Int) : Nat → List (Nat × Nat)
  | 0 => []
  | i + 1 => putsL L b i ++ fputL ((L (lastB b i).toNat).take 32) (b.getD i 0)
theorem puts_all {L : Nat → List Int} (hL : ∀ c, c < 256 → (L c).length ≤ 32) {b : List Int} (hb : B8 b) : ∀ i, i ≤ b.length → ((wl (putsL L b i) : Nat) : Int) = allW b (fun c x => wbit (L c) x) i
  | 0, _ => by rw [allW_0]; rfl
  | i + 1, hi => by
    have hc := lastB_byte b hb (i := i) (by omega)
    have hx : 0 ≤ b.getD i 0 ∧ b.getD i 0 ≤ 255 := by rw [List.getD_eq_getElem?_getD, List.getElem?_eq_getElem (by omega)]; exact hb _ (List.getElem_mem _)
    rw [putsL, wl_app, allW_succ b _ (c := (lastB b i).toNat) (x := (b.getD i 0).toNat) (by omega) (by omega) (by omega) (by omega), ← puts_all hL hb i (by omega), ← wbit_put, Int.natCast_add, List.take_of_length_le (hL _ (by omega)), Int.toNat_of_nonneg hx.1]
theorem sumTo_le {F G : Nat → Int} : ∀ m, (∀ c, c < m → F c ≤ G c) → sumTo F m ≤ sumTo G m
  | 0, _ => Int.le_refl _
  | m + 1, h => by
    have h1 := sumTo_le m (fun c hc => h c (by omega))
    have h2 := h m (by omega)
    simp only [sumTo]; omega
theorem sets_bits (L : Nat → List Int) (hL : ∀ c, c < 256 → (L c).length ≤ 32) : ∀ k, k ≤ 256 → ((wl (setsL L k) : Nat) : Int) = 6 * k + sumTo (fun c => 8 * ((L c).length : Int)) k
  | 0, _ => rfl
  | k + 1, hk => by
    rw [setsL, wl_app, wl_oneL, Int.natCast_add, sets_bits L hL k (by omega), List.take_of_length_le (hL k (by omega))]
    simp only [sumTo]; omega
theorem fewer_law {b : List Int} (hb : B8 b) : wl (setsL (bestC b) 256) + wl (putsL (bestC b) b b.length) ≤ 1536 + 8 * b.length := by
  have hL : ∀ c, c < 256 → (bestC b c).length ≤ 32 := fun c _ => bestC_len b c
  have h1 := sets_bits (bestC b) hL 256 (Nat.le_refl _)
  have h2 := puts_all hL hb b.length (Nat.le_refl _)
  have h3 : sumTo (fun c => 8 * ((bestC b c).length : Int)) 256 + allW b (fun c x => wbit (bestC b c) x) b.length ≤ allW b (fun _ _ => 8) b.length := by
    unfold allW
    rw [← sumTo_add]
    apply sumTo_le
    intro c hc
    have hN := behL_length b b.length ((c : Nat) : Int)
    have h4 := best_cost hN
    have h5 : sumTo (stepC (behL b b.length ((c : Nat) : Int)) (bestP (behL b b.length ((c : Nat) : Int)))) 256 = sumTo (fun x => ((behF b b.length ((c : Nat) : Int) ((x : Nat) : Int) : Nat) : Int) * wbit (bestC b c) x) 256 :=
      sumTo_congr 256 (fun x hx => by rw [stepC_w, behL_getD b _ _ hx]; rfl)
    have h6 := sumTo_tot (behL b b.length ((c : Nat) : Int)) 256 (by rw [hN]; exact Nat.le_refl _)
    rw [List.take_of_length_le (by rw [hN]; exact Nat.le_refl _)] at h6
    have h7 : sumTo (fun x => ((behF b b.length ((c : Nat) : Int) ((x : Nat) : Int) : Nat) : Int) * 8) 256 = 8 * totN (behL b b.length ((c : Nat) : Int)) := by
      rw [sumTo_mul, Int.mul_comm, sumTo_congr (G := fun x => (behL b b.length ((c : Nat) : Int)).getD x 0) 256 (fun x hx => by rw [behL_getD b _ _ hx]), h6]; rfl
    rw [h5] at h4
    rw [h7]
    exact h4
  have h8 : ∀ i, i ≤ b.length → allW b (fun _ _ => 8) i = 8 * ((i : Nat) : Int) := by
    intro i
    induction i with
    | zero => intro _; rw [allW_0]; rfl
    | succ i ih =>
      intro hi
      have hc := lastB_byte b hb (i := i) (by omega)
      have hx : 0 ≤ b.getD i 0 ∧ b.getD i 0 ≤ 255 := by rw [List.getD_eq_getElem?_getD, List.getElem?_eq_getElem (by omega)]; exact hb _ (List.getElem_mem _)
      rw [allW_succ b _ (c := (lastB b i).toNat) (x := (b.getD i 0).toNat) (by omega) (by omega) (by omega) (by omega), ih (by omega)]; omega
  rw [h8 _ (Nat.le_refl _)] at h3
  omega
theorem none_bits (b : List Int) (hb : B8 b) : wl (setsL (fun _ => []) 256) + wl (putsL (fun _ => []) b b.length) = 1536 + 8 * b.length := by
  have h1 := sets_bits (fun _ => []) (fun c _ => by simp) 256 (Nat.le_refl _)
  rw [sumTo_congr (G := fun _ => 0) 256 (fun c _ => by simp), sumTo_0] at h1
  have h2 : ∀ i, wl (putsL (fun _ => []) b i) = 8 * i := by
    intro i
    induction i with
    | zero => rfl
    | succ i ih => rw [putsL, wl_app, ih]; simp only [List.take_nil, fputL, List.length_nil, if_true, wl]; omega
  rw [h2]; omega
/-! ### the walk -/
theorem slV_nil256 {β : Type} (K : List Value → Option β) : True := trivial
theorem setv_nil (h : GH) : SetV h (List.replicate 256 ⟨none, 0, 0⟩) (fun _ => []) := by
  refine ⟨by rw [List.length_replicate], fun c hc => ?_, fun c hc x hx => by simp at hx⟩
  rw [List.getD_eq_getElem?_getD, List.getElem?_replicate, if_pos hc]
  exact Row.nil
theorem rows_nil {c : Nat} (hc : c < 256) : rowsOf ((List.replicate 256 (⟨none, 0, 0⟩ : Sl)).getD c ⟨none, 0, 0⟩) = [] := by
  rw [List.getD_eq_getElem?_getD, List.getElem?_replicate, if_pos hc]; rfl
theorem wl_putsL_le (L : Nat → List Int) (b : List Int) (hb : B8 b) : ∀ i, i ≤ b.length → wl (putsL L b i) ≤ 9 * i
  | 0, _ => by simp [putsL, wl]
  | i + 1, hi => by
    have h1 := wl_putsL_le L b hb i (by omega)
    have hx : 0 ≤ b.getD i 0 ∧ b.getD i 0 ≤ 255 := by rw [List.getD_eq_getElem?_getD, List.getElem?_eq_getElem (by omega)]; exact hb _ (List.getElem_mem _)
    have h2 := (fputL_fit (l := (L (lastB b i).toNat).take 32) (by simp; omega) hx).2
    rw [putsL, wl_app]; omega
theorem fewer_loop {s : Sl} {b : List Int} (hb : B8 b) (hm : b.length ≤ 300) {R : Nat} (hR : 4000000 < R) {gs g1 g2 : Nat} {ss : List Sl} {L : Nat → List Int} {l1 l2 : List (Nat × Nat)} (hl1 : wl l1 ≤ 100000) (hl2 : wl l2 ≤ 100000)
    (a1 : g1 ∉ rowsOf s) (a2 : g2 ∉ rowsOf s) (a3 : g1 ≠ g2) (a4 : gs ≠ g1) (a5 : gs ≠ g2) (hg : ∀ c, c < 256 → ∀ x ∈ rowsOf (ss.getD c ⟨none, 0, 0⟩), x ≠ g1 ∧ x ≠ g2) : ∀ (f i : Nat) {h : GH} {w1 w2 : Sl}, i ≤ b.length → b.length < f + i → Rd h s b → h.look gs = some (.row ⟨ss.map slV, 0, false⟩) → SetV h ss L →
    Wrs h g1 w1 (l1 ++ putsL (fun _ => []) b i) → Wrs h g2 w2 (l2 ++ putsL L b i) → (∀ x, x ∈ rowsOf w1 → x ∉ rowsOf s ∧ x ≠ gs ∧ x ≠ g2 ∧ x ∉ rowsOf w2 ∧ ∀ c, c < 256 → x ∉ rowsOf (ss.getD c ⟨none, 0, 0⟩)) → (∀ x, x ∈ rowsOf w2 → x ∉ rowsOf s ∧ x ≠ gs ∧ x ≠ g1 ∧ ∀ c, c < 256 → x ∉ rowsOf (ss.getD c ⟨none, 0, 0⟩)) →
    ∃ h' w1' w2', Wrs h' g1 w1' (l1 ++ putsL (fun _ => []) b b.length) ∧ Wrs h' g2 w2' (l2 ++ putsL L b b.length) ∧ ∀ (β : Type) (F1 : Sl → Int → GH → (Sl → GH → Option β) → Option β) (F2 : Sl → GH → (List Value → GH → Option β) → Option β) (F3 : GH → (Option Addr → GH → Option β) → Option β) (F4 : Option Addr → List Value → GH → (GH → Option β) → Option β) (F6 : Option Addr → GH → (Int → GH → Option β) → Option β) (F7 : GH → (Bool → GH → Option β) → Option β) (K0 : Sl → Option Addr → Option Addr → GH → Option β),
      F_law12_FollowFewer_l0 F1 F2 F3 F4 (F_follow_Put R) F6 F7 R f s (some ⟨gs, 0, none⟩) (some ⟨g1, 0, none⟩) (some ⟨g2, 0, none⟩) (lastB b i) ((i : Nat) : Int) h K0 = K0 s (some ⟨g1, 0, none⟩) (some ⟨g2, 0, none⟩) h' := by
  intro f
  induction f with
  | zero => intro i h w1 w2 h1 h2; omega
  | succ f ih =>
    intro i h w1 w2 h1 h2 r hl sv wr1 wr2 d1 d2
    by_cases hi : i < b.length
    · have hx : 0 ≤ b.getD i 0 ∧ b.getD i 0 ≤ 255 := by rw [List.getD_eq_getElem?_getD, List.getElem?_eq_getElem hi]; exact hb _ (List.getElem_mem hi)
      have hc := lastB_byte b hb (i := i) (by omega)
      obtain ⟨c, hcc⟩ : ∃ c : Nat, lastB b i = ((c : Nat) : Int) := ⟨(lastB b i).toNat, by omega⟩
      have hc256 : c < 256 := by omega
      have hw1 := wl_putsL_le (fun _ => []) b hb i (by omega)
      have hw2 := wl_putsL_le L b hb i (by omega)
      have lr := r.lt
      have lsv : ∀ c, c < 256 → ∀ x ∈ rowsOf (ss.getD c ⟨none, 0, 0⟩), x < h.next := fun c hc => (sv.rd c hc).lt
      have hgs := look_lt hl
      have hg2n := wr2.2
      have lw2 := wr2.lt
      obtain ⟨hA, wA, wrA, kA, nA, eA⟩ := fput_eq wr1 (setv_nil h) (fun c hc x hx => by rw [rows_nil hc] at hx; cases hx) hc256 hx (by rw [wl_app]; omega) hR
      have keepA : ∀ x, x < h.next → x ≠ g1 → x ∉ rowsOf w1 → x ∉ g1 :: rowsOf w1 := fun x _ q1 q2 hm => by
        rcases List.mem_cons.1 hm with e | e
        · exact q1 e
        · exact q2 e
      have svA := sv.keep kA (fun c hc x hx => keepA x (lsv c hc x hx) (hg c hc x hx).1 (fun q => (d1 x q).2.2.2.2 c hc hx))
      have wr2A := wr2.keep kA (keepA g2 hg2n (fun q => a3 q.symm) (fun q => (d1 _ q).2.2.1 rfl)) (fun x hx => keepA x (lw2 x hx) (d2 x hx).2.2.1 (fun q => (d1 x q).2.2.2.1 hx))
      have rA := r.keep kA (fun x hx => keepA x (lr x hx) (fun q => a1 (by rw [← q]; exact hx)) (fun q => (d1 x q).1 hx))
      have hlA := kA.look hl (keepA gs hgs a4 (fun q => (d1 _ q).2.1 rfl))
      obtain ⟨hB, wB, wrB, kB, nB, eB⟩ := fput_eq wr2A svA (fun c hc x hx => ⟨(hg c hc x hx).2, fun q => (d2 x q).2.2.2 c hc hx⟩) hc256 hx (by rw [wl_app]; omega) hR
      have keepB : ∀ x, x ≠ g2 → x ∉ rowsOf w2 → x ∉ g2 :: rowsOf w2 := fun x q1 q2 hm => by
        rcases List.mem_cons.1 hm with e | e
        · exact q1 e
        · exact q2 e
      have hAn := kA.1
      have newA : ∀ x ∈ rowsOf wA, x ∉ g2 :: rowsOf w2 := fun x hx => keepB x (fun q => by
        rcases nA x hx with t | t
        · exact (d1 x t).2.2.1 q
        · omega) (fun q => by
        rcases nA x hx with t | t
        · exact (d1 x t).2.2.2.1 q
        · have := lw2 x q; omega)
      have wrAB := wrA.keep kB (keepB g1 a3 (fun q => (d2 _ q).2.2.1 rfl)) newA
      have rB := rA.keep kB (fun x hx => keepB x (fun q => a2 (by rw [← q]; exact hx)) (fun q => (d2 x q).1 hx))
      have hlB := kB.look hlA (keepB gs a5 (fun q => (d2 _ q).2.1 rfl))
      have svB := svA.keep kB (fun c hc x hx => keepB x (hg c hc x hx).2 (fun q => (d2 x q).2.2.2 c hc hx))
      obtain ⟨h', w1', w2', q1, q2, e'⟩ := ih (i + 1) (by omega) (by omega) rB hlB svB (w1 := wA) (w2 := wB) (by rw [putsL, ← List.append_assoc]; exact wrAB) (by rw [putsL, hcc, Int.toNat_natCast, ← List.append_assoc]; exact wrB)
        (fun x hx => by
          have hBx : x ∉ rowsOf wB := fun q => by
            have hnot := newA x hx
            rcases nB x q with t | t
            · exact hnot (List.mem_cons_of_mem _ t)
            · have := wrA.lt x hx; omega
          rcases nA x hx with t | t
          · obtain ⟨t1, t2, t3, t4, t5⟩ := d1 x t
            exact ⟨t1, t2, t3, hBx, t5⟩
          · exact ⟨fun q => by have := lr x q; omega, by omega, by omega, hBx, fun c hc q => by have := lsv c hc x q; omega⟩)
        (fun x hx => by
          rcases nB x hx with t | t
          · exact d2 x t
          · have := wr1.2
            exact ⟨fun q => by have := lr x q; omega, by omega, by omega, fun c hc q => by have := lsv c hc x q; omega⟩)
      refine ⟨h', w1', w2', q1, q2, fun β F1 F2 F3 F4 F6 F7 K0 => ?_⟩
      have hby : ∀ {h : GH}, Rd h s b → ∀ K : Int → Option β, (exA s.a fun g o => within ((i : Nat) : Int) b.length (exI .u8 (h.cell ⟨g, o + ((i : Nat) : Int).toNat * 1, none⟩) K)) = K (b.getD i 0) := fun {h} r K => by
        have := r.byte (i := ((i : Nat) : Int)) (β := β) (by omega) (by omega) K
        rw [r.n] at this; exact this
      have hlen : (ss.map slV).length = 256 := by rw [List.length_map]; exact sv.len
      have ns : nsub (ss.map slV) 0 256 = some (ss.map slV) := by have := nsub_all (ss.map slV); rwa [hlen] at this
      rw [F_law12_FollowFewer_l0_succ, r.n, decT (by omega), condT, hby r, hcc]
      refine Eq.trans (congrArg (fun l => F_follow_Put R (some ⟨g1, 0, none⟩) l ((c : Nat) : Int) (b.getD i 0) h _) (chkN_eq _ 256 (by kernel_rfl))) ?_
      refine Eq.trans (eA β _) ?_
      rw [exA_s, rowCells_of hlA, ns, exL_s, hby rA]
      refine Eq.trans (eB β _) ?_
      rw [hby rB, i64w (by omega)]
      have e'' := e' β F1 F2 F3 F4 F6 F7 K0
      rw [lastB_succ] at e''
      exact e''
    · have : i = b.length := by omega
      subst this
      refine ⟨h, w1, w2, wr1, wr2, fun β F1 F2 F3 F4 F6 F7 K0 => ?_⟩
      rw [F_law12_FollowFewer_l0_succ, r.n, decF (by omega), condF]
theorem fewer_true {h : GH} {s : Sl} {b : List Int} (r : Rd h s b) (hb : B8 b) {R : Nat} (hR : 4000000 < R) : ∃ h', ∀ (β : Type) (K : Bool → GH → Option β), F_law12_FollowFewer R s h K = K true h' := by
  obtain ⟨q, rq, nq, e1⟩ := ref_cut r R 300
  obtain ⟨b3, hb3⟩ : ∃ b3, b3 = b.take 300 := ⟨_, rfl⟩
  have hb2 : B8 b3 := fun x hx => hb x (by rw [hb3] at hx; exact List.mem_of_mem_take hx)
  have hm : b3.length ≤ 300 := by rw [hb3]; simp; omega
  rw [← hb3] at rq
  have lq := rq.lt
  obtain ⟨h2, g2, ss, s2, n2, k2, e2⟩ := best_prog rq hb2 (by omega) hR
  have hb2n := k2.1
  -- the sets' own block
  obtain ⟨h3, eh3⟩ : ∃ h3, h3 = h2.push (.row ⟨(List.replicate 256 (⟨none, 0, 0⟩ : Sl)).map slV, 0, false⟩) := ⟨_, rfl⟩
  obtain ⟨h4, eh4⟩ : ∃ h4, h4 = h3.put h2.next (some (.row ⟨ss.map slV, 0, false⟩)) := ⟨_, rfl⟩
  have n3 : h3.next = h2.next + 1 := by rw [eh3, next_push]
  have n4 : h4.next = h2.next + 1 := by rw [eh4]; exact n3
  have l3 : h3.look h2.next = some (.row ⟨(List.replicate 256 (⟨none, 0, 0⟩ : Sl)).map slV, 0, false⟩) := by rw [eh3]; exact look_push_new
  have l4 : h4.look h2.next = some (.row ⟨ss.map slV, 0, false⟩) := by rw [eh4]; exact look_put_same (by omega)
  have k24 : Keep h2 h4 [] := by
    rw [eh4]
    refine Keep.trans (by rw [eh3]; exact keep_push _ _ []) (keep_put _ _ _) (fun x hx => ?_)
    simp at hx; subst hx; exact .inr (Nat.le_refl _)
  have sv4 : SetV h4 ss (bestC b3) := ⟨s2.len, fun c hc => (s2.rd c hc).1.keep k24 (by simp), fun c hc x hx => by
    have := (bestP_sub (behL b3 b3.length ((c : Nat) : Int))).2.1 x hx; omega⟩
  have lss : ∀ c, c < 256 → ∀ x ∈ rowsOf (ss.getD c ⟨none, 0, 0⟩), x < h2.next := fun c hc => (s2.rd c hc).1.lt
  -- both writers
  obtain ⟨h5, gA, wA, kA, nA, eA⟩ := new_writer h4
  obtain ⟨h6, gB, wB, kB, nB, eB⟩ := new_writer h5
  have b5 := kA.1
  have b6 := kB.1
  have wA0 : Wrs h5 gA ⟨none, 0, 0⟩ [] := ⟨wA, look_lt wA.look⟩
  have wB0 : Wrs h6 gB ⟨none, 0, 0⟩ [] := ⟨wB, look_lt wB.look⟩
  have hAB := wA0.2
  have wA6 := wA0.keep kB (by simp) (by simp)
  have k46 : Keep h4 h6 [] := kA.trans kB (by simp)
  obtain ⟨h7, w7, wr7, k7, n7, e7⟩ := putsets_eq hR wA6 (setv_nil h6) (fun c hc x hx => by rw [rows_nil hc] at hx; cases hx) (by simp [wl])
  rw [List.nil_append] at wr7
  have b7 := k7.1
  have sv6 := sv4.keep k46 (by simp)
  have sv7 := sv6.keep k7 (fun c hc x hx hm => by simp [rowsOf] at hm; have := lss c hc x hx; omega)
  have wB7 := wB0.keep k7 (by simp [rowsOf]; omega) (by simp [rowsOf])
  have l7 := k7.look (k46.look l4 (by simp)) (by simp [rowsOf]; omega)
  obtain ⟨h8, w8, wr8, k8, n8, e8⟩ := putsets_eq hR wB7 sv7 (fun c hc x hx => ⟨by have := lss c hc x hx; omega, by simp [rowsOf]⟩) (by simp [wl])
  rw [List.nil_append] at wr8
  have sv8 := sv7.keep k8 (fun c hc x hx hm => by simp [rowsOf] at hm; have := lss c hc x hx; omega)
  have lw7 := wr7.lt
  have n7' : ∀ x ∈ rowsOf w7, h6.next ≤ x := fun x hx => by
    rcases n7 x hx with t | t
    · simp [rowsOf] at t
    · exact t
  have n8' : ∀ x ∈ rowsOf w8, h7.next ≤ x := fun x hx => by
    rcases n8 x hx with t | t
    · simp [rowsOf] at t
    · exact t
  have hBn := wB0.2
  have wr7' := wr7.keep k8 (by simp [rowsOf]; omega) (fun x hx hm => by simp [rowsOf] at hm; have := n7' x hx; omega)
  have l8 := k8.look l7 (by simp [rowsOf]; omega)
  have rq8 := ((((rq.keep k2 (by simp)).keep k24 (by simp)).keep k46 (by simp)).keep k7 (fun x hx hm => by simp [rowsOf] at hm; have := lq x hx; omega)).keep k8 (fun x hx hm => by simp [rowsOf] at hm; have := lq x hx; omega)
  have hs1 := wl_setsL (fun _ => []) 256
  have hs2 := wl_setsL (bestC b3) 256
  obtain ⟨h9, u1, u2, q1, q2, e9⟩ := fewer_loop (s := q) hb2 hm hR (gs := h2.next) (g1 := gA) (g2 := gB) (ss := ss) (L := bestC b3) (l1 := setsL (fun _ => []) 256) (l2 := setsL (bestC b3) 256) (by omega) (by omega) (fun t => by have := lq _ t; omega) (fun t => by have := lq _ t; omega) (by omega) (by omega) (by omega) (fun c hc x hx => by have := lss c hc x hx; omega) R 0 (by omega) (by omega) rq8 l8 sv8 (w1 := w7) (w2 := w8) (by rw [putsL, List.append_nil]; exact wr7') (by rw [putsL, List.append_nil]; exact wr8)
    (fun x hx => ⟨fun t => by have := lq x t; have := n7' x hx; omega, by have := n7' x hx; omega, by have := n7' x hx; omega, fun t => by have := n8' x t; have := lw7 x hx; omega, fun c hc t => by have := lss c hc x t; have := n7' x hx; omega⟩)
    (fun x hx => ⟨fun t => by have := lq x t; have := n8' x hx; omega, by have := n8' x hx; omega, by have := n8' x hx; omega, fun c hc t => by have := lss c hc x t; have := n8' x hx; omega⟩)
  have hfew := fewer_law hb2
  have hnone := none_bits b3 hb2
  have lenA : ∀ (β : Type) (K : Int → GH → Option β), F_bitio_Writer_Len R (some ⟨gA, 0, none⟩) h9 K = K ((1536 + 8 * b3.length : Nat) : Int) h9 := fun β K => by
    rw [wlen_eq q1.1 (by rw [wl_app]; omega), wl_app, hnone]
  have lenB : ∀ (β : Type) (K : Int → GH → Option β), F_bitio_Writer_Len R (some ⟨gB, 0, none⟩) h9 K = K ((wl (setsL (bestC b3) 256) + wl (putsL (bestC b3) b3 b3.length) : Nat) : Int) h9 := fun β K => by
    rw [wlen_eq q2.1 (by rw [wl_app]; omega), wl_app]
  refine ⟨h9, fun β K => ?_⟩
  rw [show ((300 : Nat) : Int) = 300 from rfl] at e1
  have hlen : (ss.map slV).length = 256 := by rw [List.length_map]; exact s2.len
  have hrep : ((List.replicate 256 (⟨none, 0, 0⟩ : Sl)).map slV).length = 256 := by rw [List.length_map, List.length_replicate]
  have ns : nsub (ss.map slV) 0 256 = some (ss.map slV) := by have := nsub_all (ss.map slV); rwa [hlen] at this
  unfold F_law12_FollowFewer
  rw [F_law12_FollowFewer_gen, e1, e2, Z28_eq, gnew_eq (allCells_slV _), ← eh3, hlen, beq_t, condT, gput_eq l3 (allCells_slV _) (by rw [hlen, hrep]; omega), nlay_all _ _ (by rw [hlen, hrep]), ← eh4, eA, eB]
  refine Eq.trans (congrArg (fun l => F_follow_PutSets R (some ⟨gA, 0, none⟩) l h6 _) (chkN_eq _ 256 (by kernel_rfl))) ?_
  refine Eq.trans (e7 β _) ?_
  rw [rowCells_of l7, ns, exL_s]
  refine Eq.trans (e8 β _) ?_
  have e9' := e9 β (F_ref01_Cut R) (F_follow_Best R) (F_bitio_New R) (F_follow_PutSets R) (F_bitio_Writer_Len R) F_law12_lives
  rw [show ((0 : Nat) : Int) = 0 from rfl, show lastB b3 0 = 0 from rfl] at e9'
  refine Eq.trans (e9' _) ?_
  rw [lenB, lenA, decT (by omega), condT, lenA, rq.n, i64w (x := 8 * ((b3.length : Nat) : Int)) (by omega), i64w (by omega), beq_int, decT (by omega), condT]
  exact lives12 _ _
theorem fewer_any {W : World} {a : Option Addr} {len cap : Nat} {bs : List Int} (hr : IsRow .u8 W a len cap bs) : Calls Try.prog 4 #[.slice a len cap] W fun e W' => e = .returned (.bool true) ∧ Below W.heap.size W W' := by
  let l : List Ar := [⟨a, len, cap, 1, u8s (bs.take len)⟩]
  have ok : ∀ x ∈ l, ArOk (arInj l) W x := fun x hx => by cases List.mem_singleton.1 hx; exact ar_bytes hr _
  obtain ⟨h', e⟩ := fewer_true (ar_row (l := l) (g := 0) rfl (ar_bytes hr (arInj l))) (IsRow.b8 hr) (R := rounds) (by unfold rounds; omega)
  obtain ⟨v, h1, hk, hc⟩ := F_law12_FollowFewer_sim (β := Value × GH) (r := (.bool true, h')) (K := fun v h => some (v, h)) (e _ _)
  cases hk
  exact ar_calls ok hc (.cons (ar_vr (l := l) (g := 0) rfl (ar_bytes hr (arInj l))) .nil)
end Go.Proofs.Ytcpgnodiphlfhaa.Gx

