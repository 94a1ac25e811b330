/- The best followers of a byte: the program's choice and the document's. No condition. -/
import Derived.Test.YtdmemmpkkibckaaOrd
namespace Go.Proofs.Ytdmemmpkkibckaa.Gx
open Go Go.RowKit
set_option linter.unusedVariables false
set_option linter.unusedSimpArgs false
/-! ### how many bits a place has -/
def Wd (n : Nat) : Nat := if n ≤ 2 then 1 else if n ≤ 4 then 2 else if n ≤ 8 then 3 else if n ≤ 16 then 4 else 5
def blen (i : Nat) : Nat := if i = 0 then 0 else if i < 2 then 1 else if i < 4 then 2 else if i < 8 then 3 else if i < 16 then 4 else 5
theorem str0_get : ∀ i, i < 32 → Str0[i]? = some (UInt8.ofNat (blen i)) := by decide +kernel
theorem Wd_le (n : Nat) : 1 ≤ Wd n ∧ Wd n ≤ 5 := by
  unfold Wd
  repeat' split
  all_goals omega
theorem width_prog (R : Nat) {n : Nat} (h1 : 1 ≤ n) (h2 : n ≤ 32) {β : Type} (h : GH) (K : Int → GH → Option β) : F_follow_Width R ((n : Nat) : Int) h K = K ((Wd n : Nat) : Int) h := by
  unfold F_follow_Width
  rw [F_follow_Width_gen, decF (by omega), condF, decF (by omega), condF, i64w (by omega), IntWalk.u64_in _ (by omega)]
  unfold F_math_bits_Len
  rw [F_math_bits_Len_gen]
  unfold F_math_bits_Len64
  have e1 : byteAt Str0 (((n : Nat) : Int) - 1) (β := β) = fun K => K ((blen (n - 1) : Nat) : Int) := by
    funext K
    unfold byteAt
    rw [if_pos (by omega), show (((n : Nat) : Int) - 1).toNat = n - 1 by omega, str0_get (n - 1) (by omega)]
    show K _ = K _
    congr 1
    have : blen (n - 1) < 256 := by unfold blen; repeat' split
                                    all_goals omega
    simp [Nat.mod_eq_of_lt this]
  rw [F_math_bits_Len64_gen, decF (by omega), condF, decF (by omega), condF, decF (by omega), condF, IntWalk.u8_in _ (by omega), e1]
  have hb : blen (n - 1) ≤ 5 := by unfold blen; repeat' split
                                   all_goals omega
  show K (if 1 > IntKind.wrap .i64 (0 + IntKind.wrap .i64 ((blen (n - 1) : Nat) : Int)) then 1 else IntKind.wrap .i64 (0 + IntKind.wrap .i64 ((blen (n - 1) : Nat) : Int))) h = _
  rw [i64w (x := ((blen (n - 1) : Nat) : Int)) (by omega), i64w (by omega)]
  congr 1
  unfold blen Wd
  repeat' split
  all_goals omega
theorem width_ref {R : Nat} (hR : 4000000 < R) {n : Nat} (h1 : 1 ≤ n) (h2 : n ≤ 32) {β : Type} (h : GH) (K : Int → GH → Option β) : F_ref12_Width R ((n : Nat) : Int) h K = K ((Wd n : Nat) : Int) h := by
  obtain ⟨R, rfl⟩ : ∃ q, R = q + 6 := ⟨R - 6, by omega⟩
  unfold F_ref12_Width
  rw [F_ref12_Width_gen, decF (by omega), condF, decF (by omega), condF, F_ref12_Width_l0_succ]
  unfold Wd
  by_cases c1 : n ≤ 2
  · rw [if_pos c1, decF (by omega), condF]; rfl
  rw [if_neg c1, decT (by omega), condT, show IntKind.wrap .i64 (1 + 1) = 2 from rfl, show IntKind.wrap .i64 (2 * 2) = 4 from rfl, F_ref12_Width_l0_succ]
  by_cases c2 : n ≤ 4
  · rw [if_pos c2, decF (by omega), condF]; rfl
  rw [if_neg c2, decT (by omega), condT, show IntKind.wrap .i64 (2 + 1) = 3 from rfl, show IntKind.wrap .i64 (4 * 2) = 8 from rfl, F_ref12_Width_l0_succ]
  by_cases c3 : n ≤ 8
  · rw [if_pos c3, decF (by omega), condF]; rfl
  rw [if_neg c3, decT (by omega), condT, show IntKind.wrap .i64 (3 + 1) = 4 from rfl, show IntKind.wrap .i64 (8 * 2) = 16 from rfl, F_ref12_Width_l0_succ]
  by_cases c4 : n ≤ 16
  · rw [if_pos c4, decF (by omega), condF]; rfl
  rw [if_neg c4, decT (by omega), condT, show IntKind.wrap .i64 (4 + 1) = 5 from rfl, show IntKind.wrap .i64 (16 * 2) = 32 from rfl, F_ref12_Width_l0_succ, decF (by omega), condF]; rfl
/-! ### what followers cost -/
def sumAt (N l : List Int) : Int := (l.map (fun c => N.getD c.toNat 0)).sum
def totN (N : List Int) : Int := N.sum
def costK (N l : List Int) (k : Nat) : Int := if k = 0 then 8 * totN N else 8 * k + sumAt N (l.take k) * (1 + Wd k) + 9 * (totN N - sumAt N (l.take k))
def pickN (cost : Nat → Int) : Nat → Nat
  | 0 => 0
  | k + 1 => if cost (k + 1) < cost (pickN cost k) then k + 1 else pickN cost k
theorem pickN_le (cost : Nat → Int) : ∀ k, pickN cost k ≤ k
  | 0 => Nat.le_refl _
  | k + 1 => by have := pickN_le cost k; unfold pickN; split <;> omega
def bestP (N : List Int) : List Int := ((ordZ N).take 32).take (pickN (costK N ((ordZ N).take 32)) ((ordZ N).take 32).length)
theorem sum_bound : ∀ (l : List Int), (∀ x ∈ l, 0 ≤ x ∧ x ≤ 1000000) → 0 ≤ l.sum ∧ l.sum ≤ 1000000 * l.length
  | [], _ => by simp
  | x :: l, h => by
    have h1 := h x (by simp)
    have h2 := sum_bound l (fun y hy => h y (by simp [hy]))
    simp only [List.sum_cons, List.length_cons]; omega
theorem sumAt_bound {N l : List Int} (hN : ∀ x ∈ N, 0 ≤ x ∧ x ≤ 1000000) : 0 ≤ sumAt N l ∧ sumAt N l ≤ 1000000 * l.length := by
  have := sum_bound (l.map (fun c => N.getD c.toNat 0)) (fun x hx => by
    obtain ⟨c, _, rfl⟩ := List.mem_map.1 hx
    by_cases q : c.toNat < N.length
    · rw [List.getD_eq_getElem?_getD, List.getElem?_eq_getElem q]; exact hN _ (List.getElem_mem q)
    · rw [List.getD_eq_getElem?_getD, List.getElem?_eq_none (by omega)]; simp)
  rw [List.length_map] at this; exact this
theorem sumAt_snoc (N l : List Int) (x : Int) : sumAt N (l ++ [x]) = sumAt N l + N.getD x.toNat 0 := by unfold sumAt; simp
theorem take_snocI {l : List Int} {i : Nat} (h : i < l.length) : l.take (i + 1) = l.take i ++ [l.getD i 0] := by
  rw [List.getD_eq_getElem?_getD, List.take_add_one, List.getElem?_eq_getElem h]; rfl
theorem isum_snoc : ∀ (l : List Int) (x : Int), (l ++ [x]).sum = l.sum + x
  | [], x => by simp
  | y :: l, x => by rw [List.cons_append, List.sum_cons, List.sum_cons, isum_snoc l x]; omega
theorem sum_take {l : List Int} {i : Nat} (h : i < l.length) : (l.take (i + 1)).sum = (l.take i).sum + l.getD i 0 := by
  rw [take_snocI h, isum_snoc]
theorem ordZ_mem {N : List Int} {x : Int} (h : x ∈ ordZ N) : 0 ≤ x ∧ x < 256 ∧ N.getD x.toNat 0 > 0 := by
  have := ascB_mem.1 ((ordZ_spec N).1.mem_iff.1 h)
  omega
theorem best_l0 (R : Nat) {a : Option Addr} {N : List Int} {h : GH} (c : Cnt h a N) (p : Option Addr) (s : Sl) {β : Type} (F1 : Option Addr → GH → (Sl → GH → Option β) → Option β) (F2 : Int → GH → (Int → GH → Option β) → Option β) (K0 : Option Addr → Sl → Int → GH → Option β) : ∀ (f i : Nat), i ≤ 256 → 256 < f + i → F_follow_counts_best_l0 F1 F2 R f p s (N.take i).sum a ((i : Nat) : Int) h K0 = K0 p s (totN N) h
  | 0, i, h1, h2 => by omega
  | f + 1, i, h1, h2 => by
    have hl := c.len
    rw [F_follow_counts_best_l0_succ]
    by_cases hi : i < 256
    · have hb := sum_bound (N.take i) (fun x hx => c.pos x (List.mem_of_mem_take hx))
      have hg : 0 ≤ N.getD i 0 ∧ N.getD i 0 ≤ 1000000 := by rw [List.getD_eq_getElem?_getD, List.getElem?_eq_getElem (by omega)]; exact c.pos _ (List.getElem_mem _)
      have hlt : (N.take i).length ≤ 256 := by simp; omega
      rw [decT (by omega), condT, c.get (by omega) (by omega), Int.toNat_natCast, i64w (by omega), i64w (by omega), ← sum_take (by omega)]
      exact best_l0 R c p s F1 F2 K0 f (i + 1) (by omega) (by omega)
    · have : i = 256 := by omega
      subst this
      rw [decF (by omega), condF, List.take_of_length_le (by omega)]; rfl
theorem best_l1 {R : Nat} {a : Option Addr} {N l : List Int} {h : GH} (c : Cnt h a N) {s : Sl} (r : Rd h s l) (hm : ∀ x ∈ l, 0 ≤ x ∧ x < 256) (hl32 : l.length ≤ 32) {β : Type} (F1 : Option Addr → GH → (Sl → GH → Option β) → Option β) (K2 : Sl → Int → GH → Option β) : ∀ (f i : Nat), i ≤ l.length → l.length < f + i →
    F_follow_counts_best_l1 F1 (F_follow_Width R) R f a s (totN N) (costK N l (pickN (costK N l) i)) ((pickN (costK N l) i : Nat) : Int) (sumAt N (l.take i)) s ((l.length : Nat) : Int) ((i : Nat) : Int) h K2 = K2 s ((pickN (costK N l) l.length : Nat) : Int) h
  | 0, i, h1, h2 => by omega
  | f + 1, i, h1, h2 => by
    have hl := c.len
    rw [F_follow_counts_best_l1_succ]
    by_cases hi : i < l.length
    · have ht := sum_bound N c.pos
      have hx := hm (l.getD i 0) (by rw [List.getD_eq_getElem?_getD, List.getElem?_eq_getElem hi]; exact List.getElem_mem hi)
      have hg : 0 ≤ N.getD (l.getD i 0).toNat 0 ∧ N.getD (l.getD i 0).toNat 0 ≤ 1000000 := by rw [List.getD_eq_getElem?_getD, List.getElem?_eq_getElem (by omega)]; exact c.pos _ (List.getElem_mem _)
      have hs1 := sumAt_bound (N := N) (l := l.take i) c.pos
      have hs2 := sumAt_bound (N := N) (l := l.take (i + 1)) c.pos
      have hlt : (l.take i).length ≤ 32 := by simp; omega
      have hlt2 : (l.take (i + 1)).length ≤ 32 := by simp; omega
      have hsn : sumAt N (l.take i) + N.getD (l.getD i 0).toNat 0 = sumAt N (l.take (i + 1)) := by rw [take_snocI hi, sumAt_snoc]
      have hw := Wd_le (i + 1)
      have hmul : 0 ≤ sumAt N (l.take (i + 1)) * (1 + ((Wd (i + 1) : Nat) : Int)) ∧ sumAt N (l.take (i + 1)) * (1 + ((Wd (i + 1) : Nat) : Int)) ≤ 32000000 * 6 := ⟨Int.mul_nonneg hs2.1 (by omega), Int.mul_le_mul (by omega) (by omega) (by omega) (by omega)⟩
      unfold totN at *
      have hcost : 8 * ((i + 1 : Nat) : Int) + sumAt N (l.take (i + 1)) * (1 + ((Wd (i + 1) : Nat) : Int)) + 9 * (N.sum - sumAt N (l.take (i + 1))) = costK N l (i + 1) := by rw [costK, if_neg (by omega)]; rfl
      have ew := fun K => width_prog (β := β) R (n := i + 1) (by omega) (by omega) h K
      rw [decT (by omega), condT]
      have hby := r.byte (β := β) (i := ((i : Nat) : Int)) (by omega) (by omega)
      refine Eq.trans (hby _) ?_
      rw [Int.toNat_natCast, c.get hx.1 hx.2, i64w (x := ((i : Nat) : Int) + 1) (by omega), show ((i : Nat) : Int) + 1 = ((i + 1 : Nat) : Int) from rfl, ew]
      rw [i64w (x := sumAt N (l.take i) + N.getD (l.getD i 0).toNat 0) (by omega), hsn, i64w (x := 8 * ((i + 1 : Nat) : Int)) (by omega), i64w (x := 1 + ((Wd (i + 1) : Nat) : Int)) (by omega), i64w (x := sumAt N (l.take (i + 1)) * (1 + ((Wd (i + 1) : Nat) : Int))) (by omega), i64w (x := N.sum - sumAt N (l.take (i + 1))) (by omega), i64w (x := 9 * (N.sum - sumAt N (l.take (i + 1)))) (by omega), i64w (x := 8 * ((i + 1 : Nat) : Int) + sumAt N (l.take (i + 1)) * (1 + ((Wd (i + 1) : Nat) : Int))) (by omega), i64w (by omega), hcost]
      have ih := best_l1 (R := R) c r hm hl32 F1 K2 f (i + 1) (by omega) (by omega)
      unfold totN at ih
      rw [show pickN (costK N l) (i + 1) = if costK N l (i + 1) < costK N l (pickN (costK N l) i) then i + 1 else pickN (costK N l) i from rfl] at ih
      by_cases cl : costK N l (i + 1) < costK N l (pickN (costK N l) i)
      · rw [if_pos cl] at ih
        rw [decT cl, condT]; exact ih
      · rw [if_neg cl] at ih
        rw [decF cl, condF]; exact ih
    · have : i = l.length := by omega
      subst this
      rw [decF (by omega), condF]
theorem Row.cut0 {h : GH} {s : Sl} {bs : List Int} (r : Rd h s bs) {k : Nat} (hk : k ≤ bs.length) : Rd h ⟨addO s.a (0 * 1), k - 0, k - 0⟩ (bs.take k) := by
  have hn := r.n
  have hc := r.cap
  have := r.cut (lo := 0) (hi := k) (mx := k) (Nat.zero_le _) hk (Nat.le_refl _) (by omega)
  simpa using this
/-- the best followers of a byte, out of its counts -/
theorem best_eq {h : GH} {a : Option Addr} {N : List Int} (c : Cnt h a N) {R : Nat} (hR : 4000000 < R) : ∃ h' q, Rd h' q (bestP N) ∧ Keep h h' [] ∧ (∀ k ∈ rowsOf q, h.next ≤ k) ∧ ∀ (β : Type) (K : Sl → GH → Option β), F_follow_counts_best R a h K = K q h' := by
  obtain ⟨h1, s, r1, k1, n1, e1⟩ := ordered_eq c hR
  have c1 := c.keep k1 (by simp)
  have hl : ((ordZ N).take 32).length ≤ 32 := by simp; omega
  have hm : ∀ x ∈ (ordZ N).take 32, 0 ≤ x ∧ x < 256 := fun x hx => by have := ordZ_mem (List.mem_of_mem_take hx); omega
  have hpk := pickN_le (costK N ((ordZ N).take 32)) ((ordZ N).take 32).length
  have ht := sum_bound N c.pos
  have hlen := c.len
  have hsn := r1.n
  have hsc := r1.cap
  refine ⟨h1, _, r1.cut0 hpk, k1, fun k hk => ?_, fun β K => ?_⟩
  · cases ha : s.a with
    | none => simp [rowsOf, addO, ha] at hk
    | some x => exact n1 k (by simpa [rowsOf, addO, ha] using hk)
  · unfold F_follow_counts_best
    rw [F_follow_counts_best_gen, e1]
    have e2 := best_l0 R c1 a s (F_follow_counts_ordered R) (F_follow_Width R) (β := β) (fun w15 w16 w17 h18 => F_follow_counts_best_l1 (F_follow_counts_ordered R) (F_follow_Width R) R R w15 w16 w17 (IntKind.wrap .i64 (8 * w17)) 0 0 w16 ((w16.n : Nat) : Int) 0 h18 (fun w38 w39 h40 => bnd w39 w38.c fun m41 => bnd w39 m41 fun m42 => K ⟨addO w38.a (0 * 1), m42 - 0, m41 - 0⟩ h40)) R 0 (by omega) (by omega)
    rw [List.take_zero, show ([] : List Int).sum = 0 from rfl, show ((0 : Nat) : Int) = 0 from rfl] at e2
    refine Eq.trans e2 ?_
    have e3 := best_l1 (R := R) c1 r1 hm hl (F_follow_counts_ordered R) (fun w38 w39 h40 => bnd w39 w38.c fun m41 => bnd w39 m41 fun m42 => K ⟨addO w38.a (0 * 1), m42 - 0, m41 - 0⟩ h40) R 0 (by omega) (by omega)
    rw [show pickN (costK N ((ordZ N).take 32)) 0 = 0 from rfl, show costK N ((ordZ N).take 32) 0 = 8 * totN N by rw [costK, if_pos rfl], List.take_zero, show sumAt N [] = 0 from rfl, show ((0 : Nat) : Int) = 0 from rfl] at e3
    unfold totN at e3 ⊢
    rw [i64w (by omega), hsn]
    refine Eq.trans e3 ?_
    rw [bnd_t (by omega) (by omega), bnd_t (by omega) (by omega)]
    simp only [Int.toNat_natCast]
end Go.Proofs.Ytdmemmpkkibckaa.Gx

