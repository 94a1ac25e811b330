/- The first place of a byte in a list, in plain lists. No condition. -/
import Derived.Test.YtdmemmpkkibckaaBst
namespace Go.Proofs.Ytdmemmpkkibckaa.Gx
open Go Go.RowKit
set_option linter.unusedVariables false
set_option linter.unusedSimpArgs false
/-- the first place of a byte -/
def idxF : List Int → Int → Nat → Int
  | [], c, i => -1
  | x :: l, c, i => if x = c then ((i : Nat) : Int) else idxF l c (i + 1)
theorem idxF_mem : ∀ (l : List Int) (c : Int) (i : Nat), (0 ≤ idxF l c i ↔ c ∈ l) ∧ -1 ≤ idxF l c i ∧ idxF l c i < ((i + l.length : Nat) : Int)
  | [], c, i => by simp [idxF]; omega
  | x :: l, c, i => by
    obtain ⟨h1, h2, h3⟩ := idxF_mem l c (i + 1)
    unfold idxF
    by_cases e : x = c
    · rw [if_pos e]
      refine ⟨⟨fun _ => by simp [e], fun _ => by omega⟩, by omega, ?_⟩
      simp only [List.length_cons]; omega
    · rw [if_neg e]
      refine ⟨⟨fun q => by simp [h1.1 q], fun q => h1.2 ?_⟩, h2, ?_⟩
      · rcases List.mem_cons.1 q with q | q
        · exact absurd q.symm e
        · exact q
      · simp only [List.length_cons]; omega
theorem getD_dropB {zs : List Int} {i : Nat} (hi : i < zs.length) : zs.drop i = zs.getD i 0 :: zs.drop (i + 1) := by
  rw [List.getD_eq_getElem?_getD, List.getElem?_eq_getElem hi, Option.getD_some]; exact List.drop_eq_getElem_cons hi
def stepC (N l : List Int) (c : Nat) : Int := if l.length = 0 then 8 * N.getD c 0 else if ((c : Nat) : Int) ∈ l then N.getD c 0 * (1 + Wd l.length) else 9 * N.getD c 0
def costTo (N l : List Int) : Nat → Int
  | 0 => 8 * l.length
  | m + 1 => costTo N l m + stepC N l m
/-! sums over all bytes -/
def sumTo (F : Nat → Int) : Nat → Int
  | 0 => 0
  | m + 1 => sumTo F m + F m
theorem sumTo_add (F G : Nat → Int) : ∀ m, sumTo (fun c => F c + G c) m = sumTo F m + sumTo G m
  | 0 => rfl
  | m + 1 => by simp only [sumTo, sumTo_add F G m]; omega
theorem sumTo_mul (F : Nat → Int) (k : Int) : ∀ m, sumTo (fun c => F c * k) m = sumTo F m * k
  | 0 => by simp [sumTo]
  | m + 1 => by simp only [sumTo, sumTo_mul F k m, Int.add_mul]
theorem sumTo_congr {F G : Nat → Int} : ∀ m, (∀ c, c < m → F c = G c) → sumTo F m = sumTo G m
  | 0, _ => rfl
  | m + 1, h => by simp only [sumTo]; rw [sumTo_congr m (fun c hc => h c (by omega)), h m (by omega)]
theorem sumTo_one (N : List Int) (x : Nat) : ∀ m, sumTo (fun c => if c = x then N.getD c 0 else 0) m = if x < m then N.getD x 0 else 0
  | 0 => by simp [sumTo]
  | m + 1 => by
    simp only [sumTo, sumTo_one N x m]
    by_cases c1 : m = x
    · subst c1; rw [if_pos rfl, if_neg (by omega), if_pos (by omega)]; omega
    · rw [if_neg c1]
      by_cases c2 : x < m
      · rw [if_pos c2, if_pos (by omega)]; omega
      · rw [if_neg c2, if_neg (by omega)]; omega
theorem sumTo_tot (N : List Int) : ∀ m, m ≤ N.length → sumTo (fun c => N.getD c 0) m = (N.take m).sum
  | 0, _ => by simp [sumTo]
  | m + 1, h => by simp only [sumTo, sumTo_tot N m (by omega)]; rw [sum_take (by omega)]
theorem sumTo_in (N : List Int) (m : Nat) : ∀ l : List Int, l.Nodup → (∀ x ∈ l, 0 ≤ x ∧ x < m) → sumTo (fun c => if ((c : Nat) : Int) ∈ l then N.getD c 0 else 0) m = sumAt N l
  | [], _, _ => by
    rw [sumTo_congr (G := fun _ => 0) m (fun c _ => by simp)]
    have : ∀ m, sumTo (fun _ => 0) m = 0 := fun m => by
      induction m with
      | zero => rfl
      | succ m ih => simp only [sumTo, ih]; rfl
    rw [this]; rfl
  | x :: l, hn, hm => by
    have hn' := List.nodup_cons.1 hn
    have hx := hm x (by simp)
    have ih := sumTo_in N m l hn'.2 (fun y hy => hm y (by simp [hy]))
    rw [sumTo_congr (G := fun c => (if c = x.toNat then N.getD c 0 else 0) + (if ((c : Nat) : Int) ∈ l then N.getD c 0 else 0)) m (fun c _ => by
      by_cases q : c = x.toNat
      · have : ((c : Nat) : Int) = x := by omega
        rw [if_pos (by rw [this]; simp), if_pos q, if_neg (by rw [this]; exact hn'.1)]; omega
      · have : ((c : Nat) : Int) ≠ x := by omega
        rw [if_neg q]
        by_cases q2 : ((c : Nat) : Int) ∈ l
        · rw [if_pos (by simp [q2]), if_pos q2]; omega
        · rw [if_neg (by simp [q2, this]), if_neg q2]; omega), sumTo_add, sumTo_one, if_pos (by omega), ih]
    unfold sumAt
    rw [List.map_cons, List.sum_cons]
theorem costTo_sum (N l : List Int) : ∀ m, costTo N l m = 8 * l.length + sumTo (stepC N l) m
  | 0 => by simp [costTo, sumTo]
  | m + 1 => by simp only [costTo, sumTo, costTo_sum N l m]; omega
theorem costTo_eq {N l : List Int} (hN : N.length = 256) (hn : l.Nodup) (hm : ∀ x ∈ l, 0 ≤ x ∧ x < 256) : costTo N l 256 = if l.length = 0 then 8 * totN N else 8 * l.length + sumAt N l * (1 + Wd l.length) + 9 * (totN N - sumAt N l) := by
  have ht := sumTo_tot N 256 (by omega)
  rw [List.take_of_length_le (by omega)] at ht
  rw [costTo_sum]
  by_cases c0 : l.length = 0
  · rw [if_pos c0, sumTo_congr (G := fun c => N.getD c 0 * 8) 256 (fun c _ => by rw [stepC, if_pos c0]; omega), sumTo_mul, ht, c0]
    unfold totN; omega
  · rw [if_neg c0]
    rw [sumTo_congr (G := fun c => N.getD c 0 * 9 + (if ((c : Nat) : Int) ∈ l then N.getD c 0 else 0) * (((Wd l.length : Nat) : Int) - 8)) 256 (fun c _ => by
      rw [stepC, if_neg c0]
      by_cases q : ((c : Nat) : Int) ∈ l
      · rw [if_pos q, if_pos q, Int.mul_sub, Int.mul_add]; omega
      · rw [if_neg q, if_neg q, Int.zero_mul]; omega), sumTo_add, sumTo_mul, sumTo_mul, ht, sumTo_in N 256 l hn hm]
    rw [Int.mul_sub, Int.mul_add]
    unfold totN; omega
theorem ordZ_nodup (N : List Int) : (ordZ N).Nodup := by
  refine List.Pairwise.imp (fun {a b} h => ?_) (ordZ_spec N).2
  intro q
  subst q
  unfold Sb.Lx at h; omega
end Go.Proofs.Ytdmemmpkkibckaa.Gx

