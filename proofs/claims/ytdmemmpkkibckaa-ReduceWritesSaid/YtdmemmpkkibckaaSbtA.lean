/- Sorting a row of one's own: the memory is known whole, so each function is an equation. No condition. -/
import Derived.Test.YtdmemmpkkibckaaInt
import Derived.Test.YtdmemmpkkibckaaGxx
namespace Go.Proofs.Ytdmemmpkkibckaa.Gx.Sb
open Go Go.RowKit
set_option linter.unusedVariables false
set_option linter.unusedSimpArgs false
def i64s (l : List Int) : List Value := l.map (Value.int .u8)
theorem nth_i64s {l : List Int} {i : Nat} (hi : i < l.length) : nth (i64s l) i = some (.int .u8 l[i]) := by
  rw [nth_eq]; simp [i64s, hi]
theorem i64s_length (l : List Int) : (i64s l).length = l.length := by simp [i64s]
/-- the memory with these numbers in block g -/
def Wr (h : GH) (g : Nat) (zs : List Int) : GH := h.put g (some (.row ⟨i64s zs, 1, false⟩))
theorem Wr.look {h : GH} {g : Nat} (hg : g < h.next) (zs : List Int) : (Wr h g zs).look g = some (.row ⟨i64s zs, 1, false⟩) := look_put_same hg
theorem Wr.other {h : GH} {g k : Nat} (hk : k ≠ g) (zs : List Int) : (Wr h g zs).look k = h.look k := look_put_ne hk
theorem Wr.put {h : GH} {g : Nat} (hg : g < h.next) {zs : List Int} {i : Nat} (hi : i < zs.length) (x : Int) {β : Type} (K : GH → Option β) : gput g (0 + i * 1) [Value.int .u8 x] (Wr h g zs) K = K (Wr h g (zs.set i x)) := by
  rw [gput_eq (Wr.look hg zs) rfl (by simp [i64s]; omega)]
  unfold Wr
  rw [put_put]
  congr 5
  rw [nlay_eq]
  apply List.ext_getElem?
  intro j
  simp only [i64s, Nat.zero_add, Nat.mul_one, List.length_singleton, List.map_set]
  rw [List.getElem?_set]
  by_cases h1 : j < i
  · rw [List.append_assoc, List.getElem?_append_left (by simp; omega), List.getElem?_take, if_pos h1, if_neg (by omega)]
  · by_cases h2 : j = i
    · subst h2
      rw [if_pos rfl, if_pos (by simpa using hi), List.append_assoc, List.getElem?_append_right (by simp; omega)]
      simp only [List.length_take, List.length_map]
      rw [Nat.min_eq_left (by omega), Nat.sub_self]; rfl
    · rw [if_neg (Ne.symm h2), List.getElem?_append_right (by simp; omega), List.getElem?_drop]
      congr 1
      simp only [List.length_append, List.length_take, List.length_map, List.length_singleton]
      omega
theorem Wr.get {h : GH} {g : Nat} (hg : g < h.next) {zs : List Int} {i : Nat} (hi : i < zs.length) : (Wr h g zs).cell ⟨g, 0 + i * 1, none⟩ = some (.int .u8 (zs.getD i 0)) := by
  rw [cell_of (Wr.look hg zs), Nat.zero_add, Nat.mul_one, nth_i64s hi, List.getD_eq_getElem?_getD, List.getElem?_eq_getElem hi]; rfl
/-- two places exchanged -/
def swp (zs : List Int) (i j : Nat) : List Int := (zs.set i (zs.getD j 0)).set j (zs.getD i 0)
theorem swp_length (zs : List Int) (i j : Nat) : (swp zs i j).length = zs.length := by simp [swp]
/-- n places from a on exchanged with those from b on, from the i-th -/
def swpR (zs : List Int) (a b : Nat) : Nat → Nat → List Int
  | 0, i => zs
  | n + 1, i => swpR (swp zs (a + i) (b + i)) a b n (i + 1)
theorem swpR_length (a b : Nat) : ∀ (n i : Nat) (zs : List Int), (swpR zs a b n i).length = zs.length
  | 0, i, zs => rfl
  | n + 1, i, zs => by rw [swpR, swpR_length a b n, swp_length]
theorem swap_loop {h : GH} {g : Nat} (hg : g < h.next) {a b : Nat} (R : Nat) : ∀ (m n i : Nat) (zs : List Int), a + i + m ≤ zs.length → b + i + m ≤ zs.length → zs.length ≤ 1000000 → m < n → ∀ {β : Type} (K0 : GH → Option β),
    F_slices_swapRangeCmpFunc_byte_s1_l0 R n ⟨some ⟨g, 0, none⟩, zs.length, zs.length⟩ (a : Nat) (b : Nat) ((i + m : Nat) : Int) (i : Nat) (Wr h g zs) K0 = K0 (Wr h g (swpR zs a b m i))
  | m, 0, i, zs, h1, h2, h3, h4, β, K0 => by omega
  | 0, n + 1, i, zs, h1, h2, h3, h4, β, K0 => by
    rw [F_slices_swapRangeCmpFunc_byte_s1_l0_succ, decF (by omega), condF]; rfl
  | m + 1, n + 1, i, zs, h1, h2, h3, h4, β, K0 => by
    have eb : IntKind.wrap .i64 (((b : Nat) : Int) + ((i : Nat) : Int)) = ((b + i : Nat) : Int) := by rw [i64w (by omega)]; omega
    have ea : IntKind.wrap .i64 (((a : Nat) : Int) + ((i : Nat) : Int)) = ((a + i : Nat) : Int) := by rw [i64w (by omega)]; omega
    rw [F_slices_swapRangeCmpFunc_byte_s1_l0_succ, decT (by omega), condT]
    simp only [exA_s, ea, eb, Int.toNat_natCast]
    have wb : ∀ {β : Type} (K : Option β), within (((b + i : Nat)) : Int) zs.length K = K := fun K => within_t (by omega) (by omega) K
    have wa : ∀ {β : Type} (K : Option β), within (((a + i : Nat)) : Int) zs.length K = K := fun K => within_t (by omega) (by omega) K
    rw [wb, Wr.get hg (i := b + i) (by omega), exI_s, wa, Wr.get hg (i := a + i) (by omega), exI_s, wa, Wr.put hg (i := a + i) (by omega), wb, Wr.put hg (i := b + i) (by simp; omega)]
    rw [i64w (x := ((i : Nat) : Int) + 1) (by omega), show ((i : Nat) : Int) + 1 = ((i + 1 : Nat) : Int) from rfl]
    have := swap_loop (a := a) (b := b) hg R m n (i + 1) (swp zs (a + i) (b + i)) (by rw [swp_length]; omega) (by rw [swp_length]; omega) (by rw [swp_length]; omega) (by omega) K0
    rw [swp_length, show i + 1 + m = i + (m + 1) by omega] at this
    exact this
theorem swap_range {h : GH} {g : Nat} (hg : g < h.next) {R : Nat} (hR : 4000000 < R) {a b n : Nat} {zs : List Int} (h1 : a + n ≤ zs.length) (h2 : b + n ≤ zs.length) (hm : zs.length ≤ 1000000) (p : Option Addr) {β : Type} (K : GH → Option β) :
    F_slices_swapRangeCmpFunc_byte_s1 R ⟨some ⟨g, 0, none⟩, zs.length, zs.length⟩ (a : Nat) (b : Nat) (n : Nat) p (Wr h g zs) K = K (Wr h g (swpR zs a b n 0)) := by
  unfold F_slices_swapRangeCmpFunc_byte_s1; rw [F_slices_swapRangeCmpFunc_byte_s1_gen]
  have := swap_loop (a := a) (b := b) hg R n R 0 zs (by omega) (by omega) hm (by omega) (fun h23 => K h23)
  rw [Nat.zero_add, show ((0 : Nat) : Int) = 0 from rfl] at this
  exact this
theorem getD_set (zs : List Int) (i k : Nat) (x : Int) : (zs.set i x).getD k 0 = if k = i ∧ k < zs.length then x else zs.getD k 0 := by
  rw [List.getD_eq_getElem?_getD, List.getElem?_set, List.getD_eq_getElem?_getD]
  by_cases h : i = k
  · subst h
    by_cases h2 : i < zs.length
    · simp [h2]
    · simp [h2]
  · rw [if_neg h, if_neg (fun q => h q.1.symm)]
theorem swp_get (zs : List Int) {i j : Nat} (hi : i < zs.length) (hj : j < zs.length) (k : Nat) : (swp zs i j).getD k 0 = if k = j then zs.getD i 0 else if k = i then zs.getD j 0 else zs.getD k 0 := by
  unfold swp
  rw [getD_set, getD_set, List.length_set]
  by_cases h1 : k = j
  · subst h1; simp [hj]
  · by_cases h2 : k = i
    · subst h2; simp [h1, hi]
    · simp [h1, h2]
theorem swpR_get (a b : Nat) : ∀ (n i : Nat) (zs : List Int), a + n ≤ b → b + i + n ≤ zs.length → ∀ k, (swpR zs a b n i).getD k 0 = if a + i ≤ k ∧ k < a + i + n then zs.getD (k - a + b) 0 else if b + i ≤ k ∧ k < b + i + n then zs.getD (k - b + a) 0 else zs.getD k 0
  | 0, i, zs, h1, h2, k => by rw [if_neg (by omega), if_neg (by omega)]; rfl
  | n + 1, i, zs, h1, h2, k => by
    rw [swpR, swpR_get a b n (i + 1) _ (by omega) (by rw [swp_length]; omega) k]
    have hs := fun k => swp_get zs (i := a + i) (j := b + i) (by omega) (by omega) k
    simp only [hs]
    by_cases c1 : a + i ≤ k ∧ k < a + i + (n + 1)
    · rw [if_pos c1]
      by_cases c2 : k = a + i
      · rw [if_neg (by omega), if_neg (by omega), if_neg (by omega), if_pos c2]; congr 1; omega
      · rw [if_pos (by omega), if_neg (by omega), if_neg (by omega)]
    · rw [if_neg c1, if_neg (by omega)]
      by_cases c3 : b + i ≤ k ∧ k < b + i + (n + 1)
      · rw [if_pos c3]
        by_cases c4 : k = b + i
        · rw [if_neg (by omega), if_pos c4]; congr 1; omega
        · rw [if_pos (by omega), if_neg (by omega), if_neg (by omega)]
      · rw [if_neg c3, if_neg (by omega), if_neg (by omega), if_neg (by omega)]
/-- two pieces of one length exchanged -/
theorem swpR_pieces (P X Y Z S : List Int) (h : X.length = Z.length) : swpR (P ++ X ++ Y ++ Z ++ S) P.length (P.length + X.length + Y.length) X.length 0 = P ++ Z ++ Y ++ X ++ S := by
  apply List.ext_getElem?
  intro k
  have hl : (swpR (P ++ X ++ Y ++ Z ++ S) P.length (P.length + X.length + Y.length) X.length 0).length = (P ++ X ++ Y ++ Z ++ S).length := swpR_length _ _ _ _ _
  by_cases hk : k < (P ++ X ++ Y ++ Z ++ S).length
  · have e := swpR_get P.length (P.length + X.length + Y.length) X.length 0 (P ++ X ++ Y ++ Z ++ S) (by omega) (by simp; omega) k
    have hk2 : k < (P ++ Z ++ Y ++ X ++ S).length := by simp at hk ⊢; omega
    rw [List.getElem?_eq_getElem (by rw [hl]; exact hk), List.getElem?_eq_getElem hk2]
    rw [List.getD_eq_getElem?_getD, List.getElem?_eq_getElem (by rw [hl]; exact hk)] at e
    simp only [Option.getD_some] at e
    rw [e]
    have f : (P ++ Z ++ Y ++ X ++ S)[k] = (P ++ Z ++ Y ++ X ++ S).getD k 0 := by rw [List.getD_eq_getElem?_getD, List.getElem?_eq_getElem hk2]; rfl
    rw [f]
    congr 1
    simp only [List.getD_eq_getElem?_getD, List.getElem?_append, List.length_append]
    simp at hk
    repeat' split
    all_goals first | omega | (congr 2; omega)
  · rw [List.getElem?_eq_none (by rw [hl]; omega), List.getElem?_eq_none (by simp at hk ⊢; omega)]
end Go.Proofs.Ytdmemmpkkibckaa.Gx.Sb

