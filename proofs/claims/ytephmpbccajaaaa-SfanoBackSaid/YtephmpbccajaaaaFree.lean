/- No word is the beginning of another one. No condition. -/
import Derived.Test.YtephmpbccajaaaaCodC
namespace Go.Proofs.Ytephmpbccajaaaa.Gx
open Go Go.RowKit
set_option linter.unusedVariables false
set_option linter.unusedSimpArgs false
/-! ### the plain law -/
theorem exists_sorted (zs : List Int) : ∃ Z, Z.Perm (idxs zs.length) ∧ Srt zs Z := by
  obtain ⟨a1, a2⟩ := ins_sort (keys := zs) (idxs zs.length) [] (srt_nil zs) (idxs_asc _) (by simp)
  exact ⟨_, by simpa using a2, a1⟩
theorem ahead_dvd' {zs : List Int} (hx : ∀ x ∈ zs, lenP x) (hw : wgt zs = 65536) {i : Nat} (hi : i < zs.length) : twN (zs.getD i 0) ∣ aheadN zs i ∧ aheadN zs i + twN (zs.getD i 0) ≤ 65536 := by
  obtain ⟨Z, p, s⟩ := exists_sorted zs
  obtain ⟨A, B, h⟩ := List.append_of_mem (p.mem_iff.2 (idxs_mem.2 (show 0 ≤ ((i : Nat) : Int) ∧ ((i : Nat) : Int) < zs.length by omega)))
  have := ahead_dvd p s hx hw h
  simpa [kyK] using this
theorem aheadB_trans {zs : List Int} {i k m : Nat} (h1 : aheadB zs i k) (h2 : aheadB zs k m) : aheadB zs i m := by unfold aheadB at *; omega
theorem aheadTo_mono {zs : List Int} {i k : Nat} (h : aheadB zs i k) : ∀ n, aheadTo zs k n + (if k < n then twN (zs.getD k 0) else 0) ≤ aheadTo zs i n
  | 0 => by simp [aheadTo]
  | n + 1 => by
    have ih := aheadTo_mono h n
    unfold aheadTo
    by_cases c : n = k
    · subst c
      rw [if_neg (c := aheadB zs n n) (by unfold aheadB; omega), if_pos h, if_pos (by omega)]
      rw [if_neg (by omega)] at ih; omega
    · have e : (if k < n + 1 then twN (zs.getD k 0) else 0) = (if k < n then twN (zs.getD k 0) else 0) := by
        by_cases c2 : k < n
        · rw [if_pos c2, if_pos (by omega)]
        · rw [if_neg c2, if_neg (by omega)]
      rw [e]
      by_cases c3 : aheadB zs k n
      · rw [if_pos c3, if_pos (aheadB_trans h c3)]; omega
      · rw [if_neg c3]; omega
theorem ahead_step {zs : List Int} {i k : Nat} (h : aheadB zs i k) (hk : k < zs.length) : aheadN zs k + twN (zs.getD k 0) ≤ aheadN zs i := by
  have := aheadTo_mono h zs.length
  rw [if_pos hk] at this; exact this
/-- the word of a symbol as a number, the first bit highest -/
def wdN (zs : List Int) (i : Nat) : Nat := aheadN zs i / twN (zs.getD i 0)
theorem twN_split {x y : Int} (hx : lenP x) (hy : lenP y) (h : x ≤ y) : twN x = twN y * 2 ^ (y.toNat - x.toNat) := by
  unfold lenP at hx hy
  unfold twN
  rw [← Nat.pow_add]; congr 1; omega
theorem twN_len {x : Int} (hx : lenP x) : twN x * 2 ^ x.toNat = 65536 := by
  unfold lenP at hx
  unfold twN
  rw [← Nat.pow_add, show (16 - x).toNat + x.toNat = 16 by omega]
section
variable {zs : List Int} (hx : ∀ x ∈ zs, lenP x) (hw : wgt zs = 65536)
include hx hw
theorem wd_eq {i : Nat} (hi : i < zs.length) : aheadN zs i = twN (zs.getD i 0) * wdN zs i ∧ wdN zs i < 2 ^ (zs.getD i 0).toNat := by
  have hl := hx _ (mem_getD hi)
  have ht := twN_le _ hl
  obtain ⟨⟨q, hq⟩, hle⟩ := ahead_dvd' hx hw hi
  have e : wdN zs i = q := by unfold wdN; rw [hq]; exact Nat.mul_div_cancel_left _ (by omega)
  rw [e]
  refine ⟨hq, ?_⟩
  have h1 := twN_len hl
  rw [hq] at hle
  have h2 : twN (zs.getD i 0) * (q + 1) ≤ twN (zs.getD i 0) * 2 ^ (zs.getD i 0).toNat := by rw [h1, Nat.mul_add, Nat.mul_one]; exact hle
  have := Nat.le_of_mul_le_mul_left h2 (by omega)
  omega
theorem wd_ahead {i k : Nat} (hi : i < zs.length) (hk : k < zs.length) (h : aheadB zs i k) : wdN zs k / 2 ^ ((zs.getD k 0).toNat - (zs.getD i 0).toNat) < wdN zs i := by
  have hli := hx _ (mem_getD hi)
  have hlk := hx _ (mem_getD hk)
  have ht := twN_le _ hli
  have htk := twN_le _ hlk
  have h1 := (wd_eq hx hw hi).1
  have h2 := (wd_eq hx hw hk).1
  have h3 := ahead_step h hk
  have hle : zs.getD i 0 ≤ zs.getD k 0 := by unfold aheadB at h; omega
  have h4 := twN_split hli hlk hle
  rw [Nat.div_lt_iff_lt_mul (Nat.pow_pos (by omega))]
  have h5 : twN (zs.getD k 0) * (wdN zs k + 1) ≤ twN (zs.getD k 0) * (wdN zs i * 2 ^ ((zs.getD k 0).toNat - (zs.getD i 0).toNat)) := by
    rw [Nat.mul_add, Nat.mul_one, ← h2, Nat.mul_comm (wdN zs i), ← Nat.mul_assoc, ← h4, ← h1]; exact h3
  have := Nat.le_of_mul_le_mul_left h5 (by omega)
  omega
theorem wd_prefix {i k : Nat} (hi : i < zs.length) (hk : k < zs.length) (hik : i ≠ k) (hle : zs.getD i 0 ≤ zs.getD k 0) : wdN zs k / 2 ^ ((zs.getD k 0).toNat - (zs.getD i 0).toNat) ≠ wdN zs i := by
  by_cases h : aheadB zs i k
  · have := wd_ahead hx hw hi hk h; omega
  · have h1 : aheadB zs k i := by unfold aheadB at h ⊢; omega
    have h2 := wd_ahead hx hw hk hi h1
    have e : zs.getD i 0 = zs.getD k 0 := by unfold aheadB at h1; omega
    rw [e, Nat.sub_self, Nat.pow_zero, Nat.div_one] at h2 ⊢
    omega
theorem bits_prefix {i k : Nat} (hi : i < zs.length) (hk : k < zs.length) (hik : i ≠ k) (hle : zs.getD i 0 ≤ zs.getD k 0) : revN (zs.getD k 0).toNat (wdN zs k) 0 % 2 ^ (zs.getD i 0).toNat ≠ revN (zs.getD i 0).toNat (wdN zs i) 0 := by
  have hli := hx _ (mem_getD hi)
  have hlk := hx _ (mem_getD hk)
  unfold lenP at hli hlk
  rw [revN_mod (by omega)]
  intro q
  refine wd_prefix hx hw hi hk hik hle (revN_inj ?_ (wd_eq hx hw hi).2 q)
  have h1 := (wd_eq hx hw hk).2
  rw [Nat.div_lt_iff_lt_mul (Nat.pow_pos (by omega)), ← Nat.pow_add, show (zs.getD i 0).toNat + ((zs.getD k 0).toNat - (zs.getD i 0).toNat) = (zs.getD k 0).toNat by omega]
  exact h1
end
/-! ### the walk -/
theorem codesV_nth : ∀ (cs : List (Int × Int)) (i : Nat), i < cs.length → nth (codesV cs) (i * 2) = some (.int .u32 (cs.getD i (0, 0)).1) ∧ nth (codesV cs) (i * 2 + 1) = some (.int .i64 (cs.getD i (0, 0)).2)
  | [], i, h => by simp at h
  | c :: cs, 0, h => ⟨rfl, rfl⟩
  | c :: cs, i + 1, h => by
    obtain ⟨a1, a2⟩ := codesV_nth cs i (by simp at h; omega)
    rw [show (i + 1) * 2 = i * 2 + 1 + 1 by omega]
    exact ⟨a1, a2⟩
/-- a row of words that is read -/
theorem Row.code {h : GH} {s : Sl} {cs : List (Int × Int)} (r : Row h s 2 (codesV cs)) (hp : 0 < cs.length) : s.n = cs.length ∧ ∃ g o, s.a = some ⟨g, o, none⟩ ∧ ∀ i, i < cs.length → h.cell ⟨g, o + i * 2, none⟩ = some (.int .u32 (cs.getD i (0, 0)).1) ∧ h.cell ⟨g, o + i * 2 + 1, none⟩ = some (.int .i64 (cs.getD i (0, 0)).2) := by
  have hn := r.len
  rw [codesV_length] at hn
  have hn : s.n = cs.length := by omega
  obtain ⟨g, o, ha, hc⟩ := r.cell (by omega) (by omega)
  refine ⟨hn, g, o, ha, fun i hi => ?_⟩
  have h1 := hc (i * 2) (by rw [codesV_length]; omega)
  have h2 := hc (i * 2 + 1) (by rw [codesV_length]; omega)
  rw [← nth_eq, (codesV_nth cs i hi).1] at h1
  rw [← nth_eq, (codesV_nth cs i hi).2] at h2
  exact ⟨h1, by rw [Nat.add_assoc]; exact h2⟩
theorem wordsP_get {zs : List Int} (c : checkE zs = 0) {i : Nat} (hi : i < zs.length) : (wordsP zs).getD i (0, 0) = (((revN (zs.getD i 0).toNat (wdN zs i) 0 : Nat) : Int), zs.getD i 0) := by
  rw [wordsP, if_pos c, List.getD_eq_getElem?_getD, List.getElem?_map, List.getElem?_range hi]; rfl
theorem wordsP_length {zs : List Int} (c : checkE zs = 0) : (wordsP zs).length = zs.length := by rw [wordsP, if_pos c]; simp
theorem checkE_0 {zs : List Int} (c : checkE zs = 0) : (∀ x ∈ zs, lenP x) ∧ wgt zs = 65536 ∧ 1 ≤ zs.length ∧ zs.length ≤ 256 := by
  have hr : rightP zs = true := by
    cases hr : rightP zs with
    | true => rfl
    | false => simp [checkE, hr] at c
  rw [checkE, if_pos hr] at c
  refine ⟨rightP_all hr, ?_, (of_decide_eq_true hr).1, (of_decide_eq_true hr).2.1⟩
  by_cases q : wgt zs = 65536
  · exact q
  · rw [if_neg q] at c; omega
theorem free_l1 {a s : Sl} {zs : List Int} (c : checkE zs = 0) {R : Nat} (hR : 4000000 < R) {i : Nat} (hi : i < zs.length) : ∀ (n k : Nat) {h : GH}, Rdi h a zs → Row h s 2 (codesV (wordsP zs)) → k ≤ zs.length → zs.length < n + k →
    ∃ h', Keep h h' [] ∧ ∀ (β : Type) (F1 : Sl → Int → GH → (Sl → GH → Option β) → Option β) (F2 : Sl → GH → (Sl → Int → GH → Option β) → Option β) (F3 : GH → (Bool → GH → Option β) → Option β) (K2 : Sl → Sl → Int → GH → Option β) (Kr : Bool → GH → Option β),
      F_law06_SfanoFree_l1 F1 F2 F3 (F_ref01_Turn R) R n a s (i : Nat) (k : Nat) h K2 Kr = K2 a s (i : Nat) h' := by
  intro n
  induction n with
  | zero => intro k h r rs h1 h2; omega
  | succ n ih =>
    intro k h r rs h1 h2
    obtain ⟨hx, hw, hl1, hl2⟩ := checkE_0 c
    have hwl := wordsP_length c
    obtain ⟨sn, gs, os, hsa, hcc⟩ := rs.code (by omega)
    by_cases hk : k < zs.length
    · obtain ⟨hA, ehA⟩ : ∃ hA, hA = (h.push (.row ⟨[Value.int .u32 ((revN (zs.getD i 0).toNat (wdN zs i) 0 : Nat) : Int), Value.int .i64 (zs.getD i 0)], 0, false⟩)).push (.row ⟨[Value.int .u32 ((revN (zs.getD k 0).toNat (wdN zs k) 0 : Nat) : Int), Value.int .i64 (zs.getD k 0)], 0, false⟩) := ⟨_, rfl⟩
      have kA : Keep h hA [] := by rw [ehA]; exact (keep_push _ _ []).trans (keep_push _ _ []) (by simp)
      obtain ⟨h', k', e'⟩ := ih (k + 1) (r.keep kA (by simp)) (rs.keep kA (by simp)) (by omega) (by omega)
      refine ⟨h', kA.trans k' (by simp), fun β F1 F2 F3 K2 Kr => ?_⟩
      have e' := e' β F1 F2 F3 K2 Kr
      have hli := hx _ (mem_getD hi)
      have hlk := hx _ (mem_getD hk)
      have wi := (wd_eq hx hw hi).2
      have wk := (wd_eq hx hw hk).2
      have p16 : ∀ {x : Int}, lenP x → 2 ^ x.toNat ≤ 65536 := fun {x} hx => by unfold lenP at hx; exact Nat.le_trans (Nat.pow_le_pow_right (by omega) (show x.toNat ≤ 16 by omega)) (by decide)
      have pi := p16 hli
      have pk := p16 hlk
      have bi := revN_lt (zs.getD i 0).toNat (wdN zs i)
      have bk := revN_lt (zs.getD k 0).toNat (wdN zs k)
      have c1 := hcc i (by omega)
      have c2 := hcc k (by omega)
      rw [wordsP_get c hi] at c1
      rw [wordsP_get c hk] at c2
      simp only at c1 c2
      -- the memory with both words
      have ln : gs < h.next := rs.lt gs (by simp [rowsOf, hsa])
      have low : ∀ (o1 o2 : GObj) (o : Nat), ((h.push o1).push o2).cell ⟨gs, o, none⟩ = h.cell ⟨gs, o, none⟩ := fun o1 o2 o => by rw [cell_look, cell_look, look_push_old (by rw [next_push]; omega), look_push_old ln]
      have cA1 : hA.cell ⟨h.next, 0, none⟩ = some (.int .u32 ((revN (zs.getD i 0).toNat (wdN zs i) 0 : Nat) : Int)) := by rw [ehA, cell_look, look_push_old (by rw [next_push]; omega), look_push_new]; rfl
      have cA2 : hA.cell ⟨h.next, 1, none⟩ = some (.int .i64 (zs.getD i 0)) := by rw [ehA, cell_look, look_push_old (by rw [next_push]; omega), look_push_new]; rfl
      have cA3 : hA.cell ⟨h.next + 1, 0, none⟩ = some (.int .u32 ((revN (zs.getD k 0).toNat (wdN zs k) 0 : Nat) : Int)) := by rw [ehA, cell_look, show h.next + 1 = (h.push (.row ⟨[Value.int .u32 ((revN (zs.getD i 0).toNat (wdN zs i) 0 : Nat) : Int), Value.int .i64 (zs.getD i 0)], 0, false⟩)).next from rfl, look_push_new]; rfl
      have cA4 : hA.cell ⟨h.next + 1, 1, none⟩ = some (.int .i64 (zs.getD k 0)) := by rw [ehA, cell_look, show h.next + 1 = (h.push (.row ⟨[Value.int .u32 ((revN (zs.getD i 0).toNat (wdN zs i) 0 : Nat) : Int), Value.int .i64 (zs.getD i 0)], 0, false⟩)).next from rfl, look_push_new]; rfl
      have pp1 : ((h.push (.row ⟨[Value.int .u32 0, Value.int .i64 0], 0, false⟩)).push (.row ⟨[Value.int .u32 0, Value.int .i64 0], 0, false⟩)).put h.next (some (.row ⟨[Value.int .u32 ((revN (zs.getD i 0).toNat (wdN zs i) 0 : Nat) : Int), Value.int .i64 (zs.getD i 0)], 0, false⟩)) = (h.push (.row ⟨[Value.int .u32 ((revN (zs.getD i 0).toNat (wdN zs i) 0 : Nat) : Int), Value.int .i64 (zs.getD i 0)], 0, false⟩)).push (.row ⟨[Value.int .u32 0, Value.int .i64 0], 0, false⟩) := by
        rw [put_push_ne (by rw [next_push]; omega), put_push_same rfl]
      have pp2 : ((h.push (.row ⟨[Value.int .u32 ((revN (zs.getD i 0).toNat (wdN zs i) 0 : Nat) : Int), Value.int .i64 (zs.getD i 0)], 0, false⟩)).push (.row ⟨[Value.int .u32 0, Value.int .i64 0], 0, false⟩)).put (h.next + 1) (some (.row ⟨[Value.int .u32 ((revN (zs.getD k 0).toNat (wdN zs k) 0 : Nat) : Int), Value.int .i64 (zs.getD k 0)], 0, false⟩)) = hA := by
        rw [put_push_same (by simp only [next_push]), ehA]
      rw [F_law06_SfanoFree_l1_succ, sn, hwl, decT (by omega), condT, hsa]
      simp only [exA_s, within_n hi, within_n hk, Int.toNat_natCast, c1.1, c1.2, c2.1, c2.2, exI_s]
      rw [gnew_eq rfl, gnew_eq rfl]
      have g1 := gput_eq (β := β) (h := (h.push (.row ⟨[Value.int .u32 0, Value.int .i64 0], 0, false⟩)).push (.row ⟨[Value.int .u32 0, Value.int .i64 0], 0, false⟩)) (g := h.next) (o := 0) (cs := [Value.int .u32 0, Value.int .i64 0]) (vs := [Value.int .u32 ((revN (zs.getD i 0).toNat (wdN zs i) 0 : Nat) : Int), Value.int .i64 (zs.getD i 0)]) (e := 0) (by rw [look_push_old (by rw [next_push]; omega), look_push_new]) rfl (by simp)
      rw [show nlay [Value.int .u32 0, Value.int .i64 0] 0 [Value.int .u32 ((revN (zs.getD i 0).toNat (wdN zs i) 0 : Nat) : Int), Value.int .i64 (zs.getD i 0)] = [Value.int .u32 ((revN (zs.getD i 0).toNat (wdN zs i) 0 : Nat) : Int), Value.int .i64 (zs.getD i 0)] from rfl, pp1] at g1
      have g2 := gput_eq (β := β) (h := (h.push (.row ⟨[Value.int .u32 ((revN (zs.getD i 0).toNat (wdN zs i) 0 : Nat) : Int), Value.int .i64 (zs.getD i 0)], 0, false⟩)).push (.row ⟨[Value.int .u32 0, Value.int .i64 0], 0, false⟩)) (g := h.next + 1) (o := 0) (cs := [Value.int .u32 0, Value.int .i64 0]) (vs := [Value.int .u32 ((revN (zs.getD k 0).toNat (wdN zs k) 0 : Nat) : Int), Value.int .i64 (zs.getD k 0)]) (e := 0) look_push_new rfl (by simp)
      rw [show nlay [Value.int .u32 0, Value.int .i64 0] 0 [Value.int .u32 ((revN (zs.getD k 0).toNat (wdN zs k) 0 : Nat) : Int), Value.int .i64 (zs.getD k 0)] = [Value.int .u32 ((revN (zs.getD k 0).toNat (wdN zs k) 0 : Nat) : Int), Value.int .i64 (zs.getD k 0)] from rfl, pp2] at g2
      rw [g1, next_push, g2]
      have sm : sameAt gs (os + k * 2) 2 ((h.push (.row ⟨[Value.int .u32 0, Value.int .i64 0], 0, false⟩)).push (.row ⟨[Value.int .u32 0, Value.int .i64 0], 0, false⟩)) ((h.push (.row ⟨[Value.int .u32 ((revN (zs.getD i 0).toNat (wdN zs i) 0 : Nat) : Int), Value.int .i64 (zs.getD i 0)], 0, false⟩)).push (.row ⟨[Value.int .u32 0, Value.int .i64 0], 0, false⟩)) = true := by
        rw [sameAt, sameAt_1, low, low, low, low, c2.1, c2.2, veqO_i, veqO_i]; rfl
      rw [sm, condT, beq_int, i64w (x := ((k : Nat) : Int) + 1) (by omega), show ((k : Nat) : Int) + 1 = ((k + 1 : Nat) : Int) from rfl]
      by_cases hik : i = k
      · rw [decT (by omega), condT]; exact e'
      · rw [decF (by omega), condF]
        simp only [Nat.zero_add, Nat.add_zero, cA1, cA2, cA3, cA4, exI_s]
        by_cases hgt : zs.getD i 0 > zs.getD k 0
        · rw [decT hgt, condT]; exact e'
        · rw [decF hgt, condF]
          have hgi := (r.keep kA (by simp)).intN (β := β) hi
          simp only [hgi, bne_self_eq_false, condF]
          have hli' := hli
          have hlk' := hlk
          unfold lenP at hli' hlk'
          have eli : zs.getD i 0 = (((zs.getD i 0).toNat : Nat) : Int) := by omega
          have elk : zs.getD k 0 = (((zs.getD k 0).toNat : Nat) : Int) := by omega
          have wu : IntKind.wrap .u64 (zs.getD i 0) = zs.getD i 0 := IntWalk.u64_in _ (by omega)
          rw [wu, decF (by omega), condF]
          have hmask : IntKind.wrap .u32 (shlI .u32 1 (zs.getD i 0) - 1) = ((2 ^ (zs.getD i 0).toNat - 1 : Nat) : Int) := by
            have h0 : 0 < 2 ^ (zs.getD i 0).toNat := Nat.pow_pos (by omega)
            have := shl32 1 (zs.getD i 0).toNat (by omega)
            rw [← eli, Nat.one_shiftLeft, Nat.mod_eq_of_lt (by omega)] at this
            rw [show (1 : Int) = ((1 : Nat) : Int) from rfl, this, show ((2 ^ (zs.getD i 0).toNat : Nat) : Int) - ((1 : Nat) : Int) = ((2 ^ (zs.getD i 0).toNat - 1 : Nat) : Int) by omega, u32w (by omega)]
          rw [hmask, and32 (by omega) (by omega), Nat.and_two_pow_sub_one_eq_mod, beq_int, decF (by
            intro q
            exact bits_prefix hx hw hi hk hik (by omega) (by exact Int.ofNat.inj q)), condF]
          have t1 := turn_ref (β := β) hR (x := revN (zs.getD i 0).toNat (wdN zs i) 0) (n := (zs.getD i 0).toNat) (by omega) (by omega)
          rw [revN_revN wi, ← eli] at t1
          have t2 := turn_ref (β := β) hR (x := revN (zs.getD k 0).toNat (wdN zs k) 0) (n := (zs.getD k 0).toNat) (by omega) (by omega)
          rw [revN_revN wk, ← elk] at t2
          simp only [t1, t2, cA3, cA4, cA2, exI_s, sameAt_1, veqO_i, condT]
          by_cases hlt : zs.getD i 0 < zs.getD k 0
          · rw [decT hlt, condT]
            have es : IntKind.wrap .u64 (IntKind.wrap .i64 (zs.getD k 0 - zs.getD i 0)) = (((zs.getD k 0).toNat - (zs.getD i 0).toNat : Nat) : Int) := by
              rw [i64w (by omega), IntWalk.u64_in _ (by omega)]; omega
            rw [es, decF (by omega), condF, shr_nat .u32 _ _ (by show _ ≤ 32; omega), Nat.shiftRight_eq_div_pow]
            have := wd_ahead hx hw hi hk (.inl (by omega))
            rw [decF (by
              intro q
              have q := Int.ofNat_le.1 q
              omega), condF, beq_int, decF (by omega), condF]
            exact e'
          · have heq : zs.getD i 0 = zs.getD k 0 := by omega
            rw [decF hlt, condF, beq_int, decT heq, condT]
            have hc : (decide (((wdN zs i : Nat) : Int) > ((wdN zs k : Nat) : Int)) == decide (((i : Nat) : Int) < ((k : Nat) : Int))) = true := by
              by_cases hlt2 : i < k
              · have := wd_ahead hx hw hi hk (.inr ⟨heq.symm, hlt2⟩)
                rw [heq, Nat.sub_self, Nat.pow_zero, Nat.div_one] at this
                rw [decT (by omega), decT (by omega)]; rfl
              · have := wd_ahead hx hw hk hi (.inr ⟨heq, by omega⟩)
                rw [heq, Nat.sub_self, Nat.pow_zero, Nat.div_one] at this
                rw [decF (by omega), decF (by omega)]; rfl
            rw [hc, notT, condF]
            exact e'
    · refine ⟨h, .refl _ _, fun β F1 F2 F3 K2 Kr => ?_⟩
      rw [F_law06_SfanoFree_l1_succ, sn, hwl, decF (by omega), condF]
theorem free_l0 {a s : Sl} {zs : List Int} (c : checkE zs = 0) {R : Nat} (hR : 4000000 < R) : ∀ (n i : Nat) {h : GH}, Rdi h a zs → Row h s 2 (codesV (wordsP zs)) → i ≤ zs.length → zs.length < n + i →
    ∃ h', ∀ (β : Type) (F1 : Sl → Int → GH → (Sl → GH → Option β) → Option β) (F2 : Sl → GH → (Sl → Int → GH → Option β) → Option β) (F3 : GH → (Bool → GH → Option β) → Option β) (K0 : GH → Option β) (Kr : Bool → GH → Option β),
      F_law06_SfanoFree_l0 F1 F2 F3 (F_ref01_Turn R) R n a s (i : Nat) h K0 Kr = K0 h' := by
  intro n
  induction n with
  | zero => intro i h r rs h1 h2; omega
  | succ n ih =>
    intro i h r rs h1 h2
    obtain ⟨hx, hw, hl1, hl2⟩ := checkE_0 c
    have sn := (rs.code (by rw [wordsP_length c]; omega)).1
    rw [wordsP_length c] at sn
    by_cases hi : i < zs.length
    · obtain ⟨h3, k3, e3⟩ := free_l1 (a := a) (s := s) c hR hi R 0 r rs (by omega) (by omega)
      obtain ⟨h4, e4⟩ := ih (i + 1) (r.keep k3 (by simp)) (rs.keep k3 (by simp)) (by omega) (by omega)
      refine ⟨h4, fun β F1 F2 F3 K0 Kr => ?_⟩
      rw [F_law06_SfanoFree_l0_succ, sn, decT (by omega), condT]
      have e5 := e3 β F1 F2 F3
      rw [show ((0 : Nat) : Int) = 0 from rfl] at e5
      refine Eq.trans (e5 _ _) ?_
      rw [i64w (by omega)]
      exact e4 _ _ _ _ _ _
    · refine ⟨h, fun β F1 F2 F3 K0 Kr => ?_⟩
      rw [F_law06_SfanoFree_l0_succ, sn, decF (by omega), condF]
theorem free_true {h : GH} {a : Sl} {zs : List Int} (r : Rdi h a zs) {R : Nat} (hR : 4000000 < R) : ∃ h', ∀ (β : Type) (K : Bool → GH → Option β), F_law06_SfanoFree R a h K = K true h' := by
  obtain ⟨q, rq, _, e1⟩ := ref_ints r R 80
  have hm : (zs.take 80).length ≤ 1000000 := by simp; omega
  obtain ⟨h2, q2, k2, r2, n2, e2⟩ := prog_codes rq hm hR
  rw [show ((80 : Nat) : Int) = 80 from rfl] at e1
  by_cases c : checkE (zs.take 80) = 0
  · obtain ⟨h3, e3⟩ := free_l0 (a := q) (s := q2) c hR R 0 (rq.keep k2 (by simp)) r2 (by omega) (by omega)
    refine ⟨h3, fun β K => ?_⟩
    unfold F_law06_SfanoFree; rw [F_law06_SfanoFree_gen, e1, e2, c, bne_self_eq_false, condF]
    refine Eq.trans (e3 _ _ _ _ _ _) ?_
    rw [lives06]
  · refine ⟨h2, fun β K => ?_⟩
    have hn : q2.n = 0 := by have := r2.len; rw [wordsP, if_neg c] at this; simp [codesV] at this; omega
    unfold F_law06_SfanoFree; rw [F_law06_SfanoFree_gen, e1, e2, bne_int, decT c, condT, hn]
    exact lives06 _ _
theorem free_any {W : World} {a : Option Addr} {len cap : Nat} {zs : List Int} (hr : IsRow .i64 W a len cap zs) : Calls Try.prog 3 #[.slice a len cap] W fun e W' => e = .returned (.bool true) ∧ Below W.heap.size W W' := by
  let l : List Ar := [⟨a, len, cap, 1, i64s (zs.take len)⟩]
  have ok : ∀ x ∈ l, ArOk (arInj l) W x := fun x hx => by cases List.mem_singleton.1 hx; exact ar_ints hr _
  obtain ⟨h', e⟩ := free_true (ar_row (l := l) (g := 0) rfl (ar_ints hr (arInj l))) (R := rounds) (by unfold rounds; omega)
  obtain ⟨v, h1, hk, hc⟩ := F_law06_SfanoFree_sim (β := Value × GH) (r := (.bool true, h')) (K := fun v h => some (v, h)) (e _ _)
  cases hk
  exact ar_calls ok hc (.cons (ar_vr (l := l) (g := 0) rfl (ar_ints hr (arInj l))) .nil)
end Go.Proofs.Ytephmpbccajaaaa.Gx

