/- Words put into a tree of pairs of places: what the tree holds, in plain lists. No condition. -/
import Derived.Test.YtephmpbccajaaaaFree
namespace Go.Proofs.Ytephmpbccajaaaa.Gx
open Go Go.RowKit
set_option linter.unusedVariables false
set_option linter.unusedSimpArgs false
def lnN (zs : List Int) (s : Nat) : Nat := (zs.getD s 0).toNat
/-- an entry of a node -/
def en (T : List (Int × Int)) (j b : Nat) : Int := if b = 0 then (T.getD j (0, 0)).1 else (T.getD j (0, 0)).2
def setE (T : List (Int × Int)) (j b : Nat) (e : Int) : List (Int × Int) := T.set j (if b = 0 then (e, (T.getD j (0, 0)).2) else ((T.getD j (0, 0)).1, e))
theorem setE_length (T : List (Int × Int)) (j b : Nat) (e : Int) : (setE T j b e).length = T.length := by simp [setE]
theorem getD_setP (T : List (Int × Int)) (i k : Nat) (x : Int × Int) (hk : k < T.length) : (T.set i x).getD k (0, 0) = if k = i then x else T.getD k (0, 0) := by
  rw [List.getD_eq_getElem?_getD, List.getElem?_set, List.getD_eq_getElem?_getD]
  by_cases h : i = k
  · subst h; simp [hk]
  · rw [if_neg h, if_neg (fun q => h q.symm)]
theorem en_set {T : List (Int × Int)} {j b j' b' : Nat} (e : Int) (hj : j < T.length) (hj' : j' < T.length) (hb : b < 2) (hb' : b' < 2) : en (setE T j b e) j' b' = if j' = j ∧ b' = b then e else en T j' b' := by
  unfold en setE
  rw [getD_setP _ _ _ _ hj']
  by_cases h1 : j' = j
  · subst h1
    rw [if_pos rfl]
    by_cases h2 : b = 0
    · subst h2
      by_cases h3 : b' = 0
      · subst h3; simp
      · simp [h3]
    · by_cases h3 : b' = 0
      · subst h3; simp [h2, Ne.symm h2]
      · have : b' = b := by omega
        subst this; simp [h2]
  · simp [h1]
theorem en_app {T : List (Int × Int)} {j b : Nat} (x : Int × Int) (hj : j < T.length) : en (T ++ [x]) j b = en T j b := by
  unfold en
  rw [List.getD_eq_getElem?_getD, List.getElem?_append_left hj, ← List.getD_eq_getElem?_getD]
theorem en_app_new {T : List (Int × Int)} {b : Nat} : en (T ++ [(0, 0)]) T.length b = 0 := by
  unfold en
  rw [List.getD_eq_getElem?_getD, List.getElem?_append_right (Nat.le_refl _), Nat.sub_self]
  simp
theorem getD_appl (ps : List (Nat × Nat)) (x : Nat × Nat) {j : Nat} (hj : j < ps.length) : (ps ++ [x]).getD j (0, 0) = ps.getD j (0, 0) := by
  rw [List.getD_eq_getElem?_getD, List.getElem?_append_left hj, ← List.getD_eq_getElem?_getD]
theorem getD_appr (ps : List (Nat × Nat)) (x : Nat × Nat) : (ps ++ [x]).getD ps.length (0, 0) = x := by
  rw [List.getD_eq_getElem?_getD, List.getElem?_append_right (Nat.le_refl _), Nat.sub_self]; rfl
/-- the first m symbols' words in a tree; ps tells of each place how it is reached: how many bits, which -/
structure Tree (zs : List Int) (T : List (Int × Int)) (ps : List (Nat × Nat)) (m : Nat) : Prop where
  len : ps.length = T.length
  pos : 0 < T.length
  root : ps.getD 0 (0, 0) = (0, 0)
  nod : ∀ i j, i < T.length → j < T.length → ps.getD i (0, 0) = ps.getD j (0, 0) → i = j
  ent : ∀ j b, j < T.length → b < 2 → en T j b = 0 ∨ (0 < en T j b ∧ (en T j b).toNat < T.length ∧ ps.getD (en T j b).toNat (0, 0) = ((ps.getD j (0, 0)).1 + 1, 2 * (ps.getD j (0, 0)).2 + b)) ∨ (∃ s, s < m ∧ en T j b = -1 - ((s : Nat) : Int) ∧ lnN zs s = (ps.getD j (0, 0)).1 + 1 ∧ wdN zs s = 2 * (ps.getD j (0, 0)).2 + b)
  int : ∀ j, j < T.length → ∃ s, s < zs.length ∧ (ps.getD j (0, 0)).1 < lnN zs s ∧ wdN zs s / 2 ^ (lnN zs s - (ps.getD j (0, 0)).1) = (ps.getD j (0, 0)).2
  par : ∀ j, 0 < j → j < T.length → ∃ i b, i < T.length ∧ b < 2 ∧ ps.getD j (0, 0) = ((ps.getD i (0, 0)).1 + 1, 2 * (ps.getD i (0, 0)).2 + b) ∧ en T i b = ((j : Nat) : Int)
  rou : ∀ s n, s < m → n < lnN zs s → ∃ j, j < T.length ∧ ps.getD j (0, 0) = (n, wdN zs s / 2 ^ (lnN zs s - n)) ∧ en T j (wdN zs s / 2 ^ (lnN zs s - n - 1) % 2) ≠ 0
/-- the bits of a word, one by one -/
theorem wd_next (w l n : Nat) (h : n < l) : w / 2 ^ (l - n - 1) = 2 * (w / 2 ^ (l - n)) + w / 2 ^ (l - n - 1) % 2 := by
  have h1 : w / 2 ^ (l - n) = w / 2 ^ (l - n - 1) / 2 := by rw [Nat.div_div_eq_div_mul, ← Nat.pow_succ]; congr 2; omega
  rw [h1]; omega
section
variable {zs : List Int} (hx : ∀ x ∈ zs, lenP x) (hw : wgt zs = 65536)
include hx hw
theorem tree_start (h1 : 1 ≤ zs.length) : Tree zs [(0, 0)] [(0, 0)] 0 := by
  refine ⟨rfl, by simp, rfl, fun i j hi hj _ => by simp at hi hj; omega, fun j b hj hb => ?_, fun j hj => ⟨0, by omega, ?_⟩, fun j h1 h2 => by simp at h2; omega, fun s n h => by omega⟩
  · left; simp at hj; subst hj; simp [en]
  · have := hx _ (mem_getD (show 0 < zs.length by omega))
    have h2 := (wd_eq hx hw (show 0 < zs.length by omega)).2
    simp at hj; subst hj
    unfold lenP at this
    refine ⟨by show 0 < (zs.getD 0 0).toNat; omega, ?_⟩
    show wdN zs 0 / 2 ^ (lnN zs 0 - 0) = 0
    rw [Nat.sub_zero]; exact Nat.div_eq_of_lt h2
theorem no_prefix {s t : Nat} (hs : s < zs.length) (ht : t < zs.length) (hst : s ≠ t) (h1 : lnN zs s ≤ lnN zs t) : wdN zs t / 2 ^ (lnN zs t - lnN zs s) ≠ wdN zs s := by
  have h2 := hx _ (mem_getD hs)
  have h3 := hx _ (mem_getD ht)
  unfold lenP at h2 h3
  unfold lnN at h1 ⊢
  exact wd_prefix hx hw hs ht hst (by omega)
omit hx hw in
/-- one place more -/
theorem tree_new {T : List (Int × Int)} {ps : List (Nat × Nat)} {m j b n v : Nat} (t : Tree zs T ps m) (hm : m < zs.length) (hj : j < T.length) (hb : b < 2) (hp : ps.getD j (0, 0) = (n, v)) (he : en T j b = 0) (hn : n + 1 < lnN zs m) (hv : wdN zs m / 2 ^ (lnN zs m - (n + 1)) = 2 * v + b) :
    Tree zs (setE T j b ((T.length : Nat) : Int) ++ [(0, 0)]) (ps ++ [(n + 1, 2 * v + b)]) m := by
  have hl : (setE T j b ((T.length : Nat) : Int) ++ [(0, 0)]).length = T.length + 1 := by simp [setE_length]
  have hE : ∀ j' b', j' < T.length → b' < 2 → en (setE T j b ((T.length : Nat) : Int) ++ [(0, 0)]) j' b' = if j' = j ∧ b' = b then ((T.length : Nat) : Int) else en T j' b' := fun j' b' h1 h2 => by rw [en_app _ (by rw [setE_length]; exact h1), en_set _ hj h1 hb h2]
  have hN : ∀ b', en (setE T j b ((T.length : Nat) : Int) ++ [(0, 0)]) T.length b' = 0 := fun b' => by have := en_app_new (T := setE T j b ((T.length : Nat) : Int)) (b := b'); rwa [setE_length] at this
  have hP : ∀ j', j' < T.length → (ps ++ [(n + 1, 2 * v + b)]).getD j' (0, 0) = ps.getD j' (0, 0) := fun j' h1 => getD_appl _ _ (by rw [t.len]; exact h1)
  have hPn : (ps ++ [(n + 1, 2 * v + b)]).getD T.length (0, 0) = (n + 1, 2 * v + b) := by rw [← t.len]; exact getD_appr _ _
  have fresh : ∀ j', j' < T.length → ps.getD j' (0, 0) ≠ (n + 1, 2 * v + b) := fun j' h1 q => by
    by_cases h0 : j' = 0
    · subst h0; rw [t.root] at q; have := congrArg Prod.fst q; simp at this
    · obtain ⟨i, b', i1, i2, i3, i4⟩ := t.par j' (by omega) h1
      rw [q] at i3
      have q1 := congrArg Prod.fst i3
      have q2 := congrArg Prod.snd i3
      simp only at q1 q2
      have : ps.getD i (0, 0) = ps.getD j (0, 0) := by rw [hp]; exact Prod.ext (by simp only; omega) (by simp only; omega)
      have := t.nod i j i1 hj this
      subst this
      have : b' = b := by rw [hp] at q2; simp only at q2; omega
      subst this
      rw [he] at i4; omega
  refine ⟨by rw [hl]; simp [t.len], by omega, by rw [hP 0 t.pos]; exact t.root, fun i k hi hk q => ?_, fun k b' hk hb' => ?_, fun k hk => ?_, fun k h0 hk => ?_, fun s n' hs hn' => ?_⟩
  · rw [hl] at hi hk
    by_cases c1 : i = T.length
    · by_cases c2 : k = T.length
      · omega
      · subst c1
        rw [hPn, hP k (by omega)] at q
        exact absurd q.symm (fresh k (by omega))
    · by_cases c2 : k = T.length
      · subst c2
        rw [hPn, hP i (by omega)] at q
        exact absurd q (fresh i (by omega))
      · rw [hP i (by omega), hP k (by omega)] at q
        exact t.nod i k (by omega) (by omega) q
  · rw [hl] at hk ⊢
    by_cases c1 : k = T.length
    · subst c1; exact .inl (hN b')
    · rw [hE k b' (by omega) hb', hP k (by omega)]
      by_cases c2 : k = j ∧ b' = b
      · rw [if_pos c2]
        right; left
        refine ⟨by have := t.pos; omega, by omega, ?_⟩
        rw [Int.toNat_natCast, hPn, c2.1, hp, c2.2]
      · rw [if_neg c2]
        rcases t.ent k b' (by omega) hb' with h | ⟨h1, h2, h3⟩ | h
        · exact .inl h
        · exact .inr (.inl ⟨h1, by omega, by rw [hP _ h2]; exact h3⟩)
        · exact .inr (.inr h)
  · rw [hl] at hk
    by_cases c1 : k = T.length
    · subst c1; rw [hPn]; exact ⟨m, hm, hn, hv⟩
    · rw [hP k (by omega)]; exact t.int k (by omega)
  · rw [hl] at hk ⊢
    by_cases c1 : k = T.length
    · subst c1
      refine ⟨j, b, by omega, hb, ?_, ?_⟩
      · rw [hPn, hP j hj, hp]
      · rw [hE j b hj hb, if_pos ⟨rfl, rfl⟩]
    · obtain ⟨i, b', i1, i2, i3, i4⟩ := t.par k h0 (by omega)
      refine ⟨i, b', by omega, i2, by rw [hP k (by omega), hP i i1]; exact i3, ?_⟩
      rw [hE i b' i1 i2, if_neg]
      · exact i4
      · rintro ⟨rfl, rfl⟩; rw [he] at i4; omega
  · obtain ⟨i, i1, i2, i3⟩ := t.rou s n' hs hn'
    refine ⟨i, by rw [hl]; omega, by rw [hP i i1]; exact i2, ?_⟩
    rw [hE i _ i1 (by omega)]
    split
    · have := t.pos; omega
    · exact i3
/-- the word's end -/
theorem tree_end {T : List (Int × Int)} {ps : List (Nat × Nat)} {m j b : Nat} (t : Tree zs T ps m) (hm : m < zs.length) (hj : j < T.length) (hb : b = wdN zs m % 2) (hp : ps.getD j (0, 0) = (lnN zs m - 1, wdN zs m / 2))
    (hr : ∀ n, n + 1 < lnN zs m → ∃ j, j < T.length ∧ ps.getD j (0, 0) = (n, wdN zs m / 2 ^ (lnN zs m - n)) ∧ en T j (wdN zs m / 2 ^ (lnN zs m - n - 1) % 2) ≠ 0) :
    Tree zs (setE T j b (-1 - ((m : Nat) : Int))) ps (m + 1) := by
  have hlm : 1 ≤ lnN zs m := by
    have := hx _ (mem_getD hm)
    unfold lenP at this; unfold lnN; omega
  have hb2 : b < 2 := by omega
  have hl := setE_length T j b (-1 - ((m : Nat) : Int))
  have hE : ∀ j' b', j' < T.length → b' < 2 → en (setE T j b (-1 - ((m : Nat) : Int))) j' b' = if j' = j ∧ b' = b then -1 - ((m : Nat) : Int) else en T j' b' := fun j' b' h1 h2 => en_set _ hj h1 hb2 h2
  refine ⟨by rw [hl]; exact t.len, by rw [hl]; exact t.pos, t.root, fun i k hi hk q => t.nod i k (by rw [hl] at hi; exact hi) (by rw [hl] at hk; exact hk) q, fun k b' hk hb' => ?_, fun k hk => t.int k (by rw [hl] at hk; exact hk), fun k h0 hk => ?_, fun s n' hs hn' => ?_⟩
  · rw [hl] at hk ⊢
    rw [hE k b' hk hb']
    by_cases c : k = j ∧ b' = b
    · rw [if_pos c]
      right; right
      refine ⟨m, by omega, rfl, ?_, ?_⟩
      · rw [c.1, hp]; simp only; omega
      · rw [c.1, hp, c.2]; simp only; omega
    · rw [if_neg c]
      rcases t.ent k b' hk hb' with h | h | ⟨s, h1, h2⟩
      · exact .inl h
      · exact .inr (.inl h)
      · exact .inr (.inr ⟨s, by omega, h2⟩)
  · rw [hl] at hk ⊢
    obtain ⟨i, b', i1, i2, i3, i4⟩ := t.par k h0 hk
    refine ⟨i, b', i1, i2, i3, ?_⟩
    rw [hE i b' i1 i2, if_neg]
    · exact i4
    · rintro ⟨rfl, rfl⟩
      rw [hp] at i3
      simp only at i3
      obtain ⟨s, s1, s2, s3⟩ := t.int k hk
      rw [i3] at s2 s3
      simp only at s2 s3
      rw [show lnN zs m - 1 + 1 = lnN zs m by omega] at s2 s3
      have hne : m ≠ s := by rintro rfl; omega
      exact no_prefix hx hw hm s1 hne (by omega) (by rw [s3]; omega)
  · rw [hl]
    by_cases c : s = m
    · subst c
      by_cases c2 : n' + 1 < lnN zs s
      · obtain ⟨i, i1, i2, i3⟩ := hr n' c2
        refine ⟨i, i1, i2, ?_⟩
        rw [hE i _ i1 (by omega)]
        split
        · omega
        · exact i3
      · have : n' = lnN zs s - 1 := by omega
        subst this
        refine ⟨j, hj, by rw [hp, show lnN zs s - (lnN zs s - 1) = 1 by omega, Nat.pow_one], ?_⟩
        rw [show lnN zs s - (lnN zs s - 1) - 1 = 0 by omega, Nat.pow_zero, Nat.div_one, ← hb, hE j b hj hb2, if_pos ⟨rfl, rfl⟩]
        omega
    · obtain ⟨i, i1, i2, i3⟩ := t.rou s n' (by omega) hn'
      refine ⟨i, i1, i2, ?_⟩
      rw [hE i _ i1 (by omega)]
      split
      · omega
      · exact i3
omit hx in
/-- every row of bits is some word's beginning, or begins with a word -/
theorem some_word : ∀ x, x < 65536 → ∃ s, s < zs.length ∧ aheadN zs s ≤ x ∧ x < aheadN zs s + twN (zs.getD s 0) := by
  intro x hx65
  obtain ⟨Z, p, srt⟩ := exists_sorted zs
  have tot : wgtK zs Z = 65536 := by rw [wgtK_perm p, wgtK_idxs, hw]
  have go : ∀ D : List Int, x < wgtK zs D → ∃ A s B, D = A ++ s :: B ∧ wgtK zs B ≤ x ∧ x < wgtK zs B + twN (kyK zs s) := by
    intro D
    induction D with
    | nil => intro h; simp [wgtK] at h
    | cons d D ih =>
      intro h
      by_cases c : x < wgtK zs D
      · obtain ⟨A, s, B, q1, q2⟩ := ih c
        exact ⟨d :: A, s, B, by rw [q1]; rfl, q2⟩
      · rw [wgtK_cons] at h
        exact ⟨[], d, D, rfl, by omega, by omega⟩
  obtain ⟨A, s, B, q1, q2, q3⟩ := go Z (by omega)
  have hs := idxs_mem.1 (p.mem_iff.1 (show s ∈ Z by rw [q1]; simp))
  have hb := behind_ahead p srt q1
  refine ⟨s.toNat, by omega, by omega, ?_⟩
  rw [← hb]; exact q3
theorem cover {n v : Nat} (hn : n ≤ 16) (hv : v < 2 ^ n) : ∃ s, s < zs.length ∧ ((lnN zs s ≤ n ∧ v / 2 ^ (n - lnN zs s) = wdN zs s) ∨ (n ≤ lnN zs s ∧ wdN zs s / 2 ^ (lnN zs s - n) = v)) := by
  have h16 : 2 ^ n * 2 ^ (16 - n) = 65536 := by rw [← Nat.pow_add, show n + (16 - n) = 16 by omega]
  have hp := Nat.pow_pos (n := 16 - n) (show 0 < 2 by omega)
  obtain ⟨s, s1, s2, s3⟩ := some_word hw (v * 2 ^ (16 - n)) (by rw [← h16]; exact Nat.mul_lt_mul_of_pos_right hv hp)
  have hl := hx _ (mem_getD s1)
  have ht := twN_le _ hl
  have he := (wd_eq hx hw s1).1
  have hq : v * 2 ^ (16 - n) / twN (zs.getD s 0) = wdN zs s := by
    have h1 := wdN zs s
    apply Nat.div_eq_of_lt_le
    · rw [Nat.mul_comm (wdN zs s)]; omega
    · rw [Nat.add_mul, Nat.one_mul, Nat.mul_comm (wdN zs s)]; omega
  unfold lenP at hl
  have e16 : (16 - zs.getD s 0).toNat = 16 - lnN zs s := by unfold lnN; omega
  unfold twN at hq
  rw [e16] at hq
  refine ⟨s, s1, ?_⟩
  have hl16 : lnN zs s ≤ 16 := by unfold lnN; omega
  by_cases c : lnN zs s ≤ n
  · left
    refine ⟨c, ?_⟩
    rw [← hq, show 16 - lnN zs s = (16 - n) + (n - lnN zs s) by omega, Nat.pow_add, ← Nat.div_div_eq_div_mul, Nat.mul_div_cancel _ hp]
  · right
    refine ⟨by omega, ?_⟩
    rw [← hq, Nat.div_div_eq_div_mul, ← Nat.pow_add, show 16 - lnN zs s + (lnN zs s - n) = 16 - n by omega, Nat.mul_div_cancel _ hp]
/-- the whole tree has no place that leads nowhere -/
theorem tree_full {T : List (Int × Int)} {ps : List (Nat × Nat)} (t : Tree zs T ps zs.length) {j b : Nat} (hj : j < T.length) (hb : b < 2) : en T j b ≠ 0 := by
  intro h0
  obtain ⟨n, v, hp⟩ : ∃ n v, ps.getD j (0, 0) = (n, v) := ⟨_, _, rfl⟩
  obtain ⟨s2, q1, q2, q3⟩ := t.int j hj
  rw [hp] at q2 q3
  simp only at q2 q3
  have hl2 : lnN zs s2 ≤ 16 := by
    have := hx _ (mem_getD q1)
    unfold lenP at this; unfold lnN; omega
  have hv : v < 2 ^ n := by
    rw [← q3, Nat.div_lt_iff_lt_mul (Nat.pow_pos (by omega)), ← Nat.pow_add, show n + (lnN zs s2 - n) = lnN zs s2 by omega]
    exact (wd_eq hx hw q1).2
  obtain ⟨s, s1, hc⟩ := cover hx hw (n := n + 1) (v := 2 * v + b) (by omega) (by rw [Nat.pow_succ]; omega)
  have key : ∀ s, s < zs.length → n + 1 ≤ lnN zs s → wdN zs s / 2 ^ (lnN zs s - (n + 1)) = 2 * v + b → False := fun s s1 c1 c2 => by
    obtain ⟨i, i1, i2, i3⟩ := t.rou s n s1 (by omega)
    have hn := wd_next (wdN zs s) (lnN zs s) n (by omega)
    rw [show lnN zs s - n - 1 = lnN zs s - (n + 1) by omega] at hn i3
    have e1 : wdN zs s / 2 ^ (lnN zs s - n) = v := by omega
    have e2 : wdN zs s / 2 ^ (lnN zs s - (n + 1)) % 2 = b := by omega
    rw [e1] at i2
    rw [e2] at i3
    have := t.nod i j i1 hj (by rw [i2, hp])
    subst this
    exact i3 h0
  rcases hc with ⟨c1, c2⟩ | ⟨c1, c2⟩
  · by_cases c3 : lnN zs s = n + 1
    · exact key s s1 (by omega) (by rw [c3, Nat.sub_self, Nat.pow_zero, Nat.div_one, ← c2, c3, Nat.sub_self, Nat.pow_zero, Nat.div_one])
    · have hne : s ≠ s2 := by rintro rfl; omega
      refine no_prefix hx hw s1 q1 hne (by omega) ?_
      have e1 : v / 2 ^ (n - lnN zs s) = wdN zs s := by
        rw [← c2, show n + 1 - lnN zs s = 1 + (n - lnN zs s) by omega, Nat.pow_add, Nat.pow_one, ← Nat.div_div_eq_div_mul]
        congr 1; omega
      rw [← e1, ← q3, Nat.div_div_eq_div_mul, ← Nat.pow_add]
      congr 2; omega
  · exact key s s1 c1 c2
end
end Go.Proofs.Ytephmpbccajaaaa.Gx

