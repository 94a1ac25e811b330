/- Plain: where nothing comes twice all tokens are bytes; a text of one byte has few tokens. -/
import Derived.Test.YtplkdjbcdeakaaaLaw9
import Derived.Test.YtplkdjbcdeakaaaR01
namespace Go.Proofs.Ytplkdjbcdeakaaa

theorem td2 (bs : List Int) (i : Nat) (h : i + 2 ≤ bs.length) : (bs.drop i).take 2 = [bs.getD i 0, bs.getD (i + 1) 0] := by
  apply List.ext_getElem
  · simp; omega
  · intro j h1 h2
    simp at h2
    obtain rfl | rfl : j = 0 ∨ j = 1 := by omega
    · simp [List.getElem?_eq_getElem (show i < bs.length by omega)]
    · simp [List.getElem?_eq_getElem (show i + 1 < bs.length by omega)]
theorem td3 (bs : List Int) (i : Nat) (h : i + 3 ≤ bs.length) : (bs.drop i).take 3 = [bs.getD i 0, bs.getD (i + 1) 0, bs.getD (i + 2) 0] := by
  apply List.ext_getElem
  · simp; omega
  · intro j h1 h2
    simp at h2
    obtain rfl | rfl | rfl : j = 0 ∨ j = 1 ∨ j = 2 := by omega
    · simp [List.getElem?_eq_getElem (show i < bs.length by omega)]
    · simp [List.getElem?_eq_getElem (show i + 1 < bs.length by omega)]
    · simp [List.getElem?_eq_getElem (show i + 2 < bs.length by omega)]
/-- The mn bytes from i on. -/
def piece (bs : List Int) (i m : Nat) : List Int := (bs.drop i).take m
theorem piece_of_key {bs : List Int} {m i k : Nat} (hm : m = 2 ∨ m = 3) (hi : i + m ≤ bs.length) (hk : k + m ≤ bs.length) (h : keyAt bs (m : Int) k = keyAt bs (m : Int) i) : piece bs i m = piece bs k m := by
  unfold piece
  simp only [keyAt, List.cons.injEq, and_true] at h
  obtain ⟨h0, h1, h2⟩ := h
  rcases hm with rfl | rfl
  · rw [td2 _ _ hi, td2 _ _ hk, h0, h1]
  · have h2' : bs.getD (k + 2) 0 = bs.getD (i + 2) 0 := by simpa using h2
    rw [td3 _ _ hi, td3 _ _ hk, h0, h1, h2']

theorem lastK_some (bs : List Int) (mn : Int) (ks : List Int) (p : Nat) (h : 0 < lastK bs mn ks p) : lastK bs mn ks p - 1 < p ∧ ((lastK bs mn ks p - 1 : Nat) : Int) + mn ≤ bs.length ∧ keyAt bs mn (lastK bs mn ks p - 1) = ks := by
  induction p with
  | zero => simp [lastK] at h
  | succ p ih =>
    rw [lastK] at h ⊢
    split at h
    · rename_i hc
      rw [if_pos hc]
      exact ⟨by omega, by simpa using hc.1, by simpa using hc.2⟩
    · rename_i hc
      rw [if_neg hc]
      have := ih h
      exact ⟨by omega, this.2⟩

/-- Nothing comes twice within the window, below place p. -/
def NoTwice (bs : List Int) (m : Nat) (win : Int) (p : Nat) : Prop := ∀ i, i < p → ∀ k, k < i → (i : Int) - k ≤ win → piece bs i m ≠ piece bs k m

theorem at_nothing {bs : List Int} {m : Nat} {mx win ch : Int} (hm : m = 2 ∨ m = 3) (i : Nat) (h : ch ≤ 0 ∨ ∀ k, k < i → i + m ≤ bs.length → (i : Int) - k ≤ win → piece bs i m ≠ piece bs k m) : atSpec bs m mx win ch i = (0, 0) := by
  unfold atSpec
  split
  · rename_i hv
    rw [atLoop, if_neg]
    intro hc
    rcases h with h | h
    · have := hc.1
      simp at this
      omega
    · obtain ⟨h1, h2, h3⟩ := lastK_some _ _ _ _ hc.2.1
      refine h _ h1 (by omega) (by omega) ?_
      exact piece_of_key hm (by omega) (by omega) h3
  · rfl

theorem find_nothing (bs : List Int) (mn mx win ch : Int) (lz : Bool) (h : ∀ i, i < bs.length → atSpec bs mn mx win ch i = (0, 0)) : findSpec bs mn mx win ch lz = bs.map fun x => ⟨x, 0, 0⟩ := by
  have key : ∀ f i, bs.length ≤ i + f → findLoop bs mn mx win ch lz f i = (bs.drop i).map fun x => (⟨x, 0, 0⟩ : Tok) := by
    intro f
    induction f with
    | zero => intro i hi; rw [List.drop_eq_nil_of_le (by omega)]; rfl
    | succ f ih =>
      intro i hi
      rw [findLoop]
      by_cases hlt : i < bs.length
      · have hw : waits bs mn mx win ch lz i = true := by simp [waits, h i hlt]
        rw [if_pos hlt, if_pos hw, ih (i + 1) (by omega), List.drop_eq_getElem_cons hlt, List.map_cons]
        congr 2
        simp [List.getElem?_eq_getElem hlt]
      · rw [if_neg hlt, List.drop_eq_nil_of_le (by omega)]; rfl
  have := key bs.length 0 (by omega)
  simpa [findSpec] using this
theorem find_all_bytes {bs : List Int} {m : Nat} {mx win ch : Int} {lz : Bool} (hm : m = 2 ∨ m = 3) (h : ch ≤ 0 ∨ NoTwice bs m win (bs.length + 1 - m)) : findSpec bs m mx win ch lz = bs.map fun x => ⟨x, 0, 0⟩ := by
  refine find_nothing _ _ _ _ _ _ fun i hi => at_nothing hm i ?_
  rcases h with h | h
  · exact .inl h
  · exact .inr fun k hk hv hd => h i (by omega) k hk hd

theorem same_ge {bs : List Int} {mn mx : Int} {k i : Nat} (hm : mn = 2 ∨ mn = 3) (hi : (i : Int) + mn ≤ bs.length) (hx : mn ≤ mx) (hk : keyAt bs mn k = keyAt bs mn i) : mn ≤ same bs k i mx := by
  have h1 := (key_iff hm hi).1 hk
  have h2 := (same_spec bs k i mn).1
  have h3 := (same_spec bs k i mx).2
  by_cases h : mn ≤ (same bs k i mx : Int)
  · exact h
  · exact absurd ⟨by omega, (h2 _ (by omega)).2⟩ h3
/-- What may be found at a place. -/
def Best (bs : List Int) (mn mx win : Int) (i : Nat) (b : Nat × Nat) : Prop :=
  b = (0, 0) ∨ (1 ≤ b.1 ∧ b.1 ≤ i ∧ (b.1 : Int) ≤ win ∧ mn ≤ b.2 ∧ (b.2 : Int) ≤ mx ∧ ∀ j, j < b.2 → i + j < bs.length ∧ bs.getD (i - b.1 + j) 0 = bs.getD (i + j) 0)
theorem atLoop_best {bs : List Int} {mn mx win ch : Int} {i : Nat} (hm : mn = 2 ∨ mn = 3) (hi : (i : Int) + mn ≤ bs.length) (hx : mn ≤ mx) (f : Nat) : ∀ (frm cnt : Nat) (best : Nat × Nat), Best bs mn mx win i best →
    (0 < frm → frm - 1 < i ∧ keyAt bs mn (frm - 1) = keyAt bs mn i) → Best bs mn mx win i (atLoop bs mn mx win ch i f frm cnt best) := by
  induction f with
  | zero => intro _ _ _ hb _; exact hb
  | succ f ih =>
    intro frm cnt best hb hf
    rw [atLoop]
    split
    · rename_i hc
      obtain ⟨hf1, hf2⟩ := hf hc.2.1
      have hnb : Best bs mn mx win i (if best.2 < same bs (frm - 1) i mx then (i - (frm - 1), same bs (frm - 1) i mx) else best) := by
        split
        · refine .inr ⟨by simp only; omega, by simp only; omega, by simp only; omega, same_ge hm hi hx hf2, same_le_mx _ _ _ _ (by omega), fun j hj => ?_⟩
          have := (same_spec bs (frm - 1) i mx).1 j hj
          simp only
          rw [show i - (i - (frm - 1)) + j = frm - 1 + j by omega]
          exact this.2
        · exact hb
      generalize (if best.2 < same bs (frm - 1) i mx then (i - (frm - 1), same bs (frm - 1) i mx) else best) = nb at hnb ⊢
      split
      · exact hnb
      · refine ih _ _ _ hnb fun hp => ?_
        unfold prevF at hp ⊢
        split at hp
        · rename_i hq
          rw [if_pos hq] 
          obtain ⟨a1, a2, a3⟩ := lastK_some _ _ _ _ hp
          exact ⟨by omega, a3.trans hf2⟩
        · exact absurd hp (by omega)
    · exact hb
theorem at_best {bs : List Int} {mn mx win ch : Int} (hm : mn = 2 ∨ mn = 3) (hx : mn ≤ mx) (i : Nat) : Best bs mn mx win i (atSpec bs mn mx win ch i) := by
  unfold atSpec
  split
  · rename_i hi
    refine atLoop_best hm hi hx _ _ _ _ (.inl rfl) fun hp => ?_
    obtain ⟨a1, a2, a3⟩ := lastK_some _ _ _ _ hp
    exact ⟨a1, a3⟩
  · exact .inl rfl

/-- The tokens lie side by side from i on, and each copy tells what stands there. -/
def Til (bs : List Int) (mn mx win : Int) : List Tok → Nat → Prop
  | [], i => i = bs.length
  | t :: l, i => i < bs.length ∧ ((t = ⟨bs.getD i 0, 0, 0⟩ ∧ Til bs mn mx win l (i + 1)) ∨
      ∃ d n : Nat, t = ⟨0, d, n⟩ ∧ mn ≤ n ∧ (n : Int) ≤ mx ∧ 1 ≤ d ∧ d ≤ i ∧ (d : Int) ≤ win ∧ i + n ≤ bs.length ∧ (∀ j, j < n → bs.getD (i - d + j) 0 = bs.getD (i + j) 0) ∧ Til bs mn mx win l (i + n))
theorem find_til {bs : List Int} {mn mx win ch : Int} {lz : Bool} (hm : mn = 2 ∨ mn = 3) (hx : mn ≤ mx) (f : Nat) : ∀ i, i ≤ bs.length → bs.length ≤ i + f → Til bs mn mx win (findLoop bs mn mx win ch lz f i) i := by
  induction f with
  | zero =>
    intro i h1 h2
    have : i = bs.length := by omega
    exact this
  | succ f ih =>
    intro i h1 h2
    rw [findLoop]
    by_cases hlt : i < bs.length
    · rw [if_pos hlt]
      by_cases hw : waits bs mn mx win ch lz i = true
      · rw [if_pos hw]
        exact ⟨hlt, .inl ⟨rfl, ih (i + 1) (by omega) (by omega)⟩⟩
      · rw [if_neg hw]
        have hz : atSpec bs mn mx win ch i ≠ (0, 0) := fun h => hw (by simp [waits, h])
        rcases at_best (win := win) (ch := ch) hm hx i with h | ⟨h1', h2', h3', h4', h5', h6'⟩
        · exact absurd h hz
        · have hg := (atSpec_good bs mn mx win ch i h1).2
          refine ⟨hlt, .inr ⟨_, _, rfl, h4', h5', h1', h2', h3', hg, fun j hj => (h6' j hj).2, ih _ hg (by omega)⟩⟩
    · rw [if_neg hlt]
      show i = bs.length
      omega
theorem findSpec_til {bs : List Int} {mn mx win ch : Int} {lz : Bool} (hm : mn = 2 ∨ mn = 3) (hx : mn ≤ mx) : Til bs mn mx win (findSpec bs mn mx win ch lz) 0 := find_til hm hx bs.length 0 (Nat.zero_le _) (by omega)

theorem getD_rep (c : Int) (n j : Nat) (h : j < n) : (List.replicate n c).getD j 0 = c := by simp [h]
theorem same_run {c : Int} {n f i : Nat} {mx : Int} (hf : f ≤ i) (hmx : 0 ≤ mx) (hi : i ≤ n) : same (List.replicate n c) f i mx = min mx.toNat (n - i) := by
  obtain ⟨h1, h2⟩ := same_spec (List.replicate n c) f i mx
  have h3 := same_le_mx (List.replicate n c) f i mx hmx
  generalize same (List.replicate n c) f i mx = L at h1 h2 h3
  have h4 : i + L ≤ n := by
    rcases Nat.eq_zero_or_pos L with h0 | h0
    · omega
    · have := (h1 (L - 1) (by omega)).2.1
      simp at this
      omega
  have h5 : mx ≤ L ∨ n ≤ i + L := by
    by_cases a : mx ≤ L
    · exact .inl a
    · by_cases b : n ≤ i + L
      · exact .inr b
      · refine absurd ⟨by omega, by simp; omega, ?_⟩ h2
        rw [getD_rep _ _ _ (by omega), getD_rep _ _ _ (by omega)]
  omega
theorem key_run {c : Int} {m n p q : Nat} (hm : m = 2 ∨ m = 3) (hp : p + m ≤ n) (hq : q + m ≤ n) : keyAt (List.replicate n c) m p = keyAt (List.replicate n c) m q := by
  unfold keyAt
  rcases hm with rfl | rfl
  · rw [getD_rep _ _ p (by omega), getD_rep _ _ q (by omega), getD_rep _ _ (p + 1) (by omega), getD_rep _ _ (q + 1) (by omega)]
    simp
  · rw [getD_rep _ _ p (by omega), getD_rep _ _ q (by omega), getD_rep _ _ (p + 1) (by omega), getD_rep _ _ (q + 1) (by omega), getD_rep _ _ (p + 2) (by omega), getD_rep _ _ (q + 2) (by omega)]
theorem loop_run {c : Int} {m n i : Nat} {mx win ch : Int} (hmx : 0 ≤ mx) (hi : i ≤ n) (f : Nat) : ∀ (frm cnt : Nat) (best : Nat × Nat), frm ≤ i → best.2 = min mx.toNat (n - i) → atLoop (List.replicate n c) m mx win ch i f frm cnt best = best := by
  induction f with
  | zero => intro _ _ _ _ _; rfl
  | succ f ih =>
    intro frm cnt best hfr hb
    rw [atLoop]
    split
    · rw [same_run (by omega) hmx hi]
      have e : (if best.2 < min mx.toNat (n - i) then (i - (frm - 1), min mx.toNat (n - i)) else best) = best := if_neg (by omega)
      rw [e]
      split
      · rfl
      · exact ih _ _ _ (Nat.le_trans (prevF_le _ _ _ _) (by omega)) hb
    · rfl
theorem at_run {c : Int} {m n i : Nat} {mx win ch : Int} (hm : m = 2 ∨ m = 3) (hmx : (m : Int) ≤ mx) (hw : 1 ≤ win) (hc : 1 ≤ ch) (hi : 1 ≤ i) (hn : i + m ≤ n) :
    atSpec (List.replicate n c) m mx win ch i = (1, min mx.toNat (n - i)) := by
  unfold atSpec
  rw [if_pos (by simp; omega)]
  obtain ⟨i, rfl⟩ : ∃ j, i = j + 1 := ⟨i - 1, by omega⟩
  rw [lastK, if_pos ⟨by simp; omega, key_run hm (by omega) (by omega)⟩, atLoop, if_pos ⟨by omega, by omega, by omega⟩]
  rw [same_run (by omega) (by omega) (by omega)]
  have e : (if (0, 0).2 < min mx.toNat (n - (i + 1)) then (i + 1 - (i + 1 - 1), min mx.toNat (n - (i + 1))) else (0, 0)) = (1, min mx.toNat (n - (i + 1))) := by
    rw [if_pos (by simp only; omega)]
    congr 1
    omega
  rw [e]
  split
  · rfl
  · exact loop_run (i := i + 1) (by omega) (by omega) _ _ _ _ (Nat.le_trans (prevF_le _ _ _ _) (by omega)) rfl
theorem at_end {c : Int} {m n i : Nat} {mx win ch : Int} (hn : ¬ i + m ≤ n) : atSpec (List.replicate n c) m mx win ch i = (0, 0) := by
  unfold atSpec
  rw [if_neg (by simp; omega)]
theorem at_first {c : Int} {m n : Nat} {mx win ch : Int} : atSpec (List.replicate n c) m mx win ch 0 = (0, 0) := by
  unfold atSpec
  split
  · rw [lastK, atLoop, if_neg (by omega)]
  · rfl
theorem waits_none {bs : List Int} {m mx win ch : Int} {lz : Bool} {i : Nat} (h : atSpec bs m mx win ch i = (0, 0)) : waits bs m mx win ch lz i = true := by simp [waits, h]
theorem waits_run {c : Int} {m n i : Nat} {mx win ch : Int} {lz : Bool} (hm : m = 2 ∨ m = 3) (hmx : (m : Int) ≤ mx) (hw : 1 ≤ win) (hc : 1 ≤ ch) (hi : 1 ≤ i) (hn : i + m ≤ n) :
    waits (List.replicate n c) m mx win ch lz i = false := by
  unfold waits
  rw [at_run hm hmx hw hc hi hn]
  have h2 : (atSpec (List.replicate n c) m mx win ch (i + 1)).2 ≤ min mx.toNat (n - i) := by
    by_cases h : i + 1 + m ≤ n
    · rw [at_run hm hmx hw hc (by omega) h]; simp only; omega
    · rw [at_end h]; simp
  have h3 : decide (min mx.toNat (n - i) < (atSpec (List.replicate n c) m mx win ch (i + 1)).2) = false := by simp only [decide_eq_false_iff_not]; omega
  simp only [h3]
  simp

theorem len_end {c : Int} {m n : Nat} {mx win ch : Int} {lz : Bool} (f : Nat) : ∀ i, ¬ i + m ≤ n → (findLoop (List.replicate n c) m mx win ch lz f i).length ≤ n - i := by
  induction f with
  | zero => intro i _; simp [findLoop]
  | succ f ih =>
    intro i hi
    rw [findLoop]
    split
    · rename_i hlt
      simp at hlt
      rw [if_pos (waits_none (at_end hi)), List.length_cons]
      have := ih (i + 1) (by omega)
      omega
    · simp
theorem len_run {c : Int} {m n M : Nat} {mx win ch : Int} {lz : Bool} (hm : m = 2 ∨ m = 3) (hM : mx = M) (hmx : m ≤ M) (hw : 1 ≤ win) (hc : 1 ≤ ch) (f : Nat) : ∀ i, 1 ≤ i → i ≤ n → (findLoop (List.replicate n c) m mx win ch lz f i).length ≤ (n - i + M - 1) / M + m := by
  induction f with
  | zero => intro i _ _; simp [findLoop]
  | succ f ih =>
    intro i hi hin
    by_cases hn : i + m ≤ n
    · rw [findLoop]
      have e : mx.toNat = M := by omega
      rw [if_pos (by simp; omega), waits_run hm (by omega) hw hc hi hn, if_neg (by simp), at_run hm (by omega) hw hc hi hn, List.length_cons, e]
      simp only
      by_cases hlast : n - i ≤ M
      · rw [Nat.min_eq_right hlast]
        have h1 : (findLoop (List.replicate n c) m mx win ch lz f (i + (n - i))).length ≤ n - (i + (n - i)) := len_end f _ (by omega)
        generalize (n - i + M - 1) / M = D
        omega
      · rw [Nat.min_eq_left (by omega)]
        have h1 := ih (i + M) (by omega) (by omega)
        have h2 : n - i + M - 1 = (n - (i + M) + M - 1) + M := by omega
        rw [h2, Nat.add_div_right _ (by omega)]
        generalize (n - (i + M) + M - 1) / M = D at h1 ⊢
        omega
    · have := len_end (c := c) (mx := mx) (win := win) (ch := ch) (lz := lz) (f + 1) i hn
      generalize (n - i + M - 1) / M = D
      omega
theorem find_run {c : Int} {m n M : Nat} {mx win ch : Int} {lz : Bool} (hm : m = 2 ∨ m = 3) (hM : mx = M) (hmx : m ≤ M) (hw : 1 ≤ win) (hc : 1 ≤ ch) (hn : 1 ≤ n) : (findSpec (List.replicate n c) m mx win ch lz).length ≤ 1 + ((n - 1 + M - 1) / M + m) := by
  unfold findSpec
  obtain ⟨n, rfl⟩ : ∃ k, n = k + 1 := ⟨n - 1, by omega⟩
  rw [List.length_replicate, findLoop, if_pos (by simp), if_pos (waits_none at_first), List.length_cons]
  have := len_run (c := c) (lz := lz) hm hM hmx hw hc n 1 (by omega) (show 1 ≤ n + 1 by omega)
  rw [Nat.add_comm 1]
  exact Nat.succ_le_succ this
end Go.Proofs.Ytplkdjbcdeakaaa

