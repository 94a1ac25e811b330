/- The finder and the encoder over it, in plain lists. (Turned out of the elder texts by wip/gx/fnd.py.) No condition. -/
import Derived.Test.YtdmemmpkkibckaaInt
namespace Go.Proofs.Ytdmemmpkkibckaa.Gx.Fd
open Go Go.RowKit
set_option linter.unusedVariables false
set_option linter.unusedSimpArgs false
def lenFrom (bs : List Int) (f i : Nat) (mx : Int) : Nat → Nat → Nat
  | 0, k => k
  | m + 1, k => if (k : Int) < mx ∧ i + k < bs.length ∧ bs.getD (f + k) 0 = bs.getD (i + k) 0 then lenFrom bs f i mx m (k + 1) else k
def same (bs : List Int) (f i : Nat) (mx : Int) : Nat := lenFrom bs f i mx bs.length 0
theorem lenFrom_stop (bs : List Int) (f i : Nat) (mx : Int) (m k : Nat) (h : ¬ ((k : Int) < mx ∧ i + k < bs.length ∧ bs.getD (f + k) 0 = bs.getD (i + k) 0)) : lenFrom bs f i mx m k = k := by
  cases m with
  | zero => rfl
  | succ m => rw [lenFrom, if_neg h]
def keyAt (bs : List Int) (mn : Int) (i : Nat) : List Int := [bs.getD i 0, bs.getD (i + 1) 0, if mn = 3 then bs.getD (i + 2) 0 else 0]
def lastK (bs : List Int) (mn : Int) (ks : List Int) : Nat → Nat
  | 0 => 0
  | p + 1 => if (p : Int) + mn ≤ bs.length ∧ keyAt bs mn p = ks then p + 1 else lastK bs mn ks p
def prevF (bs : List Int) (mn : Int) (p k : Nat) : Nat := if k < p ∧ (k : Int) + mn ≤ bs.length then lastK bs mn (keyAt bs mn k) k else 0
def prevL (bs : List Int) (mn : Int) (p : Nat) : List Int := (List.range bs.length).map fun k => (prevF bs mn p k : Int)
theorem prevL_len (bs : List Int) (mn : Int) (p : Nat) : (prevL bs mn p).length = bs.length := by simp [prevL]
theorem prevL_zero (bs : List Int) (mn : Int) : prevL bs mn 0 = List.replicate bs.length 0 := by
  apply List.ext_getElem
  · simp [prevL]
  · intro i h1 h2
    simp [prevL, prevF]
theorem prevL_at (bs : List Int) (mn : Int) (p k : Nat) (h : k < bs.length) : (prevL bs mn p).getD k 0 = prevF bs mn p k := by
  simp [prevL, h]
theorem lastK_le (bs : List Int) (mn : Int) (ks : List Int) (p : Nat) : lastK bs mn ks p ≤ p := by
  induction p with
  | zero => simp [lastK]
  | succ p ih => rw [lastK]; split <;> omega
theorem prevL_set (bs : List Int) (mn : Int) (p : Nat) (hv : (p : Int) + mn ≤ bs.length) : (prevL bs mn p).set p (lastK bs mn (keyAt bs mn p) p : Nat) = prevL bs mn (p + 1) := by
  apply List.ext_getElem
  · simp [prevL]
  · intro i h1 h2
    have hi : i < bs.length := by simpa [prevL] using h2
    rw [List.getElem_set]
    simp only [prevL, List.getElem_map, List.getElem_range, prevF]
    by_cases e : p = i
    · subst e
      simp [hv]
    · rw [if_neg e]
      have : (i < p + 1) ↔ i < p := by omega
      simp [this]
theorem prevL_skip (bs : List Int) (mn : Int) (p : Nat) (hv : ¬ (p : Int) + mn ≤ bs.length) : prevL bs mn p = prevL bs mn (p + 1) := by
  unfold prevL
  congr 1
  funext k
  unfold prevF
  by_cases e : k = p
  · subst e; simp [hv]
  · have : (k < p + 1) ↔ k < p := by omega
    simp [this]
theorem lastK_skip (bs : List Int) (mn : Int) (p : Nat) (hv : ¬ (p : Int) + mn ≤ bs.length) (ks : List Int) : lastK bs mn ks (p + 1) = lastK bs mn ks p := by
  rw [lastK, if_neg (fun h => hv h.1)]
def atLoop (bs : List Int) (mn mx win ch : Int) (i : Nat) : Nat → Nat → Nat → Nat × Nat → Nat × Nat
  | 0, _, _, best => best
  | f + 1, frm, cnt, best =>
    if (cnt : Int) < ch ∧ 0 < frm ∧ (i : Int) - ((frm : Int) - 1) ≤ win then
      if (if best.2 < same bs (frm - 1) i mx then (i - (frm - 1), same bs (frm - 1) i mx) else best).2 = mx
      then (if best.2 < same bs (frm - 1) i mx then (i - (frm - 1), same bs (frm - 1) i mx) else best)
      else atLoop bs mn mx win ch i f (prevF bs mn i (frm - 1)) (cnt + 1) (if best.2 < same bs (frm - 1) i mx then (i - (frm - 1), same bs (frm - 1) i mx) else best)
    else best
def atSpec (bs : List Int) (mn mx win ch : Int) (i : Nat) : Nat × Nat :=
  if (i : Int) + mn ≤ bs.length then atLoop bs mn mx win ch i (i + 1) (lastK bs mn (keyAt bs mn i) i) 0 (0, 0) else (0, 0)
theorem prevF_le (bs : List Int) (mn : Int) (p k : Nat) : prevF bs mn p k ≤ k := by
  unfold prevF
  split
  · exact lastK_le _ _ _ _
  · omega
theorem lenFrom_le (bs : List Int) (f i : Nat) (mx : Int) (m k : Nat) (hk : k ≤ bs.length) : lenFrom bs f i mx m k ≤ bs.length := by
  induction m generalizing k with
  | zero => exact hk
  | succ m ih =>
    rw [lenFrom]
    split
    · rename_i h
      exact ih (k + 1) (by omega)
    · exact hk
theorem same_le (bs : List Int) (f i : Nat) (mx : Int) : same bs f i mx ≤ bs.length := lenFrom_le _ _ _ _ _ _ (Nat.zero_le _)
theorem atLoop_stop (bs : List Int) (mn mx win ch : Int) (i f frm cnt : Nat) (best : Nat × Nat) (h : ¬ ((cnt : Int) < ch ∧ 0 < frm ∧ (i : Int) - ((frm : Int) - 1) ≤ win)) : atLoop bs mn mx win ch i f frm cnt best = best := by
  cases f with
  | zero => rfl
  | succ f => rw [atLoop, if_neg h]
def shapeOk (win mn mx ch : Int) : Bool := decide (1 ≤ win ∧ win ≤ 65536 ∧ 2 ≤ mn ∧ mn ≤ 3 ∧ mn ≤ mx ∧ mx ≤ 65538 ∧ 0 ≤ ch ∧ ch ≤ 4096)
structure Tok where
  (lit dist len : Int)
def tokC (t : Tok) : List Value := [.int .u8 t.lit, .int .i64 t.dist, .int .i64 t.len]
def tokCs (l : List Tok) : List Value := l.flatMap tokC
theorem tokCs_len (l : List Tok) : (tokCs l).length = l.length * 3 := by
  induction l with
  | nil => rfl
  | cons t l ih => simp only [tokCs, List.flatMap_cons, List.length_append, List.length_cons] at ih ⊢; rw [ih]; simp [tokC]; omega
theorem tokCs_snoc (l : List Tok) (t : Tok) : tokCs (l ++ [t]) = tokCs l ++ tokC t := by simp [tokCs]
def waits (bs : List Int) (mn mx win ch : Int) (lz : Bool) (i : Nat) : Bool :=
  decide (atSpec bs mn mx win ch i = (0, 0)) || (lz && decide (((atSpec bs mn mx win ch i).2 : Int) < mx) && decide ((atSpec bs mn mx win ch i).2 < (atSpec bs mn mx win ch (i + 1)).2))
def findLoop (bs : List Int) (mn mx win ch : Int) (lz : Bool) : Nat → Nat → List Tok
  | 0, _ => []
  | f + 1, i =>
    if i < bs.length then
      if waits bs mn mx win ch lz i = true then ⟨bs.getD i 0, 0, 0⟩ :: findLoop bs mn mx win ch lz f (i + 1)
      else ⟨0, (atSpec bs mn mx win ch i).1, (atSpec bs mn mx win ch i).2⟩ :: findLoop bs mn mx win ch lz f (i + (atSpec bs mn mx win ch i).2)
    else []
def findSpec (bs : List Int) (mn mx win ch : Int) (lz : Bool) : List Tok := findLoop bs mn mx win ch lz bs.length 0
theorem lenFrom_bound (bs : List Int) (f i : Nat) (mx : Int) (m k : Nat) (hk : i + k ≤ bs.length) : i + lenFrom bs f i mx m k ≤ bs.length := by
  induction m generalizing k with
  | zero => exact hk
  | succ m ih =>
    rw [lenFrom]
    split
    · rename_i h
      exact ih (k + 1) (by omega)
    · exact hk
theorem same_bound (bs : List Int) (f i : Nat) (mx : Int) (hi : i ≤ bs.length) : i + same bs f i mx ≤ bs.length := lenFrom_bound _ _ _ _ _ _ (by omega)
theorem atLoop_good (bs : List Int) (mn mx win ch : Int) (i : Nat) (hi : i ≤ bs.length) (f frm cnt : Nat) (best : Nat × Nat) (hb : (best = (0, 0) ∨ 0 < best.2) ∧ i + best.2 ≤ bs.length) :
    (atLoop bs mn mx win ch i f frm cnt best = (0, 0) ∨ 0 < (atLoop bs mn mx win ch i f frm cnt best).2) ∧ i + (atLoop bs mn mx win ch i f frm cnt best).2 ≤ bs.length := by
  induction f generalizing frm cnt best with
  | zero => exact hb
  | succ f ih =>
    rw [atLoop]
    have hb' : ((if best.2 < same bs (frm - 1) i mx then (i - (frm - 1), same bs (frm - 1) i mx) else best) = (0, 0) ∨ 0 < (if best.2 < same bs (frm - 1) i mx then (i - (frm - 1), same bs (frm - 1) i mx) else best).2) ∧
        i + (if best.2 < same bs (frm - 1) i mx then (i - (frm - 1), same bs (frm - 1) i mx) else best).2 ≤ bs.length := by
      split
      · rename_i h
        exact ⟨.inr (by simp only; omega), same_bound _ _ _ _ hi⟩
      · exact hb
    generalize (if best.2 < same bs (frm - 1) i mx then (i - (frm - 1), same bs (frm - 1) i mx) else best) = nb at hb' ⊢
    split
    · split
      · exact hb'
      · exact ih _ _ _ hb'
    · exact hb
theorem atSpec_good (bs : List Int) (mn mx win ch : Int) (i : Nat) (hi : i ≤ bs.length) :
    (atSpec bs mn mx win ch i = (0, 0) ∨ 0 < (atSpec bs mn mx win ch i).2) ∧ i + (atSpec bs mn mx win ch i).2 ≤ bs.length := by
  unfold atSpec
  split
  · exact atLoop_good bs mn mx win ch i hi _ _ _ _ ⟨.inl rfl, hi⟩
  · exact ⟨.inl rfl, hi⟩
theorem lenFrom_spec (bs : List Int) (f i : Nat) (mx : Int) (m k : Nat) (hg : ∀ j, j < k → (j : Int) < mx ∧ i + j < bs.length ∧ bs.getD (f + j) 0 = bs.getD (i + j) 0) (hm : bs.length ≤ i + (m + k)) :
    (∀ j, j < lenFrom bs f i mx m k → (j : Int) < mx ∧ i + j < bs.length ∧ bs.getD (f + j) 0 = bs.getD (i + j) 0) ∧
    ¬ (((lenFrom bs f i mx m k : Nat) : Int) < mx ∧ i + lenFrom bs f i mx m k < bs.length ∧ bs.getD (f + lenFrom bs f i mx m k) 0 = bs.getD (i + lenFrom bs f i mx m k) 0) := by
  induction m generalizing k with
  | zero =>
    refine ⟨hg, fun h => ?_⟩
    have := h.2.1
    simp only [lenFrom] at this
    omega
  | succ m ih =>
    rw [lenFrom]
    split
    · rename_i h
      refine ih (k + 1) (fun j hj => ?_) (by omega)
      by_cases e : j = k
      · subst e; exact h
      · exact hg j (by omega)
    · rename_i h
      exact ⟨hg, h⟩
theorem same_spec (bs : List Int) (f i : Nat) (mx : Int) :
    (∀ j, j < same bs f i mx → (j : Int) < mx ∧ i + j < bs.length ∧ bs.getD (f + j) 0 = bs.getD (i + j) 0) ∧
    ¬ (((same bs f i mx : Nat) : Int) < mx ∧ i + same bs f i mx < bs.length ∧ bs.getD (f + same bs f i mx) 0 = bs.getD (i + same bs f i mx) 0) :=
  lenFrom_spec bs f i mx bs.length 0 (fun j hj => absurd hj (by omega)) (by omega)
theorem same_le_mx (bs : List Int) (f i : Nat) (mx : Int) (h : 0 ≤ mx) : (same bs f i mx : Int) ≤ mx := by
  rcases Nat.eq_zero_or_pos (same bs f i mx) with h0 | h0
  · omega
  · have := ((same_spec bs f i mx).1 (same bs f i mx - 1) (by omega)).1
    omega
theorem key_iff {bs : List Int} {mn : Int} {k i : Nat} (hm : mn = 2 ∨ mn = 3) (hi : (i : Int) + mn ≤ bs.length) : keyAt bs mn k = keyAt bs mn i ↔ ¬ (same bs k i mn : Int) < mn := by
  obtain ⟨h1, h2⟩ := same_spec bs k i mn
  have hle := same_le_mx bs k i mn (by omega)
  constructor
  · intro hk hlt
    refine h2 ⟨hlt, by omega, ?_⟩
    simp only [keyAt, List.cons.injEq, and_true] at hk
    obtain ⟨e0, e1, e2⟩ := hk
    generalize same bs k i mn = L at hlt
    rcases hm with rfl | rfl
    · obtain rfl | rfl : L = 0 ∨ L = 1 := by omega
      · exact e0
      · exact e1
    · obtain rfl | rfl | rfl : L = 0 ∨ L = 1 ∨ L = 2 := by omega
      · exact e0
      · exact e1
      · simpa using e2
  · intro hge
    have e0 := (h1 0 (by omega)).2.2
    have e1 := (h1 1 (by omega)).2.2
    simp only [keyAt]
    rcases hm with rfl | rfl
    · simp only [Nat.add_zero] at e0
      rw [e0, e1]
      simp
    · have e2 := (h1 2 (by omega)).2.2
      simp only [Nat.add_zero] at e0
      rw [e0, e1, e2]
theorem td2 (bs : List Int) (i : Nat) (h : i + 2 ≤ bs.length) : (bs.drop i).take 2 = [bs.getD i 0, bs.getD (i + 1) 0] := by
  apply List.ext_getElem
  · simp; omega
  · intro j h1 h2
    simp at h2
    obtain rfl | rfl : j = 0 ∨ j = 1 := by omega
    · simp [List.getElem?_eq_getElem (show i < bs.length by omega)]
    · simp [List.getElem?_eq_getElem (show i + 1 < bs.length by omega)]
theorem td3 (bs : List Int) (i : Nat) (h : i + 3 ≤ bs.length) : (bs.drop i).take 3 = [bs.getD i 0, bs.getD (i + 1) 0, bs.getD (i + 2) 0] := by
  apply List.ext_getElem
  · simp; omega
  · intro j h1 h2
    simp at h2
    obtain rfl | rfl | rfl : j = 0 ∨ j = 1 ∨ j = 2 := by omega
    · simp [List.getElem?_eq_getElem (show i < bs.length by omega)]
    · simp [List.getElem?_eq_getElem (show i + 1 < bs.length by omega)]
    · simp [List.getElem?_eq_getElem (show i + 2 < bs.length by omega)]
def piece (bs : List Int) (i m : Nat) : List Int := (bs.drop i).take m
theorem piece_of_key {bs : List Int} {m i k : Nat} (hm : m = 2 ∨ m = 3) (hi : i + m ≤ bs.length) (hk : k + m ≤ bs.length) (h : keyAt bs (m : Int) k = keyAt bs (m : Int) i) : piece bs i m = piece bs k m := by
  unfold piece
  simp only [keyAt, List.cons.injEq, and_true] at h
  obtain ⟨h0, h1, h2⟩ := h
  rcases hm with rfl | rfl
  · rw [td2 _ _ hi, td2 _ _ hk, h0, h1]
  · have h2' : bs.getD (k + 2) 0 = bs.getD (i + 2) 0 := by simpa using h2
    rw [td3 _ _ hi, td3 _ _ hk, h0, h1, h2']
theorem lastK_some (bs : List Int) (mn : Int) (ks : List Int) (p : Nat) (h : 0 < lastK bs mn ks p) : lastK bs mn ks p - 1 < p ∧ ((lastK bs mn ks p - 1 : Nat) : Int) + mn ≤ bs.length ∧ keyAt bs mn (lastK bs mn ks p - 1) = ks := by
  induction p with
  | zero => simp [lastK] at h
  | succ p ih =>
    rw [lastK] at h ⊢
    split at h
    · rename_i hc
      rw [if_pos hc]
      exact ⟨by omega, by simpa using hc.1, by simpa using hc.2⟩
    · rename_i hc
      rw [if_neg hc]
      have := ih h
      exact ⟨by omega, this.2⟩
theorem same_ge {bs : List Int} {mn mx : Int} {k i : Nat} (hm : mn = 2 ∨ mn = 3) (hi : (i : Int) + mn ≤ bs.length) (hx : mn ≤ mx) (hk : keyAt bs mn k = keyAt bs mn i) : mn ≤ same bs k i mx := by
  have h1 := (key_iff hm hi).1 hk
  have h2 := (same_spec bs k i mn).1
  have h3 := (same_spec bs k i mx).2
  by_cases h : mn ≤ (same bs k i mx : Int)
  · exact h
  · exact absurd ⟨by omega, (h2 _ (by omega)).2⟩ h3
def Best (bs : List Int) (mn mx win : Int) (i : Nat) (b : Nat × Nat) : Prop :=
  b = (0, 0) ∨ (1 ≤ b.1 ∧ b.1 ≤ i ∧ (b.1 : Int) ≤ win ∧ mn ≤ b.2 ∧ (b.2 : Int) ≤ mx ∧ ∀ j, j < b.2 → i + j < bs.length ∧ bs.getD (i - b.1 + j) 0 = bs.getD (i + j) 0)
theorem atLoop_best {bs : List Int} {mn mx win ch : Int} {i : Nat} (hm : mn = 2 ∨ mn = 3) (hi : (i : Int) + mn ≤ bs.length) (hx : mn ≤ mx) (f : Nat) : ∀ (frm cnt : Nat) (best : Nat × Nat), Best bs mn mx win i best →
    (0 < frm → frm - 1 < i ∧ keyAt bs mn (frm - 1) = keyAt bs mn i) → Best bs mn mx win i (atLoop bs mn mx win ch i f frm cnt best) := by
  induction f with
  | zero => intro _ _ _ hb _; exact hb
  | succ f ih =>
    intro frm cnt best hb hf
    rw [atLoop]
    split
    · rename_i hc
      obtain ⟨hf1, hf2⟩ := hf hc.2.1
      have hnb : Best bs mn mx win i (if best.2 < same bs (frm - 1) i mx then (i - (frm - 1), same bs (frm - 1) i mx) else best) := by
        split
        · refine .inr ⟨by simp only; omega, by simp only; omega, by simp only; omega, same_ge hm hi hx hf2, same_le_mx _ _ _ _ (by omega), fun j hj => ?_⟩
          have := (same_spec bs (frm - 1) i mx).1 j hj
          simp only
          rw [show i - (i - (frm - 1)) + j = frm - 1 + j by omega]
          exact this.2
        · exact hb
      generalize (if best.2 < same bs (frm - 1) i mx then (i - (frm - 1), same bs (frm - 1) i mx) else best) = nb at hnb ⊢
      split
      · exact hnb
      · refine ih _ _ _ hnb fun hp => ?_
        unfold prevF at hp ⊢
        split at hp
        · rename_i hq
          rw [if_pos hq] 
          obtain ⟨a1, a2, a3⟩ := lastK_some _ _ _ _ hp
          exact ⟨by omega, a3.trans hf2⟩
        · exact absurd hp (by omega)
    · exact hb
theorem at_best {bs : List Int} {mn mx win ch : Int} (hm : mn = 2 ∨ mn = 3) (hx : mn ≤ mx) (i : Nat) : Best bs mn mx win i (atSpec bs mn mx win ch i) := by
  unfold atSpec
  split
  · rename_i hi
    refine atLoop_best hm hi hx _ _ _ _ (.inl rfl) fun hp => ?_
    obtain ⟨a1, a2, a3⟩ := lastK_some _ _ _ _ hp
    exact ⟨a1, a3⟩
  · exact .inl rfl
def Til (bs : List Int) (mn mx win : Int) : List Tok → Nat → Prop
  | [], i => i = bs.length
  | t :: l, i => i < bs.length ∧ ((t = ⟨bs.getD i 0, 0, 0⟩ ∧ Til bs mn mx win l (i + 1)) ∨
      ∃ d n : Nat, t = ⟨0, d, n⟩ ∧ mn ≤ n ∧ (n : Int) ≤ mx ∧ 1 ≤ d ∧ d ≤ i ∧ (d : Int) ≤ win ∧ i + n ≤ bs.length ∧ (∀ j, j < n → bs.getD (i - d + j) 0 = bs.getD (i + j) 0) ∧ Til bs mn mx win l (i + n))
theorem find_til {bs : List Int} {mn mx win ch : Int} {lz : Bool} (hm : mn = 2 ∨ mn = 3) (hx : mn ≤ mx) (f : Nat) : ∀ i, i ≤ bs.length → bs.length ≤ i + f → Til bs mn mx win (findLoop bs mn mx win ch lz f i) i := by
  induction f with
  | zero =>
    intro i h1 h2
    have : i = bs.length := by omega
    exact this
  | succ f ih =>
    intro i h1 h2
    rw [findLoop]
    by_cases hlt : i < bs.length
    · rw [if_pos hlt]
      by_cases hw : waits bs mn mx win ch lz i = true
      · rw [if_pos hw]
        exact ⟨hlt, .inl ⟨rfl, ih (i + 1) (by omega) (by omega)⟩⟩
      · rw [if_neg hw]
        have hz : atSpec bs mn mx win ch i ≠ (0, 0) := fun h => hw (by simp [waits, h])
        rcases at_best (win := win) (ch := ch) hm hx i with h | ⟨h1', h2', h3', h4', h5', h6'⟩
        · exact absurd h hz
        · have hg := (atSpec_good bs mn mx win ch i h1).2
          refine ⟨hlt, .inr ⟨_, _, rfl, h4', h5', h1', h2', h3', hg, fun j hj => (h6' j hj).2, ih _ hg (by omega)⟩⟩
    · rw [if_neg hlt]
      show i = bs.length
      omega
theorem findSpec_til {bs : List Int} {mn mx win ch : Int} {lz : Bool} (hm : mn = 2 ∨ mn = 3) (hx : mn ≤ mx) : Til bs mn mx win (findSpec bs mn mx win ch lz) 0 := find_til hm hx bs.length 0 (Nat.zero_le _) (by omega)
def plainB (c : Int) : List Int := if c = 144 then [c, 0] else [c]
def plainS (bs : List Int) : List Int := bs.flatMap plainB
theorem plainS_snoc (bs : List Int) (c : Int) : plainS (bs ++ [c]) = plainS bs ++ plainB c := by simp [plainS]
theorem plainB_len (c : Int) : (plainB c).length ≤ 2 := by unfold plainB; split <;> simp
theorem plainS_len (bs : List Int) : (plainS bs).length ≤ 2 * bs.length := by
  induction bs with
  | nil => simp [plainS]
  | cons c bs ih =>
    have h := plainB_len c
    have e : plainS (c :: bs) = plainB c ++ plainS bs := by simp [plainS]
    rw [e, List.length_append, List.length_cons]
    omega
def vOf (low d n : Nat) : Nat := min (n - 3) (low - 1) + (d - 1) / 256 * low
def encC (low d n : Nat) : List Int :=
  [144, (vOf low d n : Int)] ++ ((if low - 1 ≤ n - 3 then [((n - 3 - (low - 1) : Nat) : Int)] else []) ++ [(((d - 1) % 256 : Nat) : Int)])
def encT (low : Nat) (bs : List Int) (i : Nat) (t : Tok) : List Int :=
  if t.len = 0 then plainS ((bs.drop i).take 1) else if vOf low t.dist.toNat t.len.toNat = 0 then plainS ((bs.drop i).take t.len.toNat) else encC low t.dist.toNat t.len.toNat
def stepT (t : Tok) : Nat := if t.len = 0 then 1 else t.len.toNat
def encL (low : Nat) (bs : List Int) : List Tok → Nat → List Int
  | [], _ => []
  | t :: l, i => encT low bs i t ++ encL low bs l (i + stepT t)
theorem encT_len (low : Nat) (bs : List Int) (i : Nat) (t : Tok) (h : t.len = 0 ∨ 3 ≤ t.len) : (encT low bs i t).length ≤ 2 * stepT t := by
  unfold encT stepT
  by_cases h0 : t.len = 0
  · rw [if_pos h0, if_pos h0]
    have := plainS_len ((bs.drop i).take 1)
    simp at this ⊢
    omega
  · rw [if_neg h0, if_neg h0]
    split
    · have := plainS_len ((bs.drop i).take t.len.toNat)
      rw [List.length_take] at this
      omega
    · unfold encC
      split <;> simp <;> omega
theorem encL_len2 (bs : List Int) (low : Nat) {mx win : Int} : ∀ (l : List Tok) (i : Nat), Til bs 3 mx win l i → (encL low bs l i).length + 2 * i ≤ 2 * bs.length := by
  intro l
  induction l with
  | nil => intro i h; have : i = bs.length := h; simp [encL]; omega
  | cons t l ih =>
    intro i h
    obtain ⟨hi, ⟨rfl, h⟩ | ⟨d, n, rfl, hn, _, _, _, _, hin, _, h⟩⟩ := h
    · have h1 := ih _ h
      have h2 := encT_len low bs i ⟨bs.getD i 0, 0, 0⟩ (.inl rfl)
      have hst : stepT ⟨bs.getD i 0, 0, 0⟩ = 1 := rfl
      rw [encL, List.length_append, hst]
      rw [hst] at h2
      omega
    · have h1 := ih _ h
      have h2 := encT_len low bs i ⟨0, d, n⟩ (.inr hn)
      have hst : stepT ⟨0, d, n⟩ = n := by unfold stepT; rw [if_neg (show ¬ ((n : Int) = 0) by omega)]; simp
      rw [encL, List.length_append, hst]
      rw [hst] at h2
      omega
def FL (f : Int) (low : Nat) : Prop := (f = 1 ∧ low = 128) ∨ (f = 2 ∧ low = 64) ∨ (f = 3 ∧ low = 32) ∨ (f = 4 ∧ low = 16)
theorem FL_get {f : Int} (h1 : 1 ≤ f) (h4 : f ≤ 4) : ∃ low, FL f low := by
  rcases (show f = 1 ∨ f = 2 ∨ f = 3 ∨ f = 4 by omega) with h | h | h | h
  · exact ⟨128, .inl ⟨h, rfl⟩⟩
  · exact ⟨64, .inr (.inl ⟨h, rfl⟩)⟩
  · exact ⟨32, .inr (.inr (.inl ⟨h, rfl⟩))⟩
  · exact ⟨16, .inr (.inr (.inr ⟨h, rfl⟩))⟩
theorem FL_pow {f : Int} {low : Nat} (h : FL f low) : (2 : Int) ^ (8 - f).toNat = low ∧ 16 ≤ low ∧ low ≤ 128 ∧ 1 ≤ f ∧ f ≤ 4 := by
  rcases h with ⟨rfl, rfl⟩ | ⟨rfl, rfl⟩ | ⟨rfl, rfl⟩ | ⟨rfl, rfl⟩ <;> decide
def toks (f : Int) (low : Nat) (bs : List Int) : List Tok := findSpec bs 3 ((low - 1 + 258 : Nat) : Int) (256 * 2 ^ f.toNat) 64 true
theorem til_len {bs : List Int} {mx win : Int} : ∀ (l : List Tok) (i : Nat), Til bs 3 mx win l i → l.length + i ≤ bs.length := by
  intro l
  induction l with
  | nil => intro i h; have : i = bs.length := h; simp; omega
  | cons t l ih =>
    intro i h
    obtain ⟨hi, ⟨_, h⟩ | ⟨d, n, _, hn, _, _, _, _, hin, _, h⟩⟩ := h
    · have := ih _ h; simp; omega
    · have := ih _ h; simp; omega
theorem vOf_le {low d n : Nat} {f : Int} (h : FL f low) (hd : 1 ≤ d) (hw : (d : Int) ≤ 256 * 2 ^ f.toNat) : vOf low d n ≤ 255 := by
  unfold vOf
  rcases h with ⟨rfl, rfl⟩ | ⟨rfl, rfl⟩ | ⟨rfl, rfl⟩ | ⟨rfl, rfl⟩
  all_goals
    simp at hw
    have : (d - 1) / 256 ≤ 15 := by omega
    omega
theorem mid (bs : List Int) (i n : Nat) : (bs.take (i + n)).drop i = (bs.drop i).take n := by
  rw [List.drop_take, Nat.add_sub_cancel_left]
theorem drop_nil_len {T : List Tok} {idx : Nat} (h : T.drop idx = []) (hi : idx ≤ T.length) : idx = T.length := by
  have := congrArg List.length h
  simp at this
  omega
end Go.Proofs.Ytdmemmpkkibckaa.Gx.Fd

