/- Plain: the tokens that are found tell the text. -/
import Derived.Test.YtamhlammhhlibaaLaw9b
import Derived.Test.YtamhlammhhlibaaToken2
namespace Go.Proofs.Ytamhlammhhlibaa

theorem same_ge {bs : List Int} {mn mx : Int} {k i : Nat} (hm : mn = 2 ∨ mn = 3) (hi : (i : Int) + mn ≤ bs.length) (hx : mn ≤ mx) (hk : keyAt bs mn k = keyAt bs mn i) : mn ≤ same bs k i mx := by
  have h1 := (key_iff hm hi).1 hk
  have h2 := (same_spec bs k i mn).1
  have h3 := (same_spec bs k i mx).2
  by_cases h : mn ≤ (same bs k i mx : Int)
  · exact h
  · exact absurd ⟨by omega, (h2 _ (by omega)).2⟩ h3
/-- What may be found at a place. -/
def Best (bs : List Int) (mn mx win : Int) (i : Nat) (b : Nat × Nat) : Prop :=
  b = (0, 0) ∨ (1 ≤ b.1 ∧ b.1 ≤ i ∧ (b.1 : Int) ≤ win ∧ mn ≤ b.2 ∧ (b.2 : Int) ≤ mx ∧ ∀ j, j < b.2 → i + j < bs.length ∧ bs.getD (i - b.1 + j) 0 = bs.getD (i + j) 0)
theorem atLoop_best {bs : List Int} {mn mx win ch : Int} {i : Nat} (hm : mn = 2 ∨ mn = 3) (hi : (i : Int) + mn ≤ bs.length) (hx : mn ≤ mx) (f : Nat) : ∀ (frm cnt : Nat) (best : Nat × Nat), Best bs mn mx win i best →
    (0 < frm → frm - 1 < i ∧ keyAt bs mn (frm - 1) = keyAt bs mn i) → Best bs mn mx win i (atLoop bs mn mx win ch i f frm cnt best) := by
  induction f with
  | zero => intro _ _ _ hb _; exact hb
  | succ f ih =>
    intro frm cnt best hb hf
    rw [atLoop]
    split
    · rename_i hc
      obtain ⟨hf1, hf2⟩ := hf hc.2.1
      have hnb : Best bs mn mx win i (if best.2 < same bs (frm - 1) i mx then (i - (frm - 1), same bs (frm - 1) i mx) else best) := by
        split
        · refine .inr ⟨by simp only; omega, by simp only; omega, by simp only; omega, same_ge hm hi hx hf2, same_le_mx _ _ _ _ (by omega), fun j hj => ?_⟩
          have := (same_spec bs (frm - 1) i mx).1 j hj
          simp only
          rw [show i - (i - (frm - 1)) + j = frm - 1 + j by omega]
          exact this.2
        · exact hb
      generalize (if best.2 < same bs (frm - 1) i mx then (i - (frm - 1), same bs (frm - 1) i mx) else best) = nb at hnb ⊢
      split
      · exact hnb
      · refine ih _ _ _ hnb fun hp => ?_
        unfold prevF at hp ⊢
        split at hp
        · rename_i hq
          rw [if_pos hq] 
          obtain ⟨a1, a2, a3⟩ := lastK_some _ _ _ _ hp
          exact ⟨by omega, a3.trans hf2⟩
        · exact absurd hp (by omega)
    · exact hb
theorem at_best {bs : List Int} {mn mx win ch : Int} (hm : mn = 2 ∨ mn = 3) (hx : mn ≤ mx) (i : Nat) : Best bs mn mx win i (atSpec bs mn mx win ch i) := by
  unfold atSpec
  split
  · rename_i hi
    refine atLoop_best hm hi hx _ _ _ _ (.inl rfl) fun hp => ?_
    obtain ⟨a1, a2, a3⟩ := lastK_some _ _ _ _ hp
    exact ⟨a1, a3⟩
  · exact .inl rfl

theorem take_snoc (bs : List Int) (i : Nat) (h : i < bs.length) : bs.take i ++ [bs.getD i 0] = bs.take (i + 1) := by
  rw [List.take_add_one]
  simp [List.getElem?_eq_getElem h]
theorem tells_text {bs : List Int} {d : Nat} (hd : 1 ≤ d) (m : Nat) : ∀ i, d ≤ i → (∀ j, j < m → i + j < bs.length ∧ bs.getD (i - d + j) 0 = bs.getD (i + j) 0) → tells m d (bs.take i) = bs.take (i + m) := by
  induction m with
  | zero => intro i _ _; simp [tells]
  | succ m ih =>
    intro i hi h
    obtain ⟨h0, h1⟩ := h 0 (by omega)
    simp only [Nat.add_zero] at h0 h1
    have hl : (bs.take i).length = i := by simp; omega
    rw [tells, hl, if_neg (by omega)]
    have e : (bs.take i).getD (i - d) 0 = bs.getD i 0 := by
      rw [← h1]
      simp only [List.getD_eq_getElem?_getD]
      rw [List.getElem?_take_of_lt (by omega)]
    rw [e, take_snoc _ _ h0, ih (i + 1) (by omega), show i + 1 + m = i + (m + 1) by omega]
    intro j hj
    have := h (j + 1) (by omega)
    rw [show i + 1 - d + j = i - d + (j + 1) by omega, show i + 1 + j = i + (j + 1) by omega]
    exact this

def FitT (mn mx win : Int) (t : Tok) : Prop := (t.len = 0 ∧ t.dist = 0) ∨ (t.len ≠ 0 ∧ mn ≤ t.len ∧ t.len ≤ mx ∧ 1 ≤ t.dist ∧ t.dist ≤ win)
theorem find_tells {bs : List Int} {mn mx win ch : Int} {lz : Bool} (hm : mn = 2 ∨ mn = 3) (hx : mn ≤ mx) (f : Nat) : ∀ i, i ≤ bs.length → bs.length ≤ i + f →
    tellT (findLoop bs mn mx win ch lz f i) (bs.take i) = bs ∧ GoodT win bs.length (findLoop bs mn mx win ch lz f i) (bs.take i) ∧ (∀ t ∈ findLoop bs mn mx win ch lz f i, FitT mn mx win t) ∧
      sizeT (findLoop bs mn mx win ch lz f i) = bs.length - i ∧ (findLoop bs mn mx win ch lz f i).length + i ≤ bs.length := by
  induction f with
  | zero =>
    intro i h1 h2
    have : i = bs.length := by omega
    subst this
    simp [findLoop, tellT, GoodT, sizeT]
  | succ f ih =>
    intro i h1 h2
    rw [findLoop]
    by_cases hlt : i < bs.length
    · rw [if_pos hlt]
      by_cases hw : waits bs mn mx win ch lz i = true
      · rw [if_pos hw]
        obtain ⟨a1, a2, a3, a4, a5⟩ := ih (i + 1) (by omega) (by omega)
        have hl : (bs.take i).length = i := by simp; omega
        refine ⟨?_, ?_, ?_, ?_, ?_⟩
        · rw [tellT, if_pos rfl, take_snoc _ _ hlt]; exact a1
        · rw [GoodT, if_pos rfl, if_pos rfl, take_snoc _ _ hlt, hl]; exact ⟨hlt, a2⟩
        · intro t ht
          rcases List.mem_cons.1 ht with rfl | ht
          · exact .inl ⟨rfl, rfl⟩
          · exact a3 t ht
        · rw [sizeT, a4, tokN, if_pos rfl]; omega
        · rw [List.length_cons]; omega
      · rw [if_neg hw]
        have hne : atSpec bs mn mx win ch i ≠ (0, 0) := by
          intro e
          exact hw (by simp [waits, e])
        rcases at_best (bs := bs) (mx := mx) (win := win) (ch := ch) hm hx i with e | hB
        · exact absurd e hne
        · generalize atSpec bs mn mx win ch i = q at hB
          obtain ⟨d, m⟩ := q
          simp only at hB ⊢
          obtain ⟨b1, b2, b3, b4, b5, b6⟩ := hB
          have hend := (b6 (m - 1) (by omega)).1
          obtain ⟨a1, a2, a3, a4, a5⟩ := ih (i + m) (by omega) (by omega)
          have hl : (bs.take i).length = i := by simp; omega
          have hm0 : ¬ (m : Int) = 0 := by omega
          have ht := tells_text (bs := bs) b1 m i b2 b6
          refine ⟨?_, ?_, ?_, ?_, ?_⟩
          · rw [tellT, if_neg hm0]; simp only [Int.toNat_natCast]; rw [ht]; exact a1
          · rw [GoodT, if_neg hm0, if_neg hm0]; simp only [Int.toNat_natCast]; rw [ht, hl]; exact ⟨⟨by omega, by omega, b3, by omega, by omega⟩, a2⟩
          · intro t ht
            rcases List.mem_cons.1 ht with rfl | ht
            · exact .inr ⟨hm0, b4, b5, by simp only; omega, b3⟩
            · exact a3 t ht
          · rw [sizeT, a4, tokN, if_neg hm0]; simp only; omega
          · rw [List.length_cons]; omega
    · rw [if_neg hlt]
      have : i = bs.length := by omega
      subst this
      simp [tellT, GoodT, sizeT]
end Go.Proofs.Ytamhlammhhlibaa
