/- Plain: where nothing comes twice all tokens are bytes; a text of one byte has few tokens. -/
import Derived.Test.YtamhlammhhlibaaLaw9
import Derived.Test.YtamhlammhhlibaaR01
namespace Go.Proofs.Ytamhlammhhlibaa

theorem td2 (bs : List Int) (i : Nat) (h : i + 2 ≤ bs.length) : (bs.drop i).take 2 = [bs.getD i 0, bs.getD (i + 1) 0] := by
  apply List.ext_getElem
  · simp; omega
  · intro j h1 h2
    simp at h2
    obtain rfl | rfl : j = 0 ∨ j = 1 := by omega
    · simp [List.getElem?_eq_getElem (show i < bs.length by omega)]
    · simp [List.getElem?_eq_getElem (show i + 1 < bs.length by omega)]
theorem td3 (bs : List Int) (i : Nat) (h : i + 3 ≤ bs.length) : (bs.drop i).take 3 = [bs.getD i 0, bs.getD (i + 1) 0, bs.getD (i + 2) 0] := by
  apply List.ext_getElem
  · simp; omega
  · intro j h1 h2
    simp at h2
    obtain rfl | rfl | rfl : j = 0 ∨ j = 1 ∨ j = 2 := by omega
    · simp [List.getElem?_eq_getElem (show i < bs.length by omega)]
    · simp [List.getElem?_eq_getElem (show i + 1 < bs.length by omega)]
    · simp [List.getElem?_eq_getElem (show i + 2 < bs.length by omega)]
/-- The mn bytes from i on. -/
def piece (bs : List Int) (i m : Nat) : List Int := (bs.drop i).take m
theorem piece_of_key {bs : List Int} {m i k : Nat} (hm : m = 2 ∨ m = 3) (hi : i + m ≤ bs.length) (hk : k + m ≤ bs.length) (h : keyAt bs (m : Int) k = keyAt bs (m : Int) i) : piece bs i m = piece bs k m := by
  unfold piece
  simp only [keyAt, List.cons.injEq, and_true] at h
  obtain ⟨h0, h1, h2⟩ := h
  rcases hm with rfl | rfl
  · rw [td2 _ _ hi, td2 _ _ hk, h0, h1]
  · have h2' : bs.getD (k + 2) 0 = bs.getD (i + 2) 0 := by simpa using h2
    rw [td3 _ _ hi, td3 _ _ hk, h0, h1, h2']

theorem lastK_some (bs : List Int) (mn : Int) (ks : List Int) (p : Nat) (h : 0 < lastK bs mn ks p) : lastK bs mn ks p - 1 < p ∧ ((lastK bs mn ks p - 1 : Nat) : Int) + mn ≤ bs.length ∧ keyAt bs mn (lastK bs mn ks p - 1) = ks := by
  induction p with
  | zero => simp [lastK] at h
  | succ p ih =>
    rw [lastK] at h ⊢
    split at h
    · rename_i hc
      rw [if_pos hc]
      exact ⟨by omega, by simpa using hc.1, by simpa using hc.2⟩
    · rename_i hc
      rw [if_neg hc]
      have := ih h
      exact ⟨by omega, this.2⟩

/-- Nothing comes twice within the window, below place p. -/
def NoTwice (bs : List Int) (m : Nat) (win : Int) (p : Nat) : Prop := ∀ i, i < p → ∀ k, k < i → (i : Int) - k ≤ win → piece bs i m ≠ piece bs k m

theorem at_nothing {bs : List Int} {m : Nat} {mx win ch : Int} (hm : m = 2 ∨ m = 3) (i : Nat) (h : ch ≤ 0 ∨ ∀ k, k < i → i + m ≤ bs.length → (i : Int) - k ≤ win → piece bs i m ≠ piece bs k m) : atSpec bs m mx win ch i = (0, 0) := by
  unfold atSpec
  split
  · rename_i hv
    rw [atLoop, if_neg]
    intro hc
    rcases h with h | h
    · have := hc.1
      simp at this
      omega
    · obtain ⟨h1, h2, h3⟩ := lastK_some _ _ _ _ hc.2.1
      refine h _ h1 (by omega) (by omega) ?_
      exact piece_of_key hm (by omega) (by omega) h3
  · rfl

theorem find_nothing (bs : List Int) (mn mx win ch : Int) (lz : Bool) (h : ∀ i, i < bs.length → atSpec bs mn mx win ch i = (0, 0)) : findSpec bs mn mx win ch lz = bs.map fun x => ⟨x, 0, 0⟩ := by
  have key : ∀ f i, bs.length ≤ i + f → findLoop bs mn mx win ch lz f i = (bs.drop i).map fun x => (⟨x, 0, 0⟩ : Tok) := by
    intro f
    induction f with
    | zero => intro i hi; rw [List.drop_eq_nil_of_le (by omega)]; rfl
    | succ f ih =>
      intro i hi
      rw [findLoop]
      by_cases hlt : i < bs.length
      · have hw : waits bs mn mx win ch lz i = true := by simp [waits, h i hlt]
        rw [if_pos hlt, if_pos hw, ih (i + 1) (by omega), List.drop_eq_getElem_cons hlt, List.map_cons]
        congr 2
        simp [List.getElem?_eq_getElem hlt]
      · rw [if_neg hlt, List.drop_eq_nil_of_le (by omega)]; rfl
  have := key bs.length 0 (by omega)
  simpa [findSpec] using this
theorem find_all_bytes {bs : List Int} {m : Nat} {mx win ch : Int} {lz : Bool} (hm : m = 2 ∨ m = 3) (h : ch ≤ 0 ∨ NoTwice bs m win (bs.length + 1 - m)) : findSpec bs m mx win ch lz = bs.map fun x => ⟨x, 0, 0⟩ := by
  refine find_nothing _ _ _ _ _ _ fun i hi => at_nothing hm i ?_
  rcases h with h | h
  · exact .inl h
  · exact .inr fun k hk hv hd => h i (by omega) k hk hd
end Go.Proofs.Ytamhlammhhlibaa
