/- What is encoded is told as it was: plain lists. No condition. -/
import Derived.Test.YtdmemmpkkibckaaMcE
import Derived.Test.YtdmemmpkkibckaaFndP
namespace Go.Proofs.Ytdmemmpkkibckaa.Gx
open Go Fd
set_option linter.unusedVariables false
set_option linter.unusedSimpArgs false
/-- bytes fed one behind the other, each to a machine that is not full, each taken -/
def runF (f size : Int) : List Int → Int → Int → Int → List Int → Option (Int × Int × Int × List Int)
  | [], S, V, N, bs => some (S, V, N, bs)
  | c :: cs, S, V, N, bs => if fullB S size bs = true then none else if (feedR f size S V N bs c).e = 0 then runF f size cs (feedR f size S V N bs c).S (feedR f size S V N bs c).V (feedR f size S V N bs c).N (feedR f size S V N bs c).bs else none
theorem run_app (f size : Int) : ∀ (a b : List Int) (S V N : Int) (bs : List Int) (S' V' N' : Int) (bs' : List Int), runF f size a S V N bs = some (S', V', N', bs') → runF f size (a ++ b) S V N bs = runF f size b S' V' N' bs'
  | [], b, S, V, N, bs, S', V', N', bs', h => by
    simp only [runF, Option.some.injEq, Prod.mk.injEq] at h
    obtain ⟨rfl, rfl, rfl, rfl⟩ := h
    rfl
  | c :: a, b, S, V, N, bs, S', V', N', bs', h => by
    rw [List.cons_append, runF]
    rw [runF] at h
    by_cases h1 : fullB S size bs = true
    · rw [if_pos h1] at h; cases h
    · rw [if_neg h1] at h ⊢
      by_cases h2 : (feedR f size S V N bs c).e = 0
      · rw [if_pos h2] at h ⊢
        exact run_app f size a b _ _ _ _ _ _ _ _ h
      · rw [if_neg h2] at h; cases h
theorem full_not {S size : Int} {bs : List Int} (h : S ≠ 0 ∨ (bs.length : Int) < size) : fullB S size bs = false := by
  unfold fullB
  rcases h with h | h
  · rw [beq_eq_false_iff_ne.2 h]; rfl
  · rw [beq_eq_false_iff_ne.2 (show (bs.length : Int) ≠ size by omega), Bool.and_false]
variable {f size V N : Int} {bs cs : List Int}
theorem st_lit {c : Int} (hl : (bs.length : Int) < size) (hc : c ≠ 144) : runF f size (c :: cs) 0 V N bs = runF f size cs 0 V N (bs ++ [c]) := by
  have e : feedR f size 0 V N bs c = ⟨0, 0, V, N, bs ++ [c]⟩ := by
    simp only [feedR, full_not (.inr hl), litR, hc, if_true, if_false, show ¬ (bs.length : Int) = size by omega, Bool.false_eq_true]
  rw [runF, full_not (.inr hl), e]; simp
theorem st_0 (hl : (bs.length : Int) < size) : runF f size (144 :: cs) 0 V N bs = runF f size cs 1 V N bs := by
  have e : feedR f size 0 V N bs 144 = ⟨0, 1, V, N, bs⟩ := by
    simp only [feedR, full_not (.inr hl), if_true, if_false, Bool.false_eq_true]
  rw [runF, full_not (.inr hl), e]; simp
theorem st_esc (hl : (bs.length : Int) < size) : runF f size (0 :: cs) 1 V N bs = runF f size cs 0 V N (bs ++ [144]) := by
  have e : feedR f size 1 V N bs 0 = ⟨0, 0, V, N, bs ++ [144]⟩ := by
    simp only [feedR, full_not (.inr hl), litR, if_true, if_false, show ¬ (bs.length : Int) = size by omega, Bool.false_eq_true, show ¬ (1 : Int) = 0 by omega]
  rw [runF, full_not (.inl (by omega)), e]; simp
theorem st_1 {v : Int} (hl : (bs.length : Int) < size) (hv : v ≠ 0) : runF f size (v :: cs) 1 V N bs = runF f size cs (if v % lowR f = lowR f - 1 then 2 else 3) v (v % lowR f) bs := by
  have e : feedR f size 1 V N bs v = ⟨0, if v % lowR f = lowR f - 1 then 2 else 3, v, v % lowR f, bs⟩ := by
    simp only [feedR, full_not (.inr hl), if_true, if_false, Bool.false_eq_true, show ¬ (1 : Int) = 0 by omega, hv]
  rw [runF, full_not (.inl (by omega)), e]; simp
theorem st_2 {c : Int} (hl : (bs.length : Int) < size) : runF f size (c :: cs) 2 V N bs = runF f size cs 3 V (N + c) bs := by
  have e : feedR f size 2 V N bs c = ⟨0, 3, V, N + c, bs⟩ := by
    simp only [feedR, full_not (.inr hl), if_true, if_false, Bool.false_eq_true, show ¬ (2 : Int) = 0 by omega, show ¬ (2 : Int) = 1 by omega]
  rw [runF, full_not (.inl (by omega)), e]; simp
theorem st_3 {c : Int} {bs' : List Int} (hl : (bs.length : Int) < size) (hc : copyR size bs (256 * (V / lowR f) + c + 1) (N + 3) = (0, bs')) : runF f size (c :: cs) 3 V N bs = runF f size cs 0 V N bs' := by
  have e : feedR f size 3 V N bs c = ⟨0, 0, V, N, bs'⟩ := by
    simp only [feedR, full_not (.inr hl), if_true, if_false, Bool.false_eq_true, show ¬ (3 : Int) = 0 by omega, show ¬ (3 : Int) = 1 by omega, show ¬ (3 : Int) = 2 by omega, hc]
  rw [runF, full_not (.inl (by omega)), e]; simp
theorem plain_run : ∀ (ps : List Int) (bs : List Int), ((bs.length + ps.length : Nat) : Int) ≤ size → runF f size (plainS ps) 0 V N bs = some (0, V, N, bs ++ ps)
  | [], bs, h => by simp [plainS, runF]
  | p :: ps, bs, h => by
    have hl : (bs.length : Int) < size := by rw [List.length_cons] at h; omega
    have hn : (((bs ++ [p]).length + ps.length : Nat) : Int) ≤ size := by simp at h ⊢; omega
    have ih := plain_run ps (bs ++ [p]) hn
    show runF f size (plainB p ++ plainS ps) 0 V N bs = _
    by_cases c : p = 144
    · subst c
      show runF f size (144 :: 0 :: plainS ps) 0 V N bs = _
      rw [st_0 hl, st_esc hl, ih]; simp
    · rw [plainB, if_neg c]
      show runF f size (p :: plainS ps) 0 V N bs = _
      rw [st_lit hl c, ih]; simp
theorem copy_run {low d n : Nat} (hf : FL f low) (hv : vOf low d n ≠ 0) (hn : 3 ≤ n) (hd : 1 ≤ d) (hw : (d : Int) ≤ 256 * 2 ^ f.toNat) (hl : ((bs.length + n : Nat) : Int) ≤ size) :
    ∃ V' N', runF f size (encC low d n) 0 V N bs = some (0, V', N', grow d n bs) := by
  have hl' : (bs.length : Int) < size := by omega
  have hd2 : d ≤ 4096 := by
    rcases hf with ⟨rfl, rfl⟩ | ⟨rfl, rfl⟩ | ⟨rfl, rfl⟩ | ⟨rfl, rfl⟩ <;> simp at hw <;> omega
  have hlow : lowR f = low ∧ 16 ≤ low := by
    rcases hf with ⟨rfl, rfl⟩ | ⟨rfl, rfl⟩ | ⟨rfl, rfl⟩ | ⟨rfl, rfl⟩ <;> exact ⟨rfl, by omega⟩
  have hm : vOf low d n % low = min (n - 3) (low - 1) := by
    unfold vOf
    rw [Nat.add_mul_mod_self_right, Nat.mod_eq_of_lt (by omega)]
  have hq : vOf low d n / low = (d - 1) / 256 := by
    unfold vOf
    rw [Nat.add_mul_div_right _ _ (by omega), Nat.div_eq_of_lt (by omega), Nat.zero_add]
  have hmI : ((vOf low d n : Nat) : Int) % lowR f = ((min (n - 3) (low - 1) : Nat) : Int) := by rw [hlow.1, ← hm]; rfl
  have hqI : ((vOf low d n : Nat) : Int) / lowR f = (((d - 1) / 256 : Nat) : Int) := by rw [hlow.1, ← hq]; rfl
  have hcp : copyR size bs (d : Int) (n : Int) = (0, grow d n bs) := by
    simp only [copyR, if_neg (show ¬ (d : Int) < 1 by omega), if_neg (show ¬ (n : Int) < 0 by omega), if_neg (show ¬ (d : Int) > 65536 by omega), if_neg (show ¬ (n : Int) > size - bs.length by omega), Int.toNat_natCast]
  refine ⟨(vOf low d n : Nat), ((n - 3 : Nat) : Int), ?_⟩
  have e1 : 256 * (((vOf low d n : Nat) : Int) / lowR f) + (((d - 1) % 256 : Nat) : Int) + 1 = (d : Int) := by rw [hqI]; omega
  have e2 : ((n - 3 : Nat) : Int) + 3 = (n : Int) := by omega
  unfold encC
  by_cases hfull : low - 1 ≤ n - 3
  · rw [if_pos hfull]
    show runF f size (144 :: ((vOf low d n : Nat) : Int) :: ((n - 3 - (low - 1) : Nat) : Int) :: (((d - 1) % 256 : Nat) : Int) :: []) 0 V N bs = _
    rw [st_0 hl', st_1 hl' (by omega), hmI, if_pos (by rw [hlow.1]; omega), st_2 hl', show ((min (n - 3) (low - 1) : Nat) : Int) + ((n - 3 - (low - 1) : Nat) : Int) = ((n - 3 : Nat) : Int) by omega, st_3 hl' (by rw [e1, e2]; exact hcp)]
    rfl
  · rw [if_neg hfull]
    show runF f size (144 :: ((vOf low d n : Nat) : Int) :: (((d - 1) % 256 : Nat) : Int) :: []) 0 V N bs = _
    rw [st_0 hl', st_1 hl' (by omega), hmI, if_neg (by rw [hlow.1]; omega), show ((min (n - 3) (low - 1) : Nat) : Int) = ((n - 3 : Nat) : Int) by omega, st_3 hl' (by rw [e1, e2]; exact hcp)]
    rfl
theorem take_next (bs : List Int) (i : Nat) (h : i < bs.length) : bs.take i ++ [bs.getD i 0] = bs.take (i + 1) := by
  rw [List.take_add_one, List.getD_eq_getElem?_getD, List.getElem?_eq_getElem h]; rfl
theorem grow_take (bs : List Int) {d : Nat} (hd : 1 ≤ d) : ∀ (n i : Nat), d ≤ i → i + n ≤ bs.length → (∀ j, j < n → bs.getD (i - d + j) 0 = bs.getD (i + j) 0) → grow d n (bs.take i) = bs.take (i + n)
  | 0, i, h1, h2, h3 => rfl
  | n + 1, i, h1, h2, h3 => by
    have hn : nextB d (bs.take i) = bs.getD i 0 := by
      have hl : (bs.take i).length = i := by simp; omega
      rw [nextB, hl, if_pos h1, ← Nat.add_zero i, ← h3 0 (by omega)]
      simp only [List.getD_eq_getElem?_getD, Nat.add_zero]
      rw [List.getElem?_take_of_lt (by omega)]
    rw [grow, hn, take_next _ _ (by omega), grow_take bs hd n (i + 1) (by omega) (by omega) (fun j hj => by
      have := h3 (j + 1) (by omega)
      rw [show i + 1 - d + j = i - d + (j + 1) by omega, show i + 1 + j = i + (j + 1) by omega]; exact this), show i + 1 + n = i + (n + 1) by omega]
theorem take_take_add (bs : List Int) (i n : Nat) : bs.take i ++ (bs.drop i).take n = bs.take (i + n) := by
  rw [List.take_add]
theorem enc_run {low : Nat} (hf : FL f low) (bs : List Int) : ∀ (ts : List Tok) (i : Nat) (V N : Int), Til bs 3 ((low - 1 + 258 : Nat) : Int) (256 * 2 ^ f.toNat) ts i → ∃ V' N', runF f bs.length (encL low bs ts i) 0 V N (bs.take i) = some (0, V', N', bs)
  | [], i, V, N, h => by
    have : i = bs.length := h
    exact ⟨V, N, by rw [encL, runF, this, List.take_length]⟩
  | t :: ts, i, V, N, h => by
    have hwin := hf
    obtain ⟨hi, hcase⟩ := h
    have plainOne : ∀ st, i + st ≤ bs.length → runF f bs.length (plainS ((bs.drop i).take st)) 0 V N (bs.take i) = some (0, V, N, bs.take (i + st)) := fun st hst => by
      rw [plain_run _ _ (by simp; omega), take_take_add]
    rcases hcase with ⟨e0, hT3⟩ | ⟨d, m, e0, hm3, hmx, hd1, hdi, hdw, him, hsame, hT3⟩
    · obtain ⟨V', N', e⟩ := enc_run hf bs ts (i + 1) V N hT3
      refine ⟨V', N', ?_⟩
      rw [encL, encT]
      unfold Fd.stepT
      rw [e0]
      simp only [if_true]
      rw [run_app _ _ _ _ _ _ _ _ _ _ _ _ (plainOne 1 (by omega)), e]
    · by_cases hv : vOf low d m = 0
      · obtain ⟨V', N', e⟩ := enc_run hf bs ts (i + m) V N hT3
        refine ⟨V', N', ?_⟩
        rw [encL, encT]
        unfold Fd.stepT
        rw [e0]
        simp only [Int.toNat_natCast]
        rw [if_neg (by omega), if_pos hv, if_neg (by omega), run_app _ _ _ _ _ _ _ _ _ _ _ _ (plainOne m him), e]
      · obtain ⟨V1, N1, e1⟩ := copy_run (f := f) (size := bs.length) (V := V) (N := N) (bs := bs.take i) hf hv (by omega) hd1 hdw (by simp; omega)
        rw [grow_take bs hd1 m i hdi him hsame] at e1
        obtain ⟨V', N', e⟩ := enc_run hf bs ts (i + m) V1 N1 hT3
        refine ⟨V', N', ?_⟩
        rw [encL, encT]
        unfold Fd.stepT
        rw [e0]
        simp only [Int.toNat_natCast]
        rw [if_neg (by omega), if_neg hv, if_neg (by omega), run_app _ _ _ _ _ _ _ _ _ _ _ _ e1, e]
end Go.Proofs.Ytdmemmpkkibckaa.Gx

