/- The program's and the document's Encode, as printed, in plain words. -/
import Derived.Test.YtplkdjbcdeakaaaP01
import Derived.Test.YtplkdjbcdeakaaaU13
import Derived.Test.YtplkdjbcdeakaaaGFind
import Derived.Test.YtplkdjbcdeakaaaGLives13
import Derived.Test.YtplkdjbcdeakaaaQx1
import Derived.Test.YtplkdjbcdeakaaaQx2
import Derived.Test.YtplkdjbcdeakaaaQx4
namespace Go.Proofs.Ytplkdjbcdeakaaa.Q
open Go.RowKit Go.Proofs.YtplkdjbcdeakaaaW.PrintWords Go.Proofs.YtplkdjbcdeakaaaW.PrintLast Go.Proofs.YtplkdjbcdeakaaaW.PrintMore
set_option linter.unusedVariables false

theorem plain_f (out bs : List Int) (hn : bs.length ≤ 1000000) (ho : out.length ≤ 1000000) : Ev (fun k => dle_plain.f k out bs) (out ++ plainS bs) := by
  refine Ev.congr (fun k => by rw [dle_plain.f]) ?_
  have hl : ∀ i, (plainS (bs.take i)).length ≤ 2000000 := fun i => by have := plainS_len (bs.take i); rw [List.length_take] at this; omega
  have key := ev_up (n := bs.length) (r := out ++ plainS bs) (fun k i => dle_plain.l0 k (out ++ plainS (bs.take i)) bs (bs.length : Int) (i : Int)) ?_ ?_ 0 (by omega)
  · simpa [plainS] using key
  · refine evS (fun k => by rw [dle_plain.l0, if_neg (by omega)]) ?_
    exact evE evR (by rw [List.take_length])
  · intro i hi ih
    have hli := hl i
    rw [← wrap_inc (by omega), take_snoc' bs i 0 hi, plainS_snoc, ← List.append_assoc] at ih
    refine evS (fun k => by rw [dle_plain.l0, if_pos (by omega), if_pos (by omega), if_pos (by omega), if_pos (by rw [List.length_append]; omega)]) ?_
    refine evC rfl ?_
    rw [rd_nat]
    unfold plainB at ih
    by_cases h144 : bs.getD i 0 = 144
    · rw [if_pos h144] at ih
      refine evP h144 (evP (by rw [List.length_append, List.length_append, List.length_singleton]; omega) ?_)
      rw [List.append_assoc]
      exact ih
    · rw [if_neg h144] at ih
      exact evN h144 ih
theorem two_f : ∀ n, n ≤ 8 → duffelref13_two.f 20 ((n : Nat) : Int) = some ((2 ^ n : Nat) : Int) := by decide +kernel
theorem two_ev (n : Nat) (h : n ≤ 8) : Ev (fun k => duffelref13_two.f k (n : Int)) ((2 ^ n : Nat) : Int) := evK (fun k => duffelref13_two.mono _ k) 20 (two_f n h)
/-- The factor, and how many lengths V tells. -/
def FL (f : Int) (low : Nat) : Prop := (f = 1 ∧ low = 128) ∨ (f = 2 ∧ low = 64) ∨ (f = 3 ∧ low = 32) ∨ (f = 4 ∧ low = 16)
theorem FL_get {f : Int} (h1 : 1 ≤ f) (h4 : f ≤ 4) : ∃ low, FL f low := by
  rcases (show f = 1 ∨ f = 2 ∨ f = 3 ∨ f = 4 by omega) with h | h | h | h
  · exact ⟨128, .inl ⟨h, rfl⟩⟩
  · exact ⟨64, .inr (.inl ⟨h, rfl⟩)⟩
  · exact ⟨32, .inr (.inr (.inl ⟨h, rfl⟩))⟩
  · exact ⟨16, .inr (.inr (.inr ⟨h, rfl⟩))⟩
theorem w64 {x : Int} (h1 : -9223372036854775808 ≤ x) (h2 : x ≤ 9223372036854775807) : wrap64 x = x := by unfold wrap64; omega
theorem shl64 {x y : Int} (h0 : 0 ≤ x) (h1 : x ≤ 1048576) (hy : 0 ≤ y) (hy8 : y ≤ 10) : shl .i64 x y = x * 2 ^ y.toNat := by
  unfold shl
  have hb : IntKind.i64.bits = 64 := rfl
  rw [hb, Nat.min_eq_left (by omega)]
  have h2 : (2 : Int) ^ y.toNat ≤ 1024 := by
    have hd : ∀ n, n ≤ 10 → (2 : Int) ^ n ≤ 1024 := by decide
    exact hd _ (by omega)
  have h3 : (0 : Int) ≤ 2 ^ y.toNat := by
    have hd : ∀ n, n ≤ 10 → (0 : Int) ≤ 2 ^ n := by decide
    exact hd _ (by omega)
  have h4 : x * 2 ^ y.toNat ≤ 1048576 * 1024 := Int.mul_le_mul h1 h2 h3 (by omega)
  have h5 : 0 ≤ x * 2 ^ y.toNat := Int.mul_nonneg h0 h3
  exact IntWalk.i64_in _ ⟨by omega, by omega⟩
theorem FL_pow {f : Int} {low : Nat} (h : FL f low) : (2 : Int) ^ (8 - f).toNat = low ∧ 16 ≤ low ∧ low ≤ 128 ∧ 1 ≤ f ∧ f ≤ 4 := by
  rcases h with ⟨rfl, rfl⟩ | ⟨rfl, rfl⟩ | ⟨rfl, rfl⟩ | ⟨rfl, rfl⟩ <;> decide
theorem mask_f {f : Int} {low : Nat} (h : FL f low) : dle_mask.f f = some ((low - 1 : Nat) : Int) := by
  obtain ⟨hp, h1, h2, h3, h4⟩ := FL_pow h
  unfold dle_mask.f
  rw [w64 (by omega) (by omega), if_pos (by omega), shl64 (by omega) (by omega) (by omega) (by omega), hp, w64 (by omega) (by omega)]
  congr 1
  omega
theorem vOf_le {low d n : Nat} {f : Int} (h : FL f low) (hd : 1 ≤ d) (hw : (d : Int) ≤ 256 * 2 ^ f.toNat) : vOf low d n ≤ 255 := by
  unfold vOf
  rcases h with ⟨rfl, rfl⟩ | ⟨rfl, rfl⟩ | ⟨rfl, rfl⟩ | ⟨rfl, rfl⟩
  all_goals
    simp at hw
    have : (d - 1) / 256 ≤ 15 := by omega
    omega
theorem tokS_at {T : List Tok} {idx : Nat} {t : Tok} {l : List Tok} (h : T.drop idx = t :: l) : idx < T.length ∧ rd_T67 (T.map tokS) (idx : Int) = tokS t ∧ T.drop (idx + 1) = l := by
  have hlt : idx < T.length := by
    refine Decidable.byContradiction fun hc => ?_
    rw [List.drop_eq_nil_of_le (by omega)] at h
    cases h
  rw [List.drop_eq_getElem_cons hlt] at h
  injection h with h1 h2
  refine ⟨hlt, ?_, h2⟩
  show (T.map tokS).getD idx _ = _
  simp [List.getD_eq_getElem?_getD, hlt, h1]
theorem drop_nil_len {T : List Tok} {idx : Nat} (h : T.drop idx = []) (hi : idx ≤ T.length) : idx = T.length := by
  have := congrArg List.length h
  simp at this
  omega
theorem mid (bs : List Int) (i n : Nat) : (bs.take (i + n)).drop i = (bs.drop i).take n := by
  rw [List.drop_take, Nat.add_sub_cancel_left]
theorem mx1 {x : Int} (h : x = 0) : mx x 1 = 1 := by unfold mx; rw [if_pos (by omega)]
theorem mxn {x : Int} (h : 1 ≤ x) : mx x 1 = x := by unfold mx; rw [if_neg (by omega)]
theorem mnv (a b : Nat) : mn (a : Int) (b : Int) = ((min a b : Nat) : Int) := by unfold mn; split <;> omega
theorem enc_f {f : Int} {low : Nat} (hf : FL f low) (bs : List Int) (T : List Tok) (hb : bs.length ≤ 100000) (hT : T.length ≤ 100000) : ∀ (l : List Tok) (i idx : Nat) (acc : List Int), T.drop idx = l → idx ≤ T.length → Til bs 3 (low - 1 + 258 : Nat) (256 * 2 ^ f.toNat) l i → acc.length ≤ 2 * i → i ≤ bs.length →
    Ev (fun k => dle_Encode.l0 k bs f ((low - 1 : Nat) : Int) acc (i : Int) (T.map tokS) ((T.map tokS).length : Int) (idx : Int)) (acc ++ encL low bs l i, 0) := by
  obtain ⟨hp, hl16, hl128, hf1, hf4⟩ := FL_pow hf
  intro l
  induction l with
  | nil =>
    intro i idx acc hd hi _ _ _
    have := drop_nil_len hd hi
    refine evS (fun k => by rw [dle_Encode.l0, if_neg (by rw [List.length_map]; omega)]) ?_
    exact evE evR (by simp [encL])
  | cons t l ih =>
    intro i idx acc hd hidx htil hacc hib
    obtain ⟨hlt, hrd, hdrop⟩ := tokS_at hd
    obtain ⟨hi, hor⟩ := htil
    refine evS (fun k => by rw [dle_Encode.l0, if_pos (by rw [List.length_map]; omega), if_pos (by omega), if_pos (by rw [List.length_map]; omega), if_pos (by rw [w64 (by omega) (by omega)]; omega), hrd]) ?_
    rcases hor with ⟨rfl, htl⟩ | ⟨d, n, rfl, hn3, hnm, hd1, hdi, hdw, hin, _, htl⟩
    · have henc : encT low bs i ⟨bs.getD i 0, 0, 0⟩ = plainS ((bs.drop i).take 1) := by unfold encT; rw [if_pos rfl]
      have hlen := encT_len low bs i ⟨bs.getD i 0, 0, 0⟩ (.inl rfl)
      have hst : stepT ⟨bs.getD i 0, 0, 0⟩ = 1 := rfl
      rw [hst] at hlen
      have ih := ih (i + 1) (idx + 1) (acc ++ encT low bs i ⟨bs.getD i 0, 0, 0⟩) hdrop (by omega) htl (by rw [List.length_append]; omega) (by omega)
      refine evP rfl ?_
      show Ev (fun k => dle_Encode.j1 k bs f _ acc (i : Int) (mx 0 1) _ _ _ _ _ true _ _ _) _
      rw [mx1 rfl]
      refine evS (fun k => by rw [dle_Encode.j1, if_pos rfl, if_pos (by omega), wrap_inc (by omega), if_pos (by omega), if_pos (by omega)]) ?_
      have e1 : (bs.take (((i + 1 : Nat) : Int)).toNat).drop ((i : Int)).toNat = (bs.drop i).take 1 := mid bs i 1
      rw [e1]
      refine evB (plain_f acc _ (by rw [List.length_take]; omega) (by omega)) ?_
      rw [wrap_inc (by omega), ← henc]
      refine evE ih ?_
      rw [encL, hst, List.append_assoc]
    · have hn0 : ¬ ((n : Int) = 0) := by omega
      have hv := vOf_le (n := n) hf hd1 hdw
      have hlen := encT_len low bs i ⟨0, d, n⟩ (.inr hn3)
      have hst : stepT ⟨0, d, n⟩ = n := by unfold stepT; rw [if_neg hn0]; simp
      rw [hst] at hlen
      have ih := ih (i + n) (idx + 1) (acc ++ encT low bs i ⟨0, d, n⟩) hdrop (by omega) htl (by rw [List.length_append]; omega) hin
      have e13 : mx (n : Int) 1 = n := mxn (by omega)
      have e14 : mn (wrap64 ((n : Int) - 3)) ((low - 1 : Nat) : Int) = ((min (n - 3) (low - 1) : Nat) : Int) := by
        rw [w64 (by omega) (by omega), show (n : Int) - 3 = ((n - 3 : Nat) : Int) by omega]
        exact mnv _ _
      have e15 : wrap64 (((min (n - 3) (low - 1) : Nat) : Int) + (shl .i64 ((wrap64 ((d : Int) - 1)) / 256) (wrap64 (8 - f)))) = (vOf low d n : Int) := by
        have hd4 : (d : Int) ≤ 4096 := by
          rcases hf with ⟨rfl, rfl⟩ | ⟨rfl, rfl⟩ | ⟨rfl, rfl⟩ | ⟨rfl, rfl⟩ <;> simp at hdw <;> omega
        rw [w64 (x := (d : Int) - 1) (by omega) (by omega), w64 (x := 8 - f) (by omega) (by omega), shl64 (by omega) (by omega) (by omega) (by omega), hp]
        have e : ((d : Int) - 1) / 256 * (low : Int) = (((d - 1) / 256 * low : Nat) : Int) := by
          rw [Int.natCast_mul, show (d : Int) - 1 = ((d - 1 : Nat) : Int) by omega]
          rfl
        unfold vOf at hv ⊢
        rw [e, w64 (by omega) (by omega)]
        omega
      refine evN (show ¬ ((tokS ⟨0, d, n⟩).f2 = 0) from hn0) ?_
      show Ev (fun k => dle_Encode.j1 k bs f _ acc (i : Int) (mx (n : Int) 1) (mn (wrap64 ((mx (n : Int) 1) - 3)) _) (wrap64 ((mn (wrap64 ((mx (n : Int) 1) - 3)) _) + (shl .i64 ((wrap64 ((d : Int) - 1)) / 256) (wrap64 (8 - f))))) _ _ _ ((wrap64 ((mn (wrap64 ((mx (n : Int) 1) - 3)) _) + (shl .i64 ((wrap64 ((d : Int) - 1)) / 256) (wrap64 (8 - f))))) == 0) _ (d : Int) _) _
      rw [e13, e14, e15]
      clear e13 e14 e15
      have hiw := hide (show wrap64 ((i : Int) + n) = ((i + n : Nat) : Int) by rw [w64 (by omega) (by omega)]; omega)
      by_cases hv0 : vOf low d n = 0
      · have henc : encT low bs i ⟨0, d, n⟩ = plainS ((bs.drop i).take n) := by unfold encT; rw [if_neg hn0, if_pos (by simpa using hv0)]; simp
        refine evS (fun k => by rw [dle_Encode.j1]) ?_
        refine evP (by simp [hv0]) (evP (by omega) ?_)
        rw [hiw.out]
        refine evP (by omega) (evP (by omega) ?_)
        have e1 : (bs.take (((i + n : Nat) : Int)).toNat).drop ((i : Int)).toNat = (bs.drop i).take n := mid bs i n
        rw [e1]
        refine evB (plain_f acc _ (by rw [List.length_take]; omega) (by omega)) ?_
        rw [wrap_inc (by omega), ← henc]
        refine evE ih ?_
        rw [encL, hst, List.append_assoc]
      · have henc : encT low bs i ⟨0, d, n⟩ = encC low d n := by unfold encT; rw [if_neg hn0, if_neg (by simpa using hv0)]; simp
        have ev := hide (show (vOf low d n : Int) % 256 = vOf low d n by omega)
        have ed := hide (show (wrap64 ((d : Int) - 1)) % 256 = (((d - 1) % 256 : Nat) : Int) by rw [w64 (by omega) (by omega)]; omega)
        refine evS (fun k => by rw [dle_Encode.j1]) ?_
        refine evN (by simpa using hv0) ?_
        by_cases hk : low - 1 ≤ n - 3
        · have hmin : min (n - 3) (low - 1) = low - 1 := by omega
          have el := hide (show (wrap64 ((wrap64 ((n : Int) - 3)) - ((low - 1 : Nat) : Int))) % 256 = ((n - 3 - (low - 1) : Nat) : Int) by rw [w64 (x := (n : Int) - 3) (by omega) (by omega), w64 (by omega) (by omega)]; omega)
          refine evP (by rw [hmin]) ?_
          refine evC rfl ?_
          refine evP (by rw [List.length_cons, List.length_cons, List.length_cons, List.length_cons, List.length_nil]; omega) ?_
          rw [ev.out, ed.out, el.out, hiw.out, wrap_inc (by omega)]
          have e4 : encC low d n = [144, (vOf low d n : Int), ((n - 3 - (low - 1) : Nat) : Int), (((d - 1) % 256 : Nat) : Int)] := by unfold encC; rw [if_pos hk]; rfl
          rw [henc, e4] at ih
          refine evE ih ?_
          rw [encL, hst, henc, e4, List.append_assoc]
        · refine evN (by omega) ?_
          refine evC rfl ?_
          refine evP (by rw [List.length_cons, List.length_cons, List.length_cons, List.length_nil]; omega) ?_
          rw [ev.out, ed.out, hiw.out, wrap_inc (by omega)]
          have e4 : encC low d n = [144, (vOf low d n : Int), (((d - 1) % 256 : Nat) : Int)] := by unfold encC; rw [if_neg hk]; rfl
          rw [henc, e4] at ih
          refine evE ih ?_
          rw [encL, hst, henc, e4, List.append_assoc]
/-- The tokens of a text by a factor. -/
def toks (f : Int) (low : Nat) (bs : List Int) : List Tok := findSpec bs 3 ((low - 1 + 258 : Nat) : Int) (256 * 2 ^ f.toNat) 64 true
theorem FL_two {f : Int} {low : Nat} (h : FL f low) : shl .i64 256 f = 256 * 2 ^ f.toNat ∧ shapeOk (256 * 2 ^ f.toNat) 3 ((low - 1 + 258 : Nat) : Int) 64 = true := by
  have hp := FL_pow h
  refine ⟨shl64 (by omega) (by omega) (by omega) (by omega), ?_⟩
  rcases h with ⟨rfl, rfl⟩ | ⟨rfl, rfl⟩ | ⟨rfl, rfl⟩ | ⟨rfl, rfl⟩ <;> rfl
theorem toks_til {f : Int} {low : Nat} (h : FL f low) (bs : List Int) : Til bs 3 ((low - 1 + 258 : Nat) : Int) (256 * 2 ^ f.toNat) (toks f low bs) 0 := by
  have hp := FL_pow h
  exact findSpec_til (.inr rfl) (by omega)
theorem til_len {bs : List Int} {mx win : Int} : ∀ (l : List Tok) (i : Nat), Til bs 3 mx win l i → l.length + i ≤ bs.length := by
  intro l
  induction l with
  | nil => intro i h; have : i = bs.length := h; simp; omega
  | cons t l ih =>
    intro i h
    obtain ⟨hi, ⟨_, h⟩ | ⟨d, n, _, hn, _, _, _, _, hin, _, h⟩⟩ := h
    · have := ih _ h; simp; omega
    · have := ih _ h; simp; omega
theorem encode_f {f : Int} {low : Nat} (hf : FL f low) (bs : List Int) (hb : bytesOk bs = true) (hl : bs.length ≤ 100000) : Ev (fun k => dle_Encode.f k bs f) (encL low bs (toks f low bs) 0, 0) := by
  obtain ⟨hp, hl16, hl128, hf1, hf4⟩ := FL_pow hf
  obtain ⟨h2, hs⟩ := FL_two hf
  have hright : dle_right.f f = some true := by unfold dle_right.f; rw [if_pos (by omega), decide_eq_true (by omega)]
  have hfind : finder_Find.f bs (shl .i64 256 f) 3 (wrap64 (((low - 1 : Nat) : Int) + 258)) 64 true = some ((toks f low bs).map tokS, 0) := by
    unfold finder_Find.f
    rw [if_pos (smallText_mk (by omega) hb), h2, w64 (by omega) (by omega), show ((low - 1 : Nat) : Int) + 258 = ((low - 1 + 258 : Nat) : Int) by omega, if_pos hs]
    rfl
  refine Ev.congr (fun k => by rw [dle_Encode.f]) ?_
  refine evC hright (evP rfl (evC (mask_f hf) (evP (by omega) (evC hfind (evP rfl ?_)))))
  have ht := toks_til hf bs
  have hT := til_len _ _ ht
  have := enc_f hf bs (toks f low bs) hl (by omega) (toks f low bs) 0 0 [] (by simp) (by omega) ht (by simp) (by omega)
  simpa using this
theorem encode_no {f : Int} (h : f < 1 ∨ 4 < f) (bs : List Int) : Ev (fun k => dle_Encode.f k bs f) ([], 2) := by
  have hright : dle_right.f f = some false := by
    unfold dle_right.f
    by_cases h1 : f ≥ 1
    · rw [if_pos h1, decide_eq_false (by omega)]
    · rw [if_neg h1]
  refine Ev.congr (fun k => by rw [dle_Encode.f]) ?_
  exact evC hright (evN (by simp) evR)
theorem renc_plain {f : Int} {low : Nat} (bs : List Int) (Ts : List Tk) (i n idx : Nat) (r : List Int × Int) (hin : i + n ≤ bs.length) (hb : bs.length ≤ 100000) (acc : List Int) (ha : acc.length ≤ 1000000) (hidx : idx ≤ 100000)
    (h : Ev (fun k => duffelref13_Encode.l0 k bs low Ts (acc ++ plainS ((bs.drop i).take n)) ((i + n : Nat) : Int) ((idx + 1 : Nat) : Int)) r) :
    Ev (fun k => duffelref13_Encode.l1 k bs low Ts acc (i : Int) (idx : Int) (n : Int) (i : Int)) r := by
  have hw := hide (show wrap64 ((i : Int) + n) = ((i + n : Nat) : Int) by rw [w64 (by omega) (by omega)]; omega)
  have hl : ∀ q, (plainS ((bs.drop i).take q)).length ≤ 200000 := fun q => by have := plainS_len ((bs.drop i).take q); rw [List.length_take, List.length_drop] at this; omega
  have key := ev_up (n := n) (r := r) (fun k q => duffelref13_Encode.l1 k bs low Ts (acc ++ plainS ((bs.drop i).take q)) (i : Int) (idx : Int) (n : Int) ((i + q : Nat) : Int)) ?_ ?_ 0 (by omega)
  · simpa [plainS] using key
  · refine evS (fun k => by rw [duffelref13_Encode.l1]) ?_
    rw [hw.out]
    refine evN (by omega) ?_
    rw [wrap_inc (by omega)]
    exact h
  · intro q hq ih
    have hlq := hl q
    have hgd : (bs.drop i).take (q + 1) = (bs.drop i).take q ++ [bs.getD (i + q) 0] := by
      rw [take_snoc' (bs.drop i) q 0 (by rw [List.length_drop]; omega)]
      congr 2
      rw [List.getD_eq_getElem?_getD, List.getD_eq_getElem?_getD, List.getElem?_drop]
    have h1 : ((i + (q + 1) : Nat) : Int) = ((i + q + 1 : Nat) : Int) := by omega
    rw [h1, ← wrap_inc (by omega), hgd, plainS_snoc, ← List.append_assoc] at ih
    refine evS (fun k => by rw [duffelref13_Encode.l1]) ?_
    rw [hw.out, rd_nat]
    refine evP (by omega) (evP (by omega) (evP (by omega) (evP (by rw [List.length_append]; omega) (evC rfl ?_))))
    unfold plainB at ih
    by_cases h144 : bs.getD (i + q) 0 = 144
    · rw [if_pos h144] at ih
      refine evP h144 (evP (by rw [List.length_append, List.length_append, List.length_singleton]; omega) ?_)
      rw [List.append_assoc]
      exact ih
    · rw [if_neg h144] at ih
      exact evN h144 ih
theorem renc_f {f : Int} {low : Nat} (hf : FL f low) (bs : List Int) (T : List Tok) (hb : bs.length ≤ 100000) (hT : T.length ≤ 100000) : ∀ (l : List Tok) (i idx : Nat) (acc : List Int), T.drop idx = l → idx ≤ T.length → Til bs 3 ((low - 1 + 258 : Nat) : Int) (256 * 2 ^ f.toNat) l i → acc.length ≤ 2 * i → i ≤ bs.length →
    Ev (fun k => duffelref13_Encode.l0 k bs low (T.map tokS) acc (i : Int) (idx : Int)) (acc ++ encL low bs l i, 0) := by
  obtain ⟨hp, hl16, hl128, hf1, hf4⟩ := FL_pow hf
  intro l
  induction l with
  | nil =>
    intro i idx acc hd hi _ _ _
    have := drop_nil_len hd hi
    refine evS (fun k => by rw [duffelref13_Encode.l0, if_neg (by rw [List.length_map]; omega)]) ?_
    exact evE evR (by simp [encL])
  | cons t l ih =>
    intro i idx acc hd hidx htil hacc hib
    obtain ⟨hlt, hrd, hdrop⟩ := tokS_at hd
    obtain ⟨hi, hor⟩ := htil
    refine evS (fun k => by rw [duffelref13_Encode.l0, if_pos (by rw [List.length_map]; omega), if_pos (by omega), hrd]) ?_
    rcases hor with ⟨rfl, htl⟩ | ⟨d, n, rfl, hn3, hnm, hd1, hdi, hdw, hin, _, htl⟩
    · have henc : encT low bs i ⟨bs.getD i 0, 0, 0⟩ = plainS ((bs.drop i).take 1) := by unfold encT; rw [if_pos rfl]
      have hlen := encT_len low bs i ⟨bs.getD i 0, 0, 0⟩ (.inl rfl)
      have hst : stepT ⟨bs.getD i 0, 0, 0⟩ = 1 := rfl
      rw [hst] at hlen
      have ih := ih (i + 1) (idx + 1) (acc ++ encT low bs i ⟨bs.getD i 0, 0, 0⟩) hdrop (by omega) htl (by rw [List.length_append]; omega) (by omega)
      refine evN (by show ¬ ((0 : Int) > 0); omega) ?_
      refine evS (fun k => by rw [duffelref13_Encode.j2]) ?_
      refine evP (by rfl) ?_
      refine evS (fun k => by rw [duffelref13_Encode.j3]) ?_
      refine evP (by rfl) ?_
      refine renc_plain (f := f) bs _ i 1 idx _ (by omega) hb acc (by omega) (by omega) ?_
      rw [← henc]
      refine evE ih ?_
      rw [encL, hst, List.append_assoc]
    · have hn0 : ¬ ((n : Int) = 0) := by omega
      have hv := vOf_le (n := n) hf hd1 hdw
      have hlen := encT_len low bs i ⟨0, d, n⟩ (.inr hn3)
      have hst : stepT ⟨0, d, n⟩ = n := by unfold stepT; rw [if_neg hn0]; simp
      rw [hst] at hlen
      have ih := ih (i + n) (idx + 1) (acc ++ encT low bs i ⟨0, d, n⟩) hdrop (by omega) htl (by rw [List.length_append]; omega) hin
      have hd4 : (d : Int) ≤ 4096 := by
        rcases hf with ⟨rfl, rfl⟩ | ⟨rfl, rfl⟩ | ⟨rfl, rfl⟩ | ⟨rfl, rfl⟩ <;> simp at hdw <;> omega
      have edv := hide (show wrap64 ((low : Int) * (wrap64 (Int.tdiv (wrap64 ((d : Int) - 1)) 256))) = (((d - 1) / 256 * low : Nat) : Int) by
        rw [w64 (x := (d : Int) - 1) (by omega) (by omega), show (d : Int) - 1 = ((d - 1 : Nat) : Int) by omega]
        have e1 : Int.tdiv ((d - 1 : Nat) : Int) 256 = (((d - 1) / 256 : Nat) : Int) := by rw [Int.tdiv_eq_ediv_of_nonneg (by omega)]; rfl
        have hbd : (d - 1) / 256 ≤ 15 := by omega
        rw [e1, w64 (x := (((d - 1) / 256 : Nat) : Int)) (by omega) (by omega), Int.mul_comm, ← Int.natCast_mul]
        have hbm : (d - 1) / 256 * low ≤ 15 * 128 := Nat.mul_le_mul hbd hl128
        rw [w64 (by omega) (by omega)])
      have ew3 := hide (show wrap64 ((n : Int) - 3) = ((n - 3 : Nat) : Int) by rw [w64 (by omega) (by omega)]; omega)
      have el1 := hide (show wrap64 ((low : Int) - 1) = ((low - 1 : Nat) : Int) by rw [w64 (by omega) (by omega)]; omega)
      refine evP (show (n : Int) > 0 by omega) ?_
      show Ev (fun k => if (wrap64 ((n : Int) - 3)) > (wrap64 ((low : Int) - 1)) then duffelref13_Encode.j2 k bs low (T.map tokS) acc (i : Int) (idx : Int) (n : Int) (wrap64 ((wrap64 ((low : Int) - 1)) + (wrap64 ((low : Int) * (wrap64 (Int.tdiv (wrap64 ((d : Int) - 1)) 256)))))) else duffelref13_Encode.j2 k bs low (T.map tokS) acc (i : Int) (idx : Int) (n : Int) (wrap64 ((wrap64 ((n : Int) - 3)) + (wrap64 ((low : Int) * (wrap64 (Int.tdiv (wrap64 ((d : Int) - 1)) 256))))))) _
      rw [edv.out, ew3.out, el1.out]
      have hmain : Ev (fun k => duffelref13_Encode.j2 k bs low (T.map tokS) acc (i : Int) (idx : Int) (n : Int) (vOf low d n : Int)) (acc ++ encL low bs (⟨0, d, n⟩ :: l) i, 0) := by
        refine evS (fun k => by rw [duffelref13_Encode.j2]) (evN hn0 ?_)
        refine evS (fun k => by rw [duffelref13_Encode.j3]) ?_
        by_cases hv0 : vOf low d n = 0
        · have henc : encT low bs i ⟨0, d, n⟩ = plainS ((bs.drop i).take n) := by unfold encT; rw [if_neg hn0, if_pos (by simpa using hv0)]; simp
          refine evP (by omega) ?_
          refine renc_plain (f := f) bs _ i n idx _ hin hb acc (by omega) (by omega) ?_
          rw [← henc]
          refine evE ih ?_
          rw [encL, hst, List.append_assoc]
        · have henc : encT low bs i ⟨0, d, n⟩ = encC low d n := by unfold encT; rw [if_neg hn0, if_neg (by simpa using hv0)]; simp
          have ev := hide (show (vOf low d n : Int) % 256 = vOf low d n by omega)
          have ed := hide (show (Int.tmod (wrap64 ((d : Int) - 1)) 256) % 256 = (((d - 1) % 256 : Nat) : Int) by
            rw [w64 (by omega) (by omega), show (d : Int) - 1 = ((d - 1 : Nat) : Int) by omega, Int.tmod_eq_emod_of_nonneg (by omega)]; omega)
          have hiw := hide (show wrap64 ((i : Int) + n) = ((i + n : Nat) : Int) by rw [w64 (by omega) (by omega)]; omega)
          refine evN (by omega) (evC rfl (evP (by rw [List.length_cons, List.length_cons, List.length_nil]; omega) (evC rfl ?_)))
          rw [ev.out, ew3.out, el1.out]
          by_cases hk : low - 1 ≤ n - 3
          · have el := hide (show (wrap64 (((n - 3 : Nat) : Int) - ((low - 1 : Nat) : Int))) % 256 = ((n - 3 - (low - 1) : Nat) : Int) by rw [w64 (by omega) (by omega)]; omega)
            have e4 : encC low d n = [144, (vOf low d n : Int)] ++ [((n - 3 - (low - 1) : Nat) : Int)] ++ [(((d - 1) % 256 : Nat) : Int)] := by unfold encC; rw [if_pos hk]; rfl
            refine evP (by omega) (evP (by rw [List.length_append, List.length_cons, List.length_cons, List.length_nil]; omega) (evC rfl (evP (by omega) (evP (by rw [List.length_map]; omega) (evP (by rw [List.length_append, List.length_append, List.length_cons, List.length_cons, List.length_nil, List.length_singleton]; omega) ?_)))))
            rw [hrd, el.out, hiw.out, wrap_inc (by omega)]
            show Ev (fun k => duffelref13_Encode.l0 k bs low (T.map tokS) (((acc ++ [144, (vOf low d n : Int)]) ++ [((n - 3 - (low - 1) : Nat) : Int)]) ++ [(Int.tmod (wrap64 ((d : Int) - 1)) 256) % 256]) _ _) _
            rw [ed.out, List.append_assoc, List.append_assoc, ← List.append_assoc [144, (vOf low d n : Int)], ← e4]
            rw [henc] at ih
            refine evE ih ?_
            rw [encL, hst, henc, List.append_assoc]
          · have e4 : encC low d n = [144, (vOf low d n : Int)] ++ [(((d - 1) % 256 : Nat) : Int)] := by unfold encC; rw [if_neg hk]; rfl
            refine evN (by omega) (evP (by omega) (evP (by rw [List.length_map]; omega) (evP (by rw [List.length_append, List.length_cons, List.length_cons, List.length_nil]; omega) ?_)))
            rw [hrd, hiw.out, wrap_inc (by omega)]
            show Ev (fun k => duffelref13_Encode.l0 k bs low (T.map tokS) ((acc ++ [144, (vOf low d n : Int)]) ++ [(Int.tmod (wrap64 ((d : Int) - 1)) 256) % 256]) _ _) _
            rw [ed.out, List.append_assoc, ← e4]
            rw [henc] at ih
            refine evE ih ?_
            rw [encL, hst, henc, List.append_assoc]
      by_cases hgt : ((n - 3 : Nat) : Int) > ((low - 1 : Nat) : Int)
      · refine evP hgt ?_
        have e : wrap64 (((low - 1 : Nat) : Int) + (((d - 1) / 256 * low : Nat) : Int)) = (vOf low d n : Int) := by
          unfold vOf at hv ⊢
          rw [w64 (by omega) (by omega)]; omega
        rw [e]
        exact hmain
      · refine evN hgt ?_
        have e : wrap64 (((n - 3 : Nat) : Int) + (((d - 1) / 256 * low : Nat) : Int)) = (vOf low d n : Int) := by
          unfold vOf at hv ⊢
          rw [w64 (by omega) (by omega)]; omega
        rw [e]
        exact hmain
theorem rencode_f {f : Int} {low : Nat} (hf : FL f low) (bs : List Int) (hb : bytesOk bs = true) (hl : bs.length ≤ 100000) : Ev (fun k => duffelref13_Encode.f k bs f) (encL low bs (toks f low bs) 0, 0) := by
  obtain ⟨hp, hl16, hl128, hf1, hf4⟩ := FL_pow hf
  obtain ⟨h2, hs⟩ := FL_two hf
  refine Ev.congr (fun k => by rw [duffelref13_Encode.f, if_neg (by omega), decide_eq_false (by omega)]) ?_
  refine evS (fun k => by rw [duffelref13_Encode.j0]) (evN (by simp) ?_)
  have e1 : wrap64 (8 - f) = ((8 - f).toNat : Int) := by rw [w64 (by omega) (by omega)]; omega
  have e2 : f = ((f.toNat : Nat) : Int) := by omega
  have ep : ((2 ^ (8 - f).toNat : Nat) : Int) = low := by rw [Int.natCast_pow]; exact hp
  have et1 := two_ev (8 - f).toNat (by omega)
  have et2 := two_ev f.toNat (by omega)
  rw [ep] at et1
  rw [e1]
  refine evB et1 ?_
  rw [← e2] at et2
  refine evB et2 ?_
  have hfind : duffelref09_Find.f bs (wrap64 (256 * ((2 ^ f.toNat : Nat) : Int))) 3 (wrap64 ((low : Int) + 257)) 64 true = some ((toks f low bs).map tokS, 0) := by
    unfold duffelref09_Find.f
    have hb2 : (2 : Int) ^ f.toNat ≤ 16 := by
      have hd : ∀ n, n ≤ 4 → (2 : Int) ^ n ≤ 16 := by decide
      exact hd _ (by omega)
    have hb3 : (0 : Int) ≤ 2 ^ f.toNat := by
      have hd : ∀ n, n ≤ 4 → (0 : Int) ≤ 2 ^ n := by decide
      exact hd _ (by omega)
    rw [if_pos (smallText_mk (by omega) hb), Int.natCast_pow, show ((2 : Nat) : Int) = 2 from rfl, w64 (x := 256 * (2 : Int) ^ f.toNat) (by omega) (by omega), w64 (x := (low : Int) + 257) (by omega) (by omega), show (low : Int) + 257 = ((low - 1 + 258 : Nat) : Int) by omega, if_pos hs]
    rfl
  refine evC hfind ?_
  have ht := toks_til hf bs
  have hT := til_len _ _ ht
  have := renc_f hf bs (toks f low bs) hl (by omega) (toks f low bs) 0 0 [] (by simp) (by omega) ht (by simp) (by omega)
  simpa using this
theorem rencode_no {f : Int} (h : f < 1 ∨ 4 < f) (bs : List Int) : Ev (fun k => duffelref13_Encode.f k bs f) ([], 2) := by
  by_cases h1 : f < 1
  · refine Ev.congr (fun k => by rw [duffelref13_Encode.f, if_pos h1]) ?_
    refine evS (fun k => by rw [duffelref13_Encode.j0]) ?_
    exact evP (by rfl) evR
  · refine Ev.congr (fun k => by rw [duffelref13_Encode.f, if_neg h1, decide_eq_true (by omega)]) ?_
    refine evS (fun k => by rw [duffelref13_Encode.j0]) ?_
    exact evP (by rfl) evR
end Go.Proofs.Ytplkdjbcdeakaaa.Q

