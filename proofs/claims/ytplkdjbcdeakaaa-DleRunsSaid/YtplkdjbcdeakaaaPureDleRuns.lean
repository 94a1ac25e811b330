/- A text of one byte comes out short. No condition. -/
import Derived.Test.YtplkdjbcdeakaaaP13
import Derived.Test.YtplkdjbcdeakaaaLaw9b
import Derived.Test.YtplkdjbcdeakaaaPureDleEncodes
import Derived.Test.YtplkdjbcdeakaaaQx5
namespace Go.Proofs.Ytplkdjbcdeakaaa.Pure
open Go.RowKit Go.Proofs.YtplkdjbcdeakaaaW.PrintWords Go.Proofs.Ytplkdjbcdeakaaa.Q

theorem run_long {c : Int} {n low : Nat} {win ch : Int} {lz : Bool} (hl : 16 ≤ low) (hw : 1 ≤ win) (hc : 1 ≤ ch) (f : Nat) : ∀ i, 1 ≤ i → i ≤ n → n ≤ i + f → (encL low (List.replicate n c) (findLoop (List.replicate n c) 3 ((low - 1 + 258 : Nat) : Int) win ch lz f i) i).length ≤ 4 * ((n - i) / (low + 257)) + 6 := by
  induction f with
  | zero => intro i _ _ _; simp [findLoop, encL]
  | succ f ih =>
    intro i hi hin hf
    have hsh : ∀ g j, j ≤ n → n ≤ j + g → (encL low (List.replicate n c) (findLoop (List.replicate n c) 3 ((low - 1 + 258 : Nat) : Int) win ch lz g j) j).length + 2 * j ≤ 2 * n := by
      intro g j h1 h2
      have ht := find_til (bs := List.replicate n c) (win := win) (ch := ch) (lz := lz) (.inr rfl) (show (3 : Int) ≤ ((low - 1 + 258 : Nat) : Int) by omega) g j (by simpa using h1) (by simpa using h2)
      have := encL_len2 _ low _ _ ht
      rw [List.length_replicate] at this
      exact this
    by_cases hn : i + 3 ≤ n
    · have e : (((low - 1 + 258 : Nat) : Int)).toNat = low + 257 := by omega
      have ha := at_run (c := c) (n := n) (m := 3) (mx := ((low - 1 + 258 : Nat) : Int)) (win := win) (ch := ch) (.inr rfl) (by omega) hw hc hi hn
      have hwt := waits_run (c := c) (n := n) (m := 3) (mx := ((low - 1 + 258 : Nat) : Int)) (win := win) (ch := ch) (lz := lz) (.inr rfl) (by omega) hw hc hi hn
      have e3 : ((3 : Nat) : Int) = 3 := rfl
      rw [e3] at ha hwt
      rw [findLoop, if_pos (by simp; omega), hwt, if_neg (by simp), ha, e]
      simp only
      generalize hL : min (low + 257) (n - i) = L
      rw [encL, List.length_append]
      have hL0 : ¬ ((L : Int) = 0) := by omega
      have hst : stepT ⟨0, ((1 : Nat) : Int), (L : Int)⟩ = L := by unfold stepT; rw [if_neg hL0]; simp
      rw [hst]
      have h6 : (encT low (List.replicate n c) i ⟨0, ((1 : Nat) : Int), (L : Int)⟩).length ≤ 6 ∧ (4 ≤ L → (encT low (List.replicate n c) i ⟨0, ((1 : Nat) : Int), (L : Int)⟩).length ≤ 4) := by
        unfold encT
        rw [if_neg hL0]
        by_cases hv : vOf low ((1 : Nat) : Int).toNat ((L : Int)).toNat = 0
        · have hL3 : L = 3 := by
            unfold vOf at hv
            simp at hv
            omega
          simp only
          rw [if_pos hv]
          subst hL3
          have h1 := plainS_len (((List.replicate n c).drop i).take 3)
          rw [List.length_take] at h1
          refine ⟨by show (plainS (((List.replicate n c).drop i).take 3)).length ≤ 6; omega, by omega⟩
        · simp only
          rw [if_neg hv]
          unfold encC
          split <;> simp
      by_cases hlast : n - i < low + 257
      · have e2 : L = n - i := by omega
        have h1 := hsh f (i + L) (by omega) (by omega)
        have := h6.1
        generalize (n - i) / (low + 257) = D
        omega
      · have e2 : L = low + 257 := by omega
        have h1 := ih (i + L) (by omega) (by omega) (by omega)
        have h4 := h6.2 (by omega)
        rw [e2] at h1 h4 ⊢
        have h2 : n - i = (n - (i + (low + 257))) + (low + 257) := by omega
        rw [h2, Nat.add_div_right _ (by omega)]
        generalize (n - (i + (low + 257))) / (low + 257) = D at h1 ⊢
        omega
    · have := hsh (f + 1) i hin hf
      generalize (n - i) / (low + 257) = D
      omega
theorem run_all {c : Int} {n low : Nat} {f : Int} (hf : FL f low) : (encL low (List.replicate n c) (toks f low (List.replicate n c)) 0).length ≤ 4 * (n / (low + 257)) + 8 := by
  obtain ⟨hp, hl16, hl128, hf1, hf4⟩ := FL_pow hf
  unfold toks findSpec
  rw [List.length_replicate]
  rcases Nat.eq_zero_or_pos n with rfl | hn
  · simp [findLoop, encL]
  · obtain ⟨n, rfl⟩ : ∃ k, n = k + 1 := ⟨n - 1, by omega⟩
    have ha := at_first (c := c) (m := 3) (n := n + 1) (mx := ((low - 1 + 258 : Nat) : Int)) (win := 256 * 2 ^ f.toNat) (ch := 64)
    have e3 : ((3 : Nat) : Int) = 3 := rfl
    rw [e3] at ha
    rw [findLoop, if_pos (by simp), if_pos (waits_none ha), encL, List.length_append]
    have h2 := encT_len low (List.replicate (n + 1) c) 0 ⟨(List.replicate (n + 1) c).getD 0 0, 0, 0⟩ (.inl rfl)
    have hst : stepT ⟨(List.replicate (n + 1) c).getD 0 0, 0, 0⟩ = 1 := rfl
    rw [hst] at h2 ⊢
    have hw : (1 : Int) ≤ 256 * 2 ^ f.toNat := by
      have hd : ∀ q, q ≤ 4 → (1 : Int) ≤ 256 * 2 ^ q := by decide
      exact hd _ (by omega)
    have h3 := run_long (c := c) (n := n + 1) (low := low) (win := 256 * 2 ^ f.toNat) (ch := 64) (lz := true) hl16 hw (by omega) n 1 (by omega) (by omega) (by omega)
    have h4 : (n + 1 - 1) / (low + 257) ≤ (n + 1) / (low + 257) := Nat.div_le_div_right (by omega)
    have e1 : 0 + 1 = 1 := rfl
    rw [e1]
    omega
def fillL (c : Int) (i n : Nat) : List Int := List.replicate i c ++ List.replicate (n - i) 0
theorem fill_set (c : Int) (i n : Nat) (h : i < n) : (fillL c i n).set i c = fillL c (i + 1) n := by
  unfold fillL
  apply List.ext_getElem
  · simp; omega
  · intro j h1 h2
    rw [List.getElem_set]
    by_cases hj : i = j
    · subst hj
      rw [if_pos rfl, List.getElem_append_left (by simp)]
      simp
    · rw [if_neg hj]
      by_cases hlt : j < i
      · rw [List.getElem_append_left (by simpa using hlt), List.getElem_append_left (by simp; omega)]
        simp
      · rw [List.getElem_append_right (by simp; omega), List.getElem_append_right (by simp; omega)]
        simp
theorem fill_len (c : Int) (i n : Nat) (h : i ≤ n) : (fillL c i n).length = n := by unfold fillL; simp; omega
theorem DleRuns : duffellaw13_DleRuns.Pure := by
  intro a0 a1 a2 h0 _ _
  refine Ev.rounds ?_
  refine Ev.congr (fun k => by rw [duffellaw13_DleRuns.f]) ?_
  refine evC (within_f a1 0 4000) (evC (within_f a2 1 4) ?_)
  have b1 := withinI_bd (x := a1) (lo := 0) (hi := 4000) (by omega)
  have b2 := withinI_bd (x := a2) (lo := 1) (hi := 4) (by omega)
  generalize withinI a1 0 4000 = x1 at b1
  generalize withinI a2 1 4 = f at b2
  obtain ⟨n, rfl⟩ : ∃ n : Nat, x1 = n := ⟨x1.toNat, by omega⟩
  obtain ⟨low, hf⟩ := FL_get b2.1 b2.2
  obtain ⟨hp, hl16, hl128, hf1, hf4⟩ := FL_pow hf
  refine evP (by omega) (evP (by omega) ?_)
  have hb0 : 0 ≤ a0 ∧ a0 ≤ 255 := by
    have h1 : IntKind.u8.min = 0 := rfl
    have h2 : IntKind.u8.max = 255 := rfl
    simp [Lit.wf, h1, h2] at h0
    omega
  have key := ev_up (n := n) (r := true) (fun k i => duffellaw13_DleRuns.l0 k a0 (n : Int) f (fillL a0 i n) (i : Int)) ?_ ?_ 0 (by omega)
  · have e : fillL a0 0 n = List.replicate ((n : Int)).toNat 0 := by simp [fillL]
    rw [e] at key
    exact key
  · refine evS (fun k => by rw [duffellaw13_DleRuns.l0]) ?_
    have e : fillL a0 n n = List.replicate n a0 := by simp [fillL]
    rw [e]
    have e8 := hide (show IntKind.u64.wrap (wrap64 (8 - f)) = 8 - f by
      rw [w64 (by omega) (by omega)]
      rcases hf with ⟨rfl, _⟩ | ⟨rfl, _⟩ | ⟨rfl, _⟩ | ⟨rfl, _⟩ <;> rfl)
    rw [e8.out]
    have esh := hide (show wrap64 (shl .i64 1 (8 - f) + 257) = ((low + 257 : Nat) : Int) by
      rw [shl64 (by omega) (by omega) (by omega) (by omega), hp, w64 (by omega) (by omega)]; omega)
    rw [esh.out]
    refine evN (by omega) (evP (by omega) ?_)
    refine evB (encode_f hf _ (bytesOk_mk fun x hx => by rw [List.eq_of_mem_replicate hx]; exact hb0) (by rw [List.length_replicate]; omega)) ?_
    refine evP rfl (evN (by omega) ?_)
    have hr := run_all (c := a0) (n := n) hf
    have ed : Int.tdiv (n : Int) ((low + 257 : Nat) : Int) = ((n / (low + 257) : Nat) : Int) := by rw [Int.tdiv_eq_ediv_of_nonneg (by omega)]; rfl
    have hd : n / (low + 257) ≤ n := Nat.div_le_self _ _
    generalize n / (low + 257) = D at hr ed hd
    have er := hide (show wrap64 (wrap64 (4 * wrap64 (Int.tdiv (n : Int) ((low + 257 : Nat) : Int))) + 12) = ((4 * D + 12 : Nat) : Int) by
      rw [ed, w64 (x := (D : Int)) (by omega) (by omega), w64 (x := 4 * (D : Int)) (by omega) (by omega), w64 (by omega) (by omega)]; omega)
    rw [er.out]
    refine evP (by show ((encL low (List.replicate n a0) (toks f low (List.replicate n a0)) 0).length : Int) ≤ _; omega) (evC rfl evR)
  · intro i hi ih
    have hlen := fill_len a0 i n (by omega)
    refine evS (fun k => by rw [duffellaw13_DleRuns.l0]) ?_
    refine evP (by omega) (evP (by omega) (evP (by omega) ?_))
    rw [wrap_inc (by omega), show ((i : Int)).toNat = i by omega, fill_set _ _ _ hi]
    exact ih
end Go.Proofs.Ytplkdjbcdeakaaa.Pure

