/- The two Encodes tell the same. No condition. -/
import Derived.Test.YtplkdjbcdeakaaaP13
import Derived.Test.YtplkdjbcdeakaaaQx4
namespace Go.Proofs.Ytplkdjbcdeakaaa.Pure
open Go.RowKit Go.Proofs.YtplkdjbcdeakaaaW.PrintWords Go.Proofs.Ytplkdjbcdeakaaa.Q

theorem u8_in {l : List Int} (h : ∀ x ∈ l, (Lit.int .u8 x).wf = true) : bytesOk l = true := by
  refine bytesOk_mk fun x hx => ?_
  have h0 := h x hx
  have h1 : IntKind.u8.min = 0 := rfl
  have h2 : IntKind.u8.max = 255 := rfl
  simp [Lit.wf, h1, h2] at h0
  omega
theorem bytesOk_take {l : List Int} (h : bytesOk l = true) (n : Nat) : bytesOk (l.take n) = true :=
  bytesOk_mk fun x hx => bytesOk_get h (List.mem_of_mem_take hx)
theorem encL_len2 (bs : List Int) (low : Nat) {mx win : Int} : ∀ (l : List Tok) (i : Nat), Til bs 3 mx win l i → (encL low bs l i).length + 2 * i ≤ 2 * bs.length := by
  intro l
  induction l with
  | nil => intro i h; have : i = bs.length := h; simp [encL]; omega
  | cons t l ih =>
    intro i h
    obtain ⟨hi, ⟨rfl, h⟩ | ⟨d, n, rfl, hn, _, _, _, _, hin, _, h⟩⟩ := h
    · have h1 := ih _ h
      have h2 := encT_len low bs i ⟨bs.getD i 0, 0, 0⟩ (.inl rfl)
      have hst : stepT ⟨bs.getD i 0, 0, 0⟩ = 1 := rfl
      rw [encL, List.length_append, hst]
      rw [hst] at h2
      omega
    · have h1 := ih _ h
      have h2 := encT_len low bs i ⟨0, d, n⟩ (.inr hn)
      have hst : stepT ⟨0, d, n⟩ = n := by unfold stepT; rw [if_neg (show ¬ ((n : Int) = 0) by omega)]; simp
      rw [encL, List.length_append, hst]
      rw [hst] at h2
      omega
theorem DleEncodes : duffellaw13_DleEncodes.Pure := by
  intro l0 a1 _ _ hwf _
  have hb := bytesOk_take (u8_in hwf) 250
  have hl : (l0.take 250).length ≤ 250 := by rw [List.length_take]; omega
  refine Ev.rounds ?_
  refine Ev.congr (fun k => by rw [duffellaw13_DleEncodes.f]) ?_
  refine evC (cut_f l0 250) (evC (copy_f _ (by omega)) ?_)
  generalize l0.take 250 = l at hb hl
  have fin : ∀ r : List Int × Int, r.1.length ≤ 500 → Ev (fun k => dle_Encode.f k l a1) r → Ev (fun k => duffelref13_Encode.f k l a1) r → Ev (fun k => ((dle_Encode.f k l a1).bind fun bt191 => ((duffelref13_Encode.f k l a1).bind fun bt195 => ((duffelref01_Same.f k bt191.1 bt195.1).bind fun t199 => (if t199 = true then (if bt191.2 = bt195.2 then ((duffelref01_Same.f k l l).bind fun t200 => (if t200 = true then ((duffellaw13_lives.f).bind fun t201 => (some t201)) else (some false))) else (some false)) else (some false)))))) true := by
    intro r hr h1 h2
    refine evB h1 (evB h2 (evB (same01_f _ _ (by omega)) ?_))
    refine evP (by simp) (evP rfl (evB (same01_f _ _ (by omega)) ?_))
    exact evP (by simp) (evC rfl evR)
  by_cases h : 1 ≤ a1 ∧ a1 ≤ 4
  · obtain ⟨low, hf⟩ := FL_get h.1 h.2
    refine fin _ ?_ (encode_f hf l hb (by omega)) (rencode_f hf l hb (by omega))
    have := encL_len2 l low (toks a1 low l) 0 (toks_til hf l)
    show (encL low l (toks a1 low l) 0).length ≤ 500
    omega
  · exact fin _ (by simp) (encode_no (by omega) l) (rencode_no (by omega) l)
end Go.Proofs.Ytplkdjbcdeakaaa.Pure

