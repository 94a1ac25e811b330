/- Records read by the document: ends, local headers, central headers. No condition. -/
import Derived.Test.YtibngikhlgmhaaaDnH
namespace Go.Proofs.Ytibngikhlgmhaaa.Gx
open Go
set_option linter.unusedVariables false
set_option linter.unusedSimpArgs false
section
variable {h0 h : GH} {gc : Nat} {s : Sl} {bs : List Int} {p t : Nat} {ls : List (Nat × List Value)} {qs : List (Sl × List Int)}
theorem RL.hop (c : RL h0 h gc s bs p t ls qs) {h' : GH} (k : Keep h h' []) : RL h0 h' gc s bs p t ls qs := c.step (c.cur.keep k (by simp)) (k.mono (by simp))
theorem at_cutN (i : Nat) {q : Sl} {vs : List Int} (r : Rd h q vs) (h8 : B8 vs) (hm : vs.length ≤ 2000000) (hl : i + 2 ≤ vs.length) {R : Nat} (hR : 8 < R) {β : Type} (K : Int → GH → Option β) : F_ref24_at R q ((i : Nat) : Int) h K = K (fld vs i 2) h := at_cut r h8 hm (by omega) (by omega) hR K
theorem num_cutN (i : Nat) {q : Sl} {vs : List Int} (r : Rd h q vs) (h8 : B8 vs) (hl : i + 4 ≤ vs.length) {R : Nat} (hR : 8 < R) {β : Type} (K : Int → GH → Option β) : (bnd (((i : Nat) : Int) + 4) q.c fun m3 => bnd ((i : Nat) : Int) m3 fun m4 => F_ref02_Num R ⟨addO q.a (m4 * 1), m3 - m4, q.c - m4⟩ h K) = K (fld vs i 4) h := num_cut r h8 (n := 4) (by omega) (by omega) rfl (by omega) hR K
theorem same_err {h h' : GH} {gc : Nat} {x : Int} (h1 : h.cell ⟨gc, 0 + 2, none⟩ = some (.int .i64 x)) (h2 : h'.cell ⟨gc, 0 + 2, none⟩ = some (.int .i64 x)) : sameAt gc (0 + 2) 1 h h' = true := by rw [sameAt_1, h1, h2, veqO_i]
end
section
variable {h0 h : GH} {gc : Nat} {s : Sl} {bs : List Int} {p : Nat}
set_option maxHeartbeats 4000000 in
theorem RL.readEnd (c : RL h0 h gc s bs p 0 [] []) (h8 : B8 bs) (hm : bs.length ≤ 2000000) {R : Nat} (hR : 4000000 < R) :
    ∃ h' b1 b2 b3 b4 b5 b6 q16 cm qs', (∀ (β : Type) (K : Int → Int → Int → Int → Int → Int → Sl → Int → GH → Option β), F_ref24_ReadEnd R (some ⟨gc, 0, none⟩) h K = K b1 b2 b3 b4 b5 b6 q16 (endErr bs p) h') ∧ Keep h0 h' [gc] ∧ (endErr bs p = 0 → (⟨b1, b2, b3, b4, b5, b6, cm⟩ : En) = endAt bs p ∧ RL h0 h' gc s bs p (endLen bs p) [] qs' ∧ (q16, cm) ∈ qs') := by
  obtain ⟨h1, g2, e1, c1⟩ := c.new [Value.int .i64 0, Value.int .i64 0, Value.int .i64 0, Value.int .i64 0, Value.int .u32 0, Value.int .u32 0, Value.slice none 0 0] rfl
  obtain ⟨h2, q0, v0, e2, c2⟩ := c1.sign h8 hm (R := R) (by omega) 101010256
  by_cases hs : sigErr bs p 101010256 = 0
  · obtain ⟨h3, q, vs, e3, c3, w3⟩ := c2.takes hm [2, 2, 2, 2, 4, 4, 2] (by simp) (by simp) R (by omega) (t' := 22) rfl
    have e3 : ∀ (β : Type) (K : Sl → GH → Option β), (gnew [Value.int .i64 2, Value.int .i64 2, Value.int .i64 2, Value.int .i64 2, Value.int .i64 4, Value.int .i64 4, Value.int .i64 2] 1 h2 fun g23 h24 => F_ref24_take R (some ⟨gc, 0, none⟩) ⟨(some ⟨g23, 0, none⟩), 7, 7⟩ h24 K) = K q h3 := e3
    have r3 := (c3.sl q vs (by simp)).1
    by_cases o1 : p + 22 ≤ bs.length
    · have hv := w3 o1
      replace hv : vs = cutL bs (p + 4) 18 := hv
      have hvl : vs.length = 18 := by rw [hv]; unfold cutL; simp; omega
      have h8v : B8 vs := by rw [hv]; exact b8_cut h8 _ _
      have F : ∀ i n, i + n ≤ 18 → fld vs i n = fld bs (p + (4 + i)) n := fun i n hi => by rw [hv, fld_cut _ hi, Nat.add_assoc]
      have hnn : ∀ i, 0 ≤ fld vs i 2 ∧ fld vs i 2 ≤ 65535 := fun i => (fld_bd h8v i).1
      have hz16 : (fld vs 16 2).toNat = szN bs (p + 20) := by rw [F 16 2 (by omega)]; rfl
      obtain ⟨h4, g48, e4, c4⟩ := c3.new [Value.int .i64 0, Value.int .i64 0, Value.int .i64 0, Value.int .i64 0, Value.int .u32 0, Value.int .u32 0, Value.slice none 0 0] rfl
      obtain ⟨h5, e5, c5⟩ := c4.put 1 rfl 0 [Value.int .i64 (fld vs 0 2), Value.int .i64 (fld vs 2 2), Value.int .i64 (fld vs 4 2), Value.int .i64 (fld vs 6 2), Value.int .u32 (fld vs 8 4), Value.int .u32 (fld vs 12 4), Value.slice none 0 0] [Value.int .i64 (fld vs 0 2), Value.int .i64 (fld vs 2 2), Value.int .i64 (fld vs 4 2), Value.int .i64 (fld vs 6 2), Value.int .u32 (fld vs 8 4), Value.int .u32 (fld vs 12 4), Value.slice none 0 0] rfl (by simp) rfl
      have r5 := (c5.sl q vs (by simp)).1
      obtain ⟨h6, q16, cm, e6, c6, w6⟩ := c5.take hm (fld vs 16 2).toNat R
      rw [Int.toNat_of_nonneg (hnn 16).1] at e6
      obtain ⟨h7, e7, c7⟩ := c6.put 1 rfl (0 + 6) [Value.slice q16.a q16.n q16.c] [Value.int .i64 (fld vs 0 2), Value.int .i64 (fld vs 2 2), Value.int .i64 (fld vs 4 2), Value.int .i64 (fld vs 6 2), Value.int .u32 (fld vs 8 4), Value.int .u32 (fld vs 12 4), Value.slice q16.a q16.n q16.c] rfl (by simp) rfl
      have dl := fun o => c7.cell 1 rfl o
      by_cases ok : p + (22 + (fld vs 16 2).toNat) ≤ bs.length
      · have hE : endErr bs p = 0 := by
          unfold endErr
          rw [hs, if_neg (by simp), if_neg (by unfold endLen; rw [← hz16]; omega)]
        obtain ⟨hz, ez, cz⟩ := c7.put 0 rfl 0 [Value.int .i64 (fld vs 0 2), Value.int .i64 (fld vs 2 2), Value.int .i64 (fld vs 4 2), Value.int .i64 (fld vs 6 2), Value.int .u32 (fld vs 8 4), Value.int .u32 (fld vs 12 4), Value.slice q16.a q16.n q16.c] [Value.int .i64 (fld vs 0 2), Value.int .i64 (fld vs 2 2), Value.int .i64 (fld vs 4 2), Value.int .i64 (fld vs 6 2), Value.int .u32 (fld vs 8 4), Value.int .u32 (fld vs 12 4), Value.slice q16.a q16.n q16.c] rfl (by simp) rfl
        have dz := fun o => cz.cell 0 rfl o
        have hd := cz.drop 0
        refine ⟨hz, (fld vs 0 2), (fld vs 2 2), (fld vs 4 2), (fld vs 6 2), (fld vs 8 4), (fld vs 12 4), q16, cm, [(q16, cm), (q, vs), (q0, v0)], fun β K => ?_, cz.keep, fun _ => ⟨?_, ?_, by simp⟩⟩
        · unfold F_ref24_ReadEnd
          rw [F_ref24_ReadEnd_gen, e1, e2, hs, bne_self_eq_false, condF]
          refine (e3 β _).trans ?_
          rw [exA_s, c3.errc, exI_s, if_pos o1, bne_self_eq_false, condF]
          refine (at_cutN 0 r3 h8v (by omega) (by omega) (by omega) _).trans ?_
          refine (at_cutN 2 r3 h8v (by omega) (by omega) (by omega) _).trans ?_
          refine (at_cutN 4 r3 h8v (by omega) (by omega) (by omega) _).trans ?_
          refine (at_cutN 6 r3 h8v (by omega) (by omega) (by omega) _).trans ?_
          refine (num_cutN 8 r3 h8v (by omega) (by omega) _).trans ?_
          refine (num_cutN 12 r3 h8v (by omega) (by omega) _).trans ?_
          rw [e4]
          refine (e5 β _).trans ?_
          refine (at_cutN 16 r5 h8v (by omega) (by omega) (by omega) _).trans ?_
          refine (e6 β _).trans ?_
          refine (e7 β _).trans ?_
          rw [exA_s, c7.errc, exI_s, if_pos ok, bne_self_eq_false, condF]
          simp only [dl, Nat.zero_add, Nat.reduceAdd, nth_s, nth_0, exI_s, exS_s']
          refine (ez β _).trans ?_
          simp only [dz, Nat.zero_add, Nat.reduceAdd, nth_s, nth_0, exI_s, exS_s']
          rw [hE]
        · unfold endAt
          rw [F 0 2 (by omega), F 2 2 (by omega), F 4 2 (by omega), F 6 2 (by omega), F 8 4 (by omega), F 12 4 (by omega), w6 ok, hz16]
        · have : 22 + (fld vs 16 2).toNat = endLen bs p := by unfold endLen; rw [← hz16]
          rw [← this]; exact hd
      · have hE : endErr bs p = 3 := by
          unfold endErr
          rw [hs, if_neg (by simp), if_pos (.inr (by unfold endLen; rw [← hz16]; omega))]
        obtain ⟨hz, ez, cz⟩ := c7.put 0 rfl 0 [Value.int .i64 0, Value.int .i64 0, Value.int .i64 0, Value.int .i64 0, Value.int .u32 0, Value.int .u32 0, Value.slice none 0 0] [Value.int .i64 0, Value.int .i64 0, Value.int .i64 0, Value.int .i64 0, Value.int .u32 0, Value.int .u32 0, Value.slice none 0 0] rfl (by simp) rfl
        have dz := fun o => cz.cell 0 rfl o
        have sE := same_err c7.errc cz.errc
        refine ⟨hz, 0, 0, 0, 0, 0, 0, ⟨none, 0, 0⟩, [], [], fun β K => ?_, cz.keep, fun q => absurd (hE.symm.trans q) (by omega)⟩
        unfold F_ref24_ReadEnd
        rw [F_ref24_ReadEnd_gen, e1, e2, hs, bne_self_eq_false, condF]
        refine (e3 β _).trans ?_
        rw [exA_s, c3.errc, exI_s, if_pos o1, bne_self_eq_false, condF]
        refine (at_cutN 0 r3 h8v (by omega) (by omega) (by omega) _).trans ?_
        refine (at_cutN 2 r3 h8v (by omega) (by omega) (by omega) _).trans ?_
        refine (at_cutN 4 r3 h8v (by omega) (by omega) (by omega) _).trans ?_
        refine (at_cutN 6 r3 h8v (by omega) (by omega) (by omega) _).trans ?_
        refine (num_cutN 8 r3 h8v (by omega) (by omega) _).trans ?_
        refine (num_cutN 12 r3 h8v (by omega) (by omega) _).trans ?_
        rw [e4]
        refine (e5 β _).trans ?_
        refine (at_cutN 16 r5 h8v (by omega) (by omega) (by omega) _).trans ?_
        refine (e6 β _).trans ?_
        refine (e7 β _).trans ?_
        rw [exA_s, c7.errc, exI_s, if_neg ok, bne_iff_ne.2 (by omega), condT, exA_s, c7.errc, if_neg ok, exI_s]
        refine (ez β _).trans ?_
        rw [sE, condT]
        simp only [dz, Nat.zero_add, Nat.reduceAdd, nth_s, nth_0, exI_s, exS_s']
        rw [hE]
    · have hE : endErr bs p = 3 := by
        unfold endErr
        rw [hs, if_neg (by simp), if_pos (.inl (by omega))]
      obtain ⟨h4, e4, c4⟩ := c3.put 0 rfl 0 [Value.int .i64 0, Value.int .i64 0, Value.int .i64 0, Value.int .i64 0, Value.int .u32 0, Value.int .u32 0, Value.slice none 0 0] [Value.int .i64 0, Value.int .i64 0, Value.int .i64 0, Value.int .i64 0, Value.int .u32 0, Value.int .u32 0, Value.slice none 0 0] rfl (by simp) rfl
      have d4 := fun o => c4.cell 0 rfl o
      have sE := same_err c3.errc c4.errc
      refine ⟨h4, 0, 0, 0, 0, 0, 0, ⟨none, 0, 0⟩, [], [], fun β K => ?_, c4.keep, fun q => absurd (hE.symm.trans q) (by omega)⟩
      unfold F_ref24_ReadEnd
      rw [F_ref24_ReadEnd_gen, e1, e2, hs, bne_self_eq_false, condF]
      refine (e3 β _).trans ?_
      rw [exA_s, c3.errc, exI_s, if_neg o1, bne_iff_ne.2 (by omega), condT, exA_s, c3.errc, if_neg o1, exI_s]
      refine (e4 β _).trans ?_
      rw [sE, condT]
      simp only [d4, Nat.zero_add, Nat.reduceAdd, nth_s, nth_0, exI_s, exS_s']
      rw [hE]
  · have hE : endErr bs p = sigErr bs p 101010256 := by unfold endErr; rw [if_pos hs]
    obtain ⟨h3, e3, c3⟩ := c2.put 0 rfl 0 [Value.int .i64 0, Value.int .i64 0, Value.int .i64 0, Value.int .i64 0, Value.int .u32 0, Value.int .u32 0, Value.slice none 0 0] [Value.int .i64 0, Value.int .i64 0, Value.int .i64 0, Value.int .i64 0, Value.int .u32 0, Value.int .u32 0, Value.slice none 0 0] rfl (by simp) rfl
    have d3 := fun o => c3.cell 0 rfl o
    refine ⟨h3, 0, 0, 0, 0, 0, 0, ⟨none, 0, 0⟩, [], [], fun β K => ?_, c3.keep, fun q => absurd (hE.symm.trans q) hs⟩
    unfold F_ref24_ReadEnd
    rw [F_ref24_ReadEnd_gen, e1, e2, bne_iff_ne.2 hs, condT]
    refine (e3 β _).trans ?_
    simp only [d3, Nat.zero_add, Nat.reduceAdd, nth_s, nth_0, exI_s, exS_s']
    rw [hE]
set_option maxHeartbeats 4000000 in
theorem RL.readLocal (c : RL h0 h gc s bs p 0 [] []) (h8 : B8 bs) (hm : bs.length ≤ 2000000) {R : Nat} (hR : 4000000 < R) :
    ∃ h' a1 a2 a3 a4 a5 a6 a7 a8 q9 q10 nm ex qs', (∀ (β : Type) (K : Int → Int → Int → Int → Int → Int → Int → Int → Sl → Sl → Int → GH → Option β), F_ref24_ReadLocal R (some ⟨gc, 0, none⟩) h K = K a1 a2 a3 a4 a5 a6 a7 a8 q9 q10 (locErr bs p) h') ∧ Keep h0 h' [gc] ∧ (locErr bs p = 0 → (⟨a1, a2, a3, a4, a5, a6, a7, a8, nm, ex⟩ : Hd) = locAt bs p ∧ RL h0 h' gc s bs p (locLen bs p) [] qs' ∧ (q9, nm) ∈ qs' ∧ (q10, ex) ∈ qs') := by
  obtain ⟨h1, g2, e1, c1⟩ := c.new [Value.int .i64 0, Value.int .i64 0, Value.int .i64 0, Value.int .i64 0, Value.int .i64 0, Value.int .u32 0, Value.int .u32 0, Value.int .u32 0, Value.slice none 0 0, Value.slice none 0 0] rfl
  obtain ⟨h2, q0, v0, e2, c2⟩ := c1.sign h8 hm (R := R) (by omega) 67324752
  by_cases hs : sigErr bs p 67324752 = 0
  · obtain ⟨h3, q, vs, e3, c3, w3⟩ := c2.takes hm [2, 2, 2, 2, 2, 4, 4, 4, 2, 2] (by simp) (by simp) R (by omega) (t' := 30) rfl
    have e3 : ∀ (β : Type) (K : Sl → GH → Option β), (gnew [Value.int .i64 2, Value.int .i64 2, Value.int .i64 2, Value.int .i64 2, Value.int .i64 2, Value.int .i64 4, Value.int .i64 4, Value.int .i64 4, Value.int .i64 2, Value.int .i64 2] 1 h2 fun g23 h24 => F_ref24_take R (some ⟨gc, 0, none⟩) ⟨(some ⟨g23, 0, none⟩), 10, 10⟩ h24 K) = K q h3 := e3
    have r3 := (c3.sl q vs (by simp)).1
    by_cases o1 : p + 30 ≤ bs.length
    · have hv := w3 o1
      replace hv : vs = cutL bs (p + 4) 26 := hv
      have hvl : vs.length = 26 := by rw [hv]; unfold cutL; simp; omega
      have h8v : B8 vs := by rw [hv]; exact b8_cut h8 _ _
      have F : ∀ i n, i + n ≤ 26 → fld vs i n = fld bs (p + (4 + i)) n := fun i n hi => by rw [hv, fld_cut _ hi, Nat.add_assoc]
      have hnn : ∀ i, 0 ≤ fld vs i 2 ∧ fld vs i 2 ≤ 65535 := fun i => (fld_bd h8v i).1
      have hz9 : (fld vs 22 2).toNat = szN bs (p + 26) := by rw [F 22 2 (by omega)]; rfl
      have hz10 : (fld vs 24 2).toNat = szN bs (p + 28) := by rw [F 24 2 (by omega)]; rfl
      obtain ⟨h3', kh, eh⟩ := ref_head r3 h8v (by omega) (by omega) (R := R) (by omega)
      have c3' := c3.hop kh
      obtain ⟨h4, g48, e4, c4⟩ := c3'.new [Value.int .i64 0, Value.int .i64 0, Value.int .i64 0, Value.int .i64 0, Value.int .i64 0, Value.int .u32 0, Value.int .u32 0, Value.int .u32 0, Value.slice none 0 0, Value.slice none 0 0] rfl
      obtain ⟨h5, e5, c5⟩ := c4.put 1 rfl 0 [Value.int .i64 (fld vs 0 2), Value.int .i64 (fld vs 2 2), Value.int .i64 (fld vs 4 2), Value.int .i64 (fld vs 6 2), Value.int .i64 (fld vs 8 2), Value.int .u32 (fld vs 10 4), Value.int .u32 (fld vs 14 4), Value.int .u32 (fld vs 18 4), Value.slice none 0 0, Value.slice none 0 0] [Value.int .i64 (fld vs 0 2), Value.int .i64 (fld vs 2 2), Value.int .i64 (fld vs 4 2), Value.int .i64 (fld vs 6 2), Value.int .i64 (fld vs 8 2), Value.int .u32 (fld vs 10 4), Value.int .u32 (fld vs 14 4), Value.int .u32 (fld vs 18 4), Value.slice none 0 0, Value.slice none 0 0] rfl (by simp) rfl
      have r5 := (c5.sl q vs (by simp)).1
      obtain ⟨h6, q9, nm, e6, c6, w6⟩ := c5.take hm (fld vs 22 2).toNat R
      rw [Int.toNat_of_nonneg (hnn 22).1] at e6
      obtain ⟨h7, e7, c7⟩ := c6.put 1 rfl (0 + 8) [Value.slice q9.a q9.n q9.c] [Value.int .i64 (fld vs 0 2), Value.int .i64 (fld vs 2 2), Value.int .i64 (fld vs 4 2), Value.int .i64 (fld vs 6 2), Value.int .i64 (fld vs 8 2), Value.int .u32 (fld vs 10 4), Value.int .u32 (fld vs 14 4), Value.int .u32 (fld vs 18 4), Value.slice q9.a q9.n q9.c, Value.slice none 0 0] rfl (by simp) rfl
      have r7 := (c7.sl q vs (by simp)).1
      obtain ⟨h8', q10, ex, e8, c8, w8⟩ := c7.take hm (fld vs 24 2).toNat R
      rw [Int.toNat_of_nonneg (hnn 24).1] at e8
      obtain ⟨h9, e9, c9⟩ := c8.put 1 rfl (0 + 9) [Value.slice q10.a q10.n q10.c] [Value.int .i64 (fld vs 0 2), Value.int .i64 (fld vs 2 2), Value.int .i64 (fld vs 4 2), Value.int .i64 (fld vs 6 2), Value.int .i64 (fld vs 8 2), Value.int .u32 (fld vs 10 4), Value.int .u32 (fld vs 14 4), Value.int .u32 (fld vs 18 4), Value.slice q9.a q9.n q9.c, Value.slice q10.a q10.n q10.c] rfl (by simp) rfl
      have dl := fun o => c9.cell 1 rfl o
      by_cases ok : p + (30 + (fld vs 22 2).toNat + (fld vs 24 2).toNat) ≤ bs.length
      · have hE : locErr bs p = 0 := by
          unfold locErr
          rw [hs, if_neg (by simp), if_neg (by unfold locLen; rw [← hz9, ← hz10]; omega)]
        obtain ⟨hz, ez, cz⟩ := c9.put 0 rfl 0 [Value.int .i64 (fld vs 0 2), Value.int .i64 (fld vs 2 2), Value.int .i64 (fld vs 4 2), Value.int .i64 (fld vs 6 2), Value.int .i64 (fld vs 8 2), Value.int .u32 (fld vs 10 4), Value.int .u32 (fld vs 14 4), Value.int .u32 (fld vs 18 4), Value.slice q9.a q9.n q9.c, Value.slice q10.a q10.n q10.c] [Value.int .i64 (fld vs 0 2), Value.int .i64 (fld vs 2 2), Value.int .i64 (fld vs 4 2), Value.int .i64 (fld vs 6 2), Value.int .i64 (fld vs 8 2), Value.int .u32 (fld vs 10 4), Value.int .u32 (fld vs 14 4), Value.int .u32 (fld vs 18 4), Value.slice q9.a q9.n q9.c, Value.slice q10.a q10.n q10.c] rfl (by simp) rfl
        have dz := fun o => cz.cell 0 rfl o
        have hd := cz.drop 0
        refine ⟨hz, (fld vs 0 2), (fld vs 2 2), (fld vs 4 2), (fld vs 6 2), (fld vs 8 2), (fld vs 10 4), (fld vs 14 4), (fld vs 18 4), q9, q10, nm, ex, [(q10, ex), (q9, nm), (q, vs), (q0, v0)], fun β K => ?_, cz.keep, fun _ => ⟨?_, ?_, by simp, by simp⟩⟩
        · unfold F_ref24_ReadLocal
          rw [F_ref24_ReadLocal_gen, e1, e2, hs, bne_self_eq_false, condF]
          refine (e3 β _).trans ?_
          rw [exA_s, c3.errc, exI_s, if_pos o1, bne_self_eq_false, condF, eh, e4]
          refine (e5 β _).trans ?_
          refine (at_cutN 22 r5 h8v (by omega) (by omega) (by omega) _).trans ?_
          refine (e6 β _).trans ?_
          refine (e7 β _).trans ?_
          refine (at_cutN 24 r7 h8v (by omega) (by omega) (by omega) _).trans ?_
          refine (e8 β _).trans ?_
          refine (e9 β _).trans ?_
          rw [exA_s, c9.errc, exI_s, if_pos ok, bne_self_eq_false, condF]
          simp only [dl, Nat.zero_add, Nat.reduceAdd, nth_s, nth_0, exI_s, exS_s']
          refine (ez β _).trans ?_
          simp only [dz, Nat.zero_add, Nat.reduceAdd, nth_s, nth_0, exI_s, exS_s']
          rw [hE]
        · unfold locAt
          rw [F 0 2 (by omega), F 2 2 (by omega), F 4 2 (by omega), F 6 2 (by omega), F 8 2 (by omega), F 10 4 (by omega), F 14 4 (by omega), F 18 4 (by omega), w6 (by omega), w8 ok, hz9, hz10]
        · have : 30 + (fld vs 22 2).toNat + (fld vs 24 2).toNat = locLen bs p := by unfold locLen; rw [← hz9, ← hz10]
          rw [← this]; exact hd
      · have hE : locErr bs p = 3 := by
          unfold locErr
          rw [hs, if_neg (by simp), if_pos (.inr (by unfold locLen; rw [← hz9, ← hz10]; omega))]
        obtain ⟨hz, ez, cz⟩ := c9.put 0 rfl 0 [Value.int .i64 0, Value.int .i64 0, Value.int .i64 0, Value.int .i64 0, Value.int .i64 0, Value.int .u32 0, Value.int .u32 0, Value.int .u32 0, Value.slice none 0 0, Value.slice none 0 0] [Value.int .i64 0, Value.int .i64 0, Value.int .i64 0, Value.int .i64 0, Value.int .i64 0, Value.int .u32 0, Value.int .u32 0, Value.int .u32 0, Value.slice none 0 0, Value.slice none 0 0] rfl (by simp) rfl
        have dz := fun o => cz.cell 0 rfl o
        have sE := same_err c9.errc cz.errc
        refine ⟨hz, 0, 0, 0, 0, 0, 0, 0, 0, ⟨none, 0, 0⟩, ⟨none, 0, 0⟩, [], [], [], fun β K => ?_, cz.keep, fun q => absurd (hE.symm.trans q) (by omega)⟩
        unfold F_ref24_ReadLocal
        rw [F_ref24_ReadLocal_gen, e1, e2, hs, bne_self_eq_false, condF]
        refine (e3 β _).trans ?_
        rw [exA_s, c3.errc, exI_s, if_pos o1, bne_self_eq_false, condF, eh, e4]
        refine (e5 β _).trans ?_
        refine (at_cutN 22 r5 h8v (by omega) (by omega) (by omega) _).trans ?_
        refine (e6 β _).trans ?_
        refine (e7 β _).trans ?_
        refine (at_cutN 24 r7 h8v (by omega) (by omega) (by omega) _).trans ?_
        refine (e8 β _).trans ?_
        refine (e9 β _).trans ?_
        rw [exA_s, c9.errc, exI_s, if_neg ok, bne_iff_ne.2 (by omega), condT, exA_s, c9.errc, if_neg ok, exI_s]
        refine (ez β _).trans ?_
        rw [sE, condT]
        simp only [dz, Nat.zero_add, Nat.reduceAdd, nth_s, nth_0, exI_s, exS_s']
        rw [hE]
    · have hE : locErr bs p = 3 := by
        unfold locErr
        rw [hs, if_neg (by simp), if_pos (.inl (by omega))]
      obtain ⟨h4, e4, c4⟩ := c3.put 0 rfl 0 [Value.int .i64 0, Value.int .i64 0, Value.int .i64 0, Value.int .i64 0, Value.int .i64 0, Value.int .u32 0, Value.int .u32 0, Value.int .u32 0, Value.slice none 0 0, Value.slice none 0 0] [Value.int .i64 0, Value.int .i64 0, Value.int .i64 0, Value.int .i64 0, Value.int .i64 0, Value.int .u32 0, Value.int .u32 0, Value.int .u32 0, Value.slice none 0 0, Value.slice none 0 0] rfl (by simp) rfl
      have d4 := fun o => c4.cell 0 rfl o
      have sE := same_err c3.errc c4.errc
      refine ⟨h4, 0, 0, 0, 0, 0, 0, 0, 0, ⟨none, 0, 0⟩, ⟨none, 0, 0⟩, [], [], [], fun β K => ?_, c4.keep, fun q => absurd (hE.symm.trans q) (by omega)⟩
      unfold F_ref24_ReadLocal
      rw [F_ref24_ReadLocal_gen, e1, e2, hs, bne_self_eq_false, condF]
      refine (e3 β _).trans ?_
      rw [exA_s, c3.errc, exI_s, if_neg o1, bne_iff_ne.2 (by omega), condT, exA_s, c3.errc, if_neg o1, exI_s]
      refine (e4 β _).trans ?_
      rw [sE, condT]
      simp only [d4, Nat.zero_add, Nat.reduceAdd, nth_s, nth_0, exI_s, exS_s']
      rw [hE]
  · have hE : locErr bs p = sigErr bs p 67324752 := by unfold locErr; rw [if_pos hs]
    obtain ⟨h3, e3, c3⟩ := c2.put 0 rfl 0 [Value.int .i64 0, Value.int .i64 0, Value.int .i64 0, Value.int .i64 0, Value.int .i64 0, Value.int .u32 0, Value.int .u32 0, Value.int .u32 0, Value.slice none 0 0, Value.slice none 0 0] [Value.int .i64 0, Value.int .i64 0, Value.int .i64 0, Value.int .i64 0, Value.int .i64 0, Value.int .u32 0, Value.int .u32 0, Value.int .u32 0, Value.slice none 0 0, Value.slice none 0 0] rfl (by simp) rfl
    have d3 := fun o => c3.cell 0 rfl o
    refine ⟨h3, 0, 0, 0, 0, 0, 0, 0, 0, ⟨none, 0, 0⟩, ⟨none, 0, 0⟩, [], [], [], fun β K => ?_, c3.keep, fun q => absurd (hE.symm.trans q) hs⟩
    unfold F_ref24_ReadLocal
    rw [F_ref24_ReadLocal_gen, e1, e2, bne_iff_ne.2 hs, condT]
    refine (e3 β _).trans ?_
    simp only [d3, Nat.zero_add, Nat.reduceAdd, nth_s, nth_0, exI_s, exS_s']
    rw [hE]
set_option maxHeartbeats 4000000 in
theorem RL.readCentral (c : RL h0 h gc s bs p 0 [] []) (h8 : B8 bs) (hm : bs.length ≤ 2000000) {R : Nat} (hR : 4000000 < R) :
    ∃ h' a1 a2 a3 a4 a5 a6 a7 a8 q9 q10 a11 a12 a13 a14 a15 q16 nm ex cm qs', (∀ (β : Type) (K : Int → Int → Int → Int → Int → Int → Int → Int → Sl → Sl → Int → Int → Int → Int → Int → Sl → Int → GH → Option β), F_ref24_ReadCentral R (some ⟨gc, 0, none⟩) h K = K a1 a2 a3 a4 a5 a6 a7 a8 q9 q10 a11 a12 a13 a14 a15 q16 (cenErr bs p) h') ∧ Keep h0 h' [gc] ∧ (cenErr bs p = 0 → (⟨a1, a2, a3, a4, a5, a6, a7, a8, nm, ex, a11, a12, a13, a14, a15, cm⟩ : Cn) = cenAt bs p ∧ RL h0 h' gc s bs p (cenLen bs p) [] qs' ∧ (q9, nm) ∈ qs' ∧ (q10, ex) ∈ qs' ∧ (q16, cm) ∈ qs') := by
  obtain ⟨h1, g2, e1, c1⟩ := c.new [Value.int .i64 0, Value.int .i64 0, Value.int .i64 0, Value.int .i64 0, Value.int .i64 0, Value.int .u32 0, Value.int .u32 0, Value.int .u32 0, Value.slice none 0 0, Value.slice none 0 0, Value.int .i64 0, Value.int .i64 0, Value.int .i64 0, Value.int .u32 0, Value.int .u32 0, Value.slice none 0 0] rfl
  obtain ⟨h2, q0, v0, e2, c2⟩ := c1.sign h8 hm (R := R) (by omega) 33639248
  by_cases hs : sigErr bs p 33639248 = 0
  · obtain ⟨h3, q, vs, e3, c3, w3⟩ := c2.takes hm [2, 2, 2, 2, 2, 2, 4, 4, 4, 2, 2, 2, 2, 2, 4, 4] (by simp) (by simp) R (by omega) (t' := 46) rfl
    have e3 : ∀ (β : Type) (K : Sl → GH → Option β), (gnew [Value.int .i64 2, Value.int .i64 2, Value.int .i64 2, Value.int .i64 2, Value.int .i64 2, Value.int .i64 2, Value.int .i64 4, Value.int .i64 4, Value.int .i64 4, Value.int .i64 2, Value.int .i64 2, Value.int .i64 2, Value.int .i64 2, Value.int .i64 2, Value.int .i64 4, Value.int .i64 4] 1 h2 fun g23 h24 => F_ref24_take R (some ⟨gc, 0, none⟩) ⟨(some ⟨g23, 0, none⟩), 16, 16⟩ h24 K) = K q h3 := e3
    have r3 := (c3.sl q vs (by simp)).1
    by_cases o1 : p + 46 ≤ bs.length
    · have hv := w3 o1
      replace hv : vs = cutL bs (p + 4) 42 := hv
      have hvl : vs.length = 42 := by rw [hv]; unfold cutL; simp; omega
      have h8v : B8 vs := by rw [hv]; exact b8_cut h8 _ _
      have F : ∀ i n, i + n ≤ 42 → fld vs i n = fld bs (p + (4 + i)) n := fun i n hi => by rw [hv, fld_cut _ hi, Nat.add_assoc]
      have hnn : ∀ i, 0 ≤ fld vs i 2 ∧ fld vs i 2 ≤ 65535 := fun i => (fld_bd h8v i).1
      have hz9 : (fld vs 24 2).toNat = szN bs (p + 28) := by rw [F 24 2 (by omega)]; rfl
      have hz10 : (fld vs 26 2).toNat = szN bs (p + 30) := by rw [F 26 2 (by omega)]; rfl
      have hz16 : (fld vs 28 2).toNat = szN bs (p + 32) := by rw [F 28 2 (by omega)]; rfl
      have hqn := r3.n
      have hqc := r3.cap
      obtain ⟨us, hus⟩ : ∃ us, us = vs.drop 2 := ⟨_, rfl⟩
      have ru : Rd h3 ⟨addO q.a (2 * 1), q.n - 2, q.c - 2⟩ us := by
        have := r3.cut (lo := 2) (hi := q.n) (mx := q.c) (by omega) (by omega) (by omega) (Nat.le_refl _)
        rw [List.take_of_length_le (by simp; omega), ← hus] at this; exact this
      have hul : us.length = 40 := by rw [hus]; simp; omega
      have h8u : B8 us := by rw [hus]; exact fun b hb => h8v b (List.mem_of_mem_drop hb)
      have G : ∀ i n, i + n ≤ 40 → fld us i n = fld bs (p + (6 + i)) n := fun i n hi => by
        have : fld us i n = fld vs (2 + i) n := by rw [hus]; unfold fld; rw [List.drop_drop]
        rw [this, F (2 + i) n (by omega), ← Nat.add_assoc 4 2 i]
      obtain ⟨h3', kh, eh⟩ := ref_head ru h8u (by omega) (by omega) (R := R) (by omega)
      have c3' := c3.hop kh
      have r3' := (c3'.sl q vs (by simp)).1
      obtain ⟨h4, g48, e4, c4⟩ := c3'.new [Value.int .i64 0, Value.int .i64 0, Value.int .i64 0, Value.int .i64 0, Value.int .i64 0, Value.int .u32 0, Value.int .u32 0, Value.int .u32 0, Value.slice none 0 0, Value.slice none 0 0, Value.int .i64 0, Value.int .i64 0, Value.int .i64 0, Value.int .u32 0, Value.int .u32 0, Value.slice none 0 0] rfl
      obtain ⟨h5, e5, c5⟩ := c4.put 1 rfl 0 [Value.int .i64 (fld us 0 2), Value.int .i64 (fld us 2 2), Value.int .i64 (fld us 4 2), Value.int .i64 (fld us 6 2), Value.int .i64 (fld us 8 2), Value.int .u32 (fld us 10 4), Value.int .u32 (fld us 14 4), Value.int .u32 (fld us 18 4), Value.slice none 0 0, Value.slice none 0 0, Value.int .i64 (fld vs 0 2), Value.int .i64 (fld vs 30 2), Value.int .i64 (fld vs 32 2), Value.int .u32 (fld vs 34 4), Value.int .u32 (fld vs 38 4), Value.slice none 0 0] [Value.int .i64 (fld us 0 2), Value.int .i64 (fld us 2 2), Value.int .i64 (fld us 4 2), Value.int .i64 (fld us 6 2), Value.int .i64 (fld us 8 2), Value.int .u32 (fld us 10 4), Value.int .u32 (fld us 14 4), Value.int .u32 (fld us 18 4), Value.slice none 0 0, Value.slice none 0 0, Value.int .i64 (fld vs 0 2), Value.int .i64 (fld vs 30 2), Value.int .i64 (fld vs 32 2), Value.int .u32 (fld vs 34 4), Value.int .u32 (fld vs 38 4), Value.slice none 0 0] rfl (by simp) rfl
      have r5 := (c5.sl q vs (by simp)).1
      obtain ⟨h6, q9, nm, e6, c6, w6⟩ := c5.take hm (fld vs 24 2).toNat R
      rw [Int.toNat_of_nonneg (hnn 24).1] at e6
      obtain ⟨h7, e7, c7⟩ := c6.put 1 rfl (0 + 0 + 8) [Value.slice q9.a q9.n q9.c] [Value.int .i64 (fld us 0 2), Value.int .i64 (fld us 2 2), Value.int .i64 (fld us 4 2), Value.int .i64 (fld us 6 2), Value.int .i64 (fld us 8 2), Value.int .u32 (fld us 10 4), Value.int .u32 (fld us 14 4), Value.int .u32 (fld us 18 4), Value.slice q9.a q9.n q9.c, Value.slice none 0 0, Value.int .i64 (fld vs 0 2), Value.int .i64 (fld vs 30 2), Value.int .i64 (fld vs 32 2), Value.int .u32 (fld vs 34 4), Value.int .u32 (fld vs 38 4), Value.slice none 0 0] rfl (by simp) rfl
      have r7 := (c7.sl q vs (by simp)).1
      obtain ⟨h8', q10, ex, e8, c8, w8⟩ := c7.take hm (fld vs 26 2).toNat R
      rw [Int.toNat_of_nonneg (hnn 26).1] at e8
      obtain ⟨h9, e9, c9⟩ := c8.put 1 rfl (0 + 0 + 9) [Value.slice q10.a q10.n q10.c] [Value.int .i64 (fld us 0 2), Value.int .i64 (fld us 2 2), Value.int .i64 (fld us 4 2), Value.int .i64 (fld us 6 2), Value.int .i64 (fld us 8 2), Value.int .u32 (fld us 10 4), Value.int .u32 (fld us 14 4), Value.int .u32 (fld us 18 4), Value.slice q9.a q9.n q9.c, Value.slice q10.a q10.n q10.c, Value.int .i64 (fld vs 0 2), Value.int .i64 (fld vs 30 2), Value.int .i64 (fld vs 32 2), Value.int .u32 (fld vs 34 4), Value.int .u32 (fld vs 38 4), Value.slice none 0 0] rfl (by simp) rfl
      have r9 := (c9.sl q vs (by simp)).1
      obtain ⟨h10, q16, cm, e10, c10, w10⟩ := c9.take hm (fld vs 28 2).toNat R
      rw [Int.toNat_of_nonneg (hnn 28).1] at e10
      obtain ⟨h11, e11, c11⟩ := c10.put 1 rfl (0 + 15) [Value.slice q16.a q16.n q16.c] [Value.int .i64 (fld us 0 2), Value.int .i64 (fld us 2 2), Value.int .i64 (fld us 4 2), Value.int .i64 (fld us 6 2), Value.int .i64 (fld us 8 2), Value.int .u32 (fld us 10 4), Value.int .u32 (fld us 14 4), Value.int .u32 (fld us 18 4), Value.slice q9.a q9.n q9.c, Value.slice q10.a q10.n q10.c, Value.int .i64 (fld vs 0 2), Value.int .i64 (fld vs 30 2), Value.int .i64 (fld vs 32 2), Value.int .u32 (fld vs 34 4), Value.int .u32 (fld vs 38 4), Value.slice q16.a q16.n q16.c] rfl (by simp) rfl
      have dl := fun o => c11.cell 1 rfl o
      by_cases ok : p + (46 + (fld vs 24 2).toNat + (fld vs 26 2).toNat + (fld vs 28 2).toNat) ≤ bs.length
      · have hE : cenErr bs p = 0 := by
          unfold cenErr
          rw [hs, if_neg (by simp), if_neg (by unfold cenLen; rw [← hz9, ← hz10, ← hz16]; omega)]
        obtain ⟨hz, ez, cz⟩ := c11.put 0 rfl 0 [Value.int .i64 (fld us 0 2), Value.int .i64 (fld us 2 2), Value.int .i64 (fld us 4 2), Value.int .i64 (fld us 6 2), Value.int .i64 (fld us 8 2), Value.int .u32 (fld us 10 4), Value.int .u32 (fld us 14 4), Value.int .u32 (fld us 18 4), Value.slice q9.a q9.n q9.c, Value.slice q10.a q10.n q10.c, Value.int .i64 (fld vs 0 2), Value.int .i64 (fld vs 30 2), Value.int .i64 (fld vs 32 2), Value.int .u32 (fld vs 34 4), Value.int .u32 (fld vs 38 4), Value.slice q16.a q16.n q16.c] [Value.int .i64 (fld us 0 2), Value.int .i64 (fld us 2 2), Value.int .i64 (fld us 4 2), Value.int .i64 (fld us 6 2), Value.int .i64 (fld us 8 2), Value.int .u32 (fld us 10 4), Value.int .u32 (fld us 14 4), Value.int .u32 (fld us 18 4), Value.slice q9.a q9.n q9.c, Value.slice q10.a q10.n q10.c, Value.int .i64 (fld vs 0 2), Value.int .i64 (fld vs 30 2), Value.int .i64 (fld vs 32 2), Value.int .u32 (fld vs 34 4), Value.int .u32 (fld vs 38 4), Value.slice q16.a q16.n q16.c] rfl (by simp) rfl
        have dz := fun o => cz.cell 0 rfl o
        have hd := cz.drop 0
        refine ⟨hz, (fld us 0 2), (fld us 2 2), (fld us 4 2), (fld us 6 2), (fld us 8 2), (fld us 10 4), (fld us 14 4), (fld us 18 4), q9, q10, (fld vs 0 2), (fld vs 30 2), (fld vs 32 2), (fld vs 34 4), (fld vs 38 4), q16, nm, ex, cm, [(q16, cm), (q10, ex), (q9, nm), (q, vs), (q0, v0)], fun β K => ?_, cz.keep, fun _ => ⟨?_, ?_, by simp, by simp, by simp⟩⟩
        · unfold F_ref24_ReadCentral
          rw [F_ref24_ReadCentral_gen, e1, e2, hs, bne_self_eq_false, condF]
          refine (e3 β _).trans ?_
          rw [exA_s, c3.errc, exI_s, if_pos o1, bne_self_eq_false, condF]
          refine (at_cutN 0 r3 h8v (by omega) (by omega) (by omega) _).trans ?_
          rw [bnd_t (by omega) (by omega)]
          refine (eh β _).trans ?_
          refine (at_cutN 30 r3' h8v (by omega) (by omega) (by omega) _).trans ?_
          refine (at_cutN 32 r3' h8v (by omega) (by omega) (by omega) _).trans ?_
          refine (num_cutN 34 r3' h8v (by omega) (by omega) _).trans ?_
          refine (num_cutN 38 r3' h8v (by omega) (by omega) _).trans ?_
          rw [e4]
          refine (e5 β _).trans ?_
          refine (at_cutN 24 r5 h8v (by omega) (by omega) (by omega) _).trans ?_
          refine (e6 β _).trans ?_
          refine (e7 β _).trans ?_
          refine (at_cutN 26 r7 h8v (by omega) (by omega) (by omega) _).trans ?_
          refine (e8 β _).trans ?_
          refine (e9 β _).trans ?_
          refine (at_cutN 28 r9 h8v (by omega) (by omega) (by omega) _).trans ?_
          refine (e10 β _).trans ?_
          refine (e11 β _).trans ?_
          rw [exA_s, c11.errc, exI_s, if_pos ok, bne_self_eq_false, condF]
          simp only [dl, Nat.zero_add, Nat.reduceAdd, nth_s, nth_0, exI_s, exS_s']
          refine (ez β _).trans ?_
          simp only [dz, Nat.zero_add, Nat.reduceAdd, nth_s, nth_0, exI_s, exS_s']
          rw [hE]
        · unfold cenAt
          rw [G 0 2 (by omega), G 2 2 (by omega), G 4 2 (by omega), G 6 2 (by omega), G 8 2 (by omega), G 10 4 (by omega), G 14 4 (by omega), G 18 4 (by omega), F 0 2 (by omega), F 30 2 (by omega), F 32 2 (by omega), F 34 4 (by omega), F 38 4 (by omega), w6 (by omega), w8 (by omega), w10 ok, hz9, hz10, hz16]
        · have : 46 + (fld vs 24 2).toNat + (fld vs 26 2).toNat + (fld vs 28 2).toNat = cenLen bs p := by unfold cenLen; rw [← hz9, ← hz10, ← hz16]
          rw [← this]; exact hd
      · have hE : cenErr bs p = 3 := by
          unfold cenErr
          rw [hs, if_neg (by simp), if_pos (.inr (by unfold cenLen; rw [← hz9, ← hz10, ← hz16]; omega))]
        obtain ⟨hz, ez, cz⟩ := c11.put 0 rfl 0 [Value.int .i64 0, Value.int .i64 0, Value.int .i64 0, Value.int .i64 0, Value.int .i64 0, Value.int .u32 0, Value.int .u32 0, Value.int .u32 0, Value.slice none 0 0, Value.slice none 0 0, Value.int .i64 0, Value.int .i64 0, Value.int .i64 0, Value.int .u32 0, Value.int .u32 0, Value.slice none 0 0] [Value.int .i64 0, Value.int .i64 0, Value.int .i64 0, Value.int .i64 0, Value.int .i64 0, Value.int .u32 0, Value.int .u32 0, Value.int .u32 0, Value.slice none 0 0, Value.slice none 0 0, Value.int .i64 0, Value.int .i64 0, Value.int .i64 0, Value.int .u32 0, Value.int .u32 0, Value.slice none 0 0] rfl (by simp) rfl
        have dz := fun o => cz.cell 0 rfl o
        have sE := same_err c11.errc cz.errc
        refine ⟨hz, 0, 0, 0, 0, 0, 0, 0, 0, ⟨none, 0, 0⟩, ⟨none, 0, 0⟩, 0, 0, 0, 0, 0, ⟨none, 0, 0⟩, [], [], [], [], fun β K => ?_, cz.keep, fun q => absurd (hE.symm.trans q) (by omega)⟩
        unfold F_ref24_ReadCentral
        rw [F_ref24_ReadCentral_gen, e1, e2, hs, bne_self_eq_false, condF]
        refine (e3 β _).trans ?_
        rw [exA_s, c3.errc, exI_s, if_pos o1, bne_self_eq_false, condF]
        refine (at_cutN 0 r3 h8v (by omega) (by omega) (by omega) _).trans ?_
        rw [bnd_t (by omega) (by omega)]
        refine (eh β _).trans ?_
        refine (at_cutN 30 r3' h8v (by omega) (by omega) (by omega) _).trans ?_
        refine (at_cutN 32 r3' h8v (by omega) (by omega) (by omega) _).trans ?_
        refine (num_cutN 34 r3' h8v (by omega) (by omega) _).trans ?_
        refine (num_cutN 38 r3' h8v (by omega) (by omega) _).trans ?_
        rw [e4]
        refine (e5 β _).trans ?_
        refine (at_cutN 24 r5 h8v (by omega) (by omega) (by omega) _).trans ?_
        refine (e6 β _).trans ?_
        refine (e7 β _).trans ?_
        refine (at_cutN 26 r7 h8v (by omega) (by omega) (by omega) _).trans ?_
        refine (e8 β _).trans ?_
        refine (e9 β _).trans ?_
        refine (at_cutN 28 r9 h8v (by omega) (by omega) (by omega) _).trans ?_
        refine (e10 β _).trans ?_
        refine (e11 β _).trans ?_
        rw [exA_s, c11.errc, exI_s, if_neg ok, bne_iff_ne.2 (by omega), condT, exA_s, c11.errc, if_neg ok, exI_s]
        refine (ez β _).trans ?_
        rw [sE, condT]
        simp only [dz, Nat.zero_add, Nat.reduceAdd, nth_s, nth_0, exI_s, exS_s']
        rw [hE]
    · have hE : cenErr bs p = 3 := by
        unfold cenErr
        rw [hs, if_neg (by simp), if_pos (.inl (by omega))]
      obtain ⟨h4, e4, c4⟩ := c3.put 0 rfl 0 [Value.int .i64 0, Value.int .i64 0, Value.int .i64 0, Value.int .i64 0, Value.int .i64 0, Value.int .u32 0, Value.int .u32 0, Value.int .u32 0, Value.slice none 0 0, Value.slice none 0 0, Value.int .i64 0, Value.int .i64 0, Value.int .i64 0, Value.int .u32 0, Value.int .u32 0, Value.slice none 0 0] [Value.int .i64 0, Value.int .i64 0, Value.int .i64 0, Value.int .i64 0, Value.int .i64 0, Value.int .u32 0, Value.int .u32 0, Value.int .u32 0, Value.slice none 0 0, Value.slice none 0 0, Value.int .i64 0, Value.int .i64 0, Value.int .i64 0, Value.int .u32 0, Value.int .u32 0, Value.slice none 0 0] rfl (by simp) rfl
      have d4 := fun o => c4.cell 0 rfl o
      have sE := same_err c3.errc c4.errc
      refine ⟨h4, 0, 0, 0, 0, 0, 0, 0, 0, ⟨none, 0, 0⟩, ⟨none, 0, 0⟩, 0, 0, 0, 0, 0, ⟨none, 0, 0⟩, [], [], [], [], fun β K => ?_, c4.keep, fun q => absurd (hE.symm.trans q) (by omega)⟩
      unfold F_ref24_ReadCentral
      rw [F_ref24_ReadCentral_gen, e1, e2, hs, bne_self_eq_false, condF]
      refine (e3 β _).trans ?_
      rw [exA_s, c3.errc, exI_s, if_neg o1, bne_iff_ne.2 (by omega), condT, exA_s, c3.errc, if_neg o1, exI_s]
      refine (e4 β _).trans ?_
      rw [sE, condT]
      simp only [d4, Nat.zero_add, Nat.reduceAdd, nth_s, nth_0, exI_s, exS_s']
      rw [hE]
  · have hE : cenErr bs p = sigErr bs p 33639248 := by unfold cenErr; rw [if_pos hs]
    obtain ⟨h3, e3, c3⟩ := c2.put 0 rfl 0 [Value.int .i64 0, Value.int .i64 0, Value.int .i64 0, Value.int .i64 0, Value.int .i64 0, Value.int .u32 0, Value.int .u32 0, Value.int .u32 0, Value.slice none 0 0, Value.slice none 0 0, Value.int .i64 0, Value.int .i64 0, Value.int .i64 0, Value.int .u32 0, Value.int .u32 0, Value.slice none 0 0] [Value.int .i64 0, Value.int .i64 0, Value.int .i64 0, Value.int .i64 0, Value.int .i64 0, Value.int .u32 0, Value.int .u32 0, Value.int .u32 0, Value.slice none 0 0, Value.slice none 0 0, Value.int .i64 0, Value.int .i64 0, Value.int .i64 0, Value.int .u32 0, Value.int .u32 0, Value.slice none 0 0] rfl (by simp) rfl
    have d3 := fun o => c3.cell 0 rfl o
    refine ⟨h3, 0, 0, 0, 0, 0, 0, 0, 0, ⟨none, 0, 0⟩, ⟨none, 0, 0⟩, 0, 0, 0, 0, 0, ⟨none, 0, 0⟩, [], [], [], [], fun β K => ?_, c3.keep, fun q => absurd (hE.symm.trans q) hs⟩
    unfold F_ref24_ReadCentral
    rw [F_ref24_ReadCentral_gen, e1, e2, bne_iff_ne.2 hs, condT]
    refine (e3 β _).trans ?_
    simp only [d3, Nat.zero_add, Nat.reduceAdd, nth_s, nth_0, exI_s, exS_s']
    rw [hE]
end
end Go.Proofs.Ytibngikhlgmhaaa.Gx

