/- Records read by the program: ends, local headers, central headers. No condition. -/
import Derived.Test.YtibngikhlgmhaaaDnB
namespace Go.Proofs.Ytibngikhlgmhaaa.Gx
open Go
set_option linter.unusedVariables false
set_option linter.unusedSimpArgs false
section
variable {h0 h : GH} {gc : Nat} {s : Sl} {bs : List Int} {p : Nat}
theorem sl_nil : (⟨none, 0, 0⟩ : Sl) = ⟨none, 0, 0⟩ := rfl
theorem sz_of {bs : List Int} (h8 : B8 bs) {p : Nat} {v : Int} (h : v = fld bs p 2) : v.toNat = szN bs p := by rw [h]; rfl
theorem CL.readEnd (c : CL h0 h gc s bs p 0 [] []) (h8 : B8 bs) (hm : bs.length ≤ 274877906944) {R : Nat} (hR : 8 < R) :
    ∃ h' b1 b2 b3 b4 b5 b6 q cm, (∀ (β : Type) (K : Int → Int → Int → Int → Int → Int → Sl → Int → GH → Option β), F_record_ReadEnd R (some ⟨gc, 0, none⟩) h K = K b1 b2 b3 b4 b5 b6 q (endErr bs p) h') ∧ Keep h0 h' [gc] ∧ (endErr bs p = 0 → (⟨b1, b2, b3, b4, b5, b6, cm⟩ : En) = endAt bs p ∧ CL h0 h' gc s bs p (endLen bs p) [] [(q, cm)]) := by
  obtain ⟨h1, g2, e1, c1⟩ := c.new [Value.int .i64 0, Value.int .i64 0, Value.int .i64 0, Value.int .i64 0, Value.int .u32 0, Value.int .u32 0, Value.slice none 0 0] rfl
  obtain ⟨h2, e2, c2⟩ := c1.sign h8 hm hR 101010256
  by_cases hs : sigErr bs p 101010256 = 0
  · obtain ⟨h3, v1, e3, c3, b1, w1⟩ := c2.u16 h8 hm hR (t' := 6) rfl
    obtain ⟨h4, v2, e4, c4, b2, w2⟩ := c3.u16 h8 hm hR (t' := 8) rfl
    obtain ⟨h5, v3, e5, c5, b3, w3⟩ := c4.u16 h8 hm hR (t' := 10) rfl
    obtain ⟨h6, v4, e6, c6, b4, w4⟩ := c5.u16 h8 hm hR (t' := 12) rfl
    obtain ⟨h7, v5, e7, c7, b5, w5⟩ := c6.u32 h8 hm hR (t' := 16) rfl
    obtain ⟨h8', v6, e8, c8, b6, w6⟩ := c7.u32 h8 hm hR (t' := 20) rfl
    obtain ⟨h9, g26, e9, c9⟩ := c8.new [Value.int .i64 0, Value.int .i64 0, Value.int .i64 0, Value.int .i64 0, Value.int .u32 0, Value.int .u32 0, Value.slice none 0 0] rfl
    obtain ⟨h10, e10, c10⟩ := c9.put 1 rfl 0 [Value.int .i64 v1, Value.int .i64 v2, Value.int .i64 v3, Value.int .i64 v4, Value.int .u32 v5, Value.int .u32 v6, Value.slice none 0 0] [Value.int .i64 v1, Value.int .i64 v2, Value.int .i64 v3, Value.int .i64 v4, Value.int .u32 v5, Value.int .u32 v6, Value.slice none 0 0] rfl (by simp) rfl
    obtain ⟨h11, v7, e11, c11, b7, w7⟩ := c10.u16 h8 hm hR (t' := 22) rfl
    obtain ⟨h12, q, cm, e12, c12, wc⟩ := c11.bytes hm b7.1 R
    obtain ⟨h13, e13, c13⟩ := c12.put 1 rfl (0 + 6) [Value.slice q.a q.n q.c] [Value.int .i64 v1, Value.int .i64 v2, Value.int .i64 v3, Value.int .i64 v4, Value.int .u32 v5, Value.int .u32 v6, Value.slice q.a q.n q.c] rfl (by simp) rfl
    have d13 := fun o => c13.cell 1 rfl o
    by_cases ok : p + (22 + v7.toNat) ≤ bs.length
    · have hz := sz_of h8 (w7 (by omega))
      have hE : endErr bs p = 0 := by
        unfold endErr
        rw [hs, if_neg (by simp), if_neg (by rw [endLen, ← hz]; omega)]
      obtain ⟨h14, e14, c14⟩ := c13.put 0 rfl 0 [Value.int .i64 v1, Value.int .i64 v2, Value.int .i64 v3, Value.int .i64 v4, Value.int .u32 v5, Value.int .u32 v6, Value.slice q.a q.n q.c] [Value.int .i64 v1, Value.int .i64 v2, Value.int .i64 v3, Value.int .i64 v4, Value.int .u32 v5, Value.int .u32 v6, Value.slice q.a q.n q.c] rfl (by simp) rfl
      have d14 := fun o => c14.cell 0 rfl o
      have hd := c14.drop 0
      refine ⟨h14, v1, v2, v3, v4, v5, v6, q, cm, fun β K => ?_, c14.keep, fun _ => ⟨?_, ?_⟩⟩
      · unfold F_record_ReadEnd
        rw [F_record_ReadEnd_gen, e1, e2, hs, bne_self_eq_false, condF, e3, e4, e5, e6, e7, e8, e9, e10, e11, e12, e13, c13.err, if_pos ok, bne_self_eq_false, condF]
        simp only [d13, Nat.zero_add, Nat.reduceAdd, nth_s, nth_0, exI_s, exS_s']
        rw [e14]
        simp only [d14, Nat.zero_add, Nat.reduceAdd, nth_s, nth_0, exI_s, exS_s']
        rw [hE]
      · unfold endAt
        rw [w1 (by omega), w2 (by omega), w3 (by omega), w4 (by omega), w5 (by omega), w6 (by omega), wc ok, hz]
      · rw [endLen, ← hz]; exact hd
    · have hE : endErr bs p = 3 := by
        unfold endErr
        rw [hs, if_neg (by simp)]
        by_cases o2 : p + 22 ≤ bs.length
        · rw [if_pos (.inr (by rw [endLen, ← sz_of h8 (w7 o2)]; omega))]
        · rw [if_pos (.inl (by omega))]
      obtain ⟨h14, e14, c14⟩ := c13.put 0 rfl 0 [Value.int .i64 0, Value.int .i64 0, Value.int .i64 0, Value.int .i64 0, Value.int .u32 0, Value.int .u32 0, Value.slice none 0 0] [Value.int .i64 0, Value.int .i64 0, Value.int .i64 0, Value.int .i64 0, Value.int .u32 0, Value.int .u32 0, Value.slice none 0 0] rfl (by simp) rfl
      have d14 := fun o => c14.cell 0 rfl o
      refine ⟨h14, 0, 0, 0, 0, 0, 0, ⟨none, 0, 0⟩, [], fun β K => ?_, c14.keep, fun q => absurd (hE.symm.trans q) (by omega)⟩
      unfold F_record_ReadEnd
      rw [F_record_ReadEnd_gen, e1, e2, hs, bne_self_eq_false, condF, e3, e4, e5, e6, e7, e8, e9, e10, e11, e12, e13, c13.err, if_neg ok, bne_iff_ne.2 (by omega), condT, e14]
      simp only [d14, Nat.zero_add, Nat.reduceAdd, nth_s, nth_0, exI_s, exS_s']
      rw [hE]
  · have hE : endErr bs p = sigErr bs p 101010256 := by unfold endErr; rw [if_pos hs]
    obtain ⟨h3, e3, c3⟩ := c2.put 0 rfl 0 [Value.int .i64 0, Value.int .i64 0, Value.int .i64 0, Value.int .i64 0, Value.int .u32 0, Value.int .u32 0, Value.slice none 0 0] [Value.int .i64 0, Value.int .i64 0, Value.int .i64 0, Value.int .i64 0, Value.int .u32 0, Value.int .u32 0, Value.slice none 0 0] rfl (by simp) rfl
    have d3 := fun o => c3.cell 0 rfl o
    refine ⟨h3, 0, 0, 0, 0, 0, 0, ⟨none, 0, 0⟩, [], fun β K => ?_, c3.keep, fun q => absurd (hE.symm.trans q) hs⟩
    unfold F_record_ReadEnd
    rw [F_record_ReadEnd_gen, e1, e2, bne_iff_ne.2 hs, condT, e3]
    simp only [d3, Nat.zero_add, Nat.reduceAdd, nth_s, nth_0, exI_s, exS_s']
    rw [hE]
theorem CL.readLocal (c : CL h0 h gc s bs p 0 [] []) (h8 : B8 bs) (hm : bs.length ≤ 274877906944) {R : Nat} (hR : 8 < R) :
    ∃ h' a1 a2 a3 a4 a5 a6 a7 a8 q9 q10 nm ex, (∀ (β : Type) (K : Int → Int → Int → Int → Int → Int → Int → Int → Sl → Sl → Int → GH → Option β), F_record_ReadLocal R (some ⟨gc, 0, none⟩) h K = K a1 a2 a3 a4 a5 a6 a7 a8 q9 q10 (locErr bs p) h') ∧ Keep h0 h' [gc] ∧ (locErr bs p = 0 → (⟨a1, a2, a3, a4, a5, a6, a7, a8, nm, ex⟩ : Hd) = locAt bs p ∧ CL h0 h' gc s bs p (locLen bs p) [] [(q10, ex), (q9, nm)]) := by
  obtain ⟨h1, g2, e1, c1⟩ := c.new [Value.int .i64 0, Value.int .i64 0, Value.int .i64 0, Value.int .i64 0, Value.int .i64 0, Value.int .u32 0, Value.int .u32 0, Value.int .u32 0, Value.slice none 0 0, Value.slice none 0 0] rfl
  obtain ⟨h2, e2, c2⟩ := c1.sign h8 hm hR 67324752
  by_cases hs : sigErr bs p 67324752 = 0
  · obtain ⟨h3, v1, v2, v3, v4, v5, v6, v7, v8, v9, v10, e3, c3, b9, b10, w⟩ := c2.head h8 hm hR (t' := 30) rfl
    obtain ⟨h4, g31, e4, c4⟩ := c3.new [Value.int .i64 0, Value.int .i64 0, Value.int .i64 0, Value.int .i64 0, Value.int .i64 0, Value.int .u32 0, Value.int .u32 0, Value.int .u32 0, Value.slice none 0 0, Value.slice none 0 0] rfl
    obtain ⟨h5, g33, e5, c5⟩ := c4.new [Value.int .i64 0, Value.int .i64 0, Value.int .i64 0] rfl
    obtain ⟨h6, e6, c6⟩ := c5.put 1 rfl 0 [Value.int .i64 v1, Value.int .i64 v2, Value.int .i64 v3, Value.int .i64 v4, Value.int .i64 v5, Value.int .u32 v6, Value.int .u32 v7, Value.int .u32 v8, Value.slice none 0 0, Value.slice none 0 0] [Value.int .i64 v1, Value.int .i64 v2, Value.int .i64 v3, Value.int .i64 v4, Value.int .i64 v5, Value.int .u32 v6, Value.int .u32 v7, Value.int .u32 v8, Value.slice none 0 0, Value.slice none 0 0] rfl (by simp) rfl
    obtain ⟨h7, e7, c7⟩ := c6.put 2 rfl 0 [Value.int .i64 v9, Value.int .i64 v10, Value.int .i64 0] [Value.int .i64 v9, Value.int .i64 v10, Value.int .i64 0] rfl (by simp) rfl
    obtain ⟨h8', q9, nm, e8, c8, w9⟩ := c7.bytes hm b9.1 R
    obtain ⟨h9, q10, ex, e9, c9, w10⟩ := c8.bytes hm b10.1 R
    obtain ⟨h10, e10, c10⟩ := c9.put 1 rfl (0 + 8) [Value.slice q9.a q9.n q9.c] [Value.int .i64 v1, Value.int .i64 v2, Value.int .i64 v3, Value.int .i64 v4, Value.int .i64 v5, Value.int .u32 v6, Value.int .u32 v7, Value.int .u32 v8, Value.slice q9.a q9.n q9.c, Value.slice none 0 0] rfl (by simp) rfl
    obtain ⟨h11, e11, c11⟩ := c10.put 1 rfl (0 + 9) [Value.slice q10.a q10.n q10.c] [Value.int .i64 v1, Value.int .i64 v2, Value.int .i64 v3, Value.int .i64 v4, Value.int .i64 v5, Value.int .u32 v6, Value.int .u32 v7, Value.int .u32 v8, Value.slice q9.a q9.n q9.c, Value.slice q10.a q10.n q10.c] rfl (by simp) rfl
    have d7 := fun o => c7.cell 2 rfl o
    have d8 := fun o => c8.cell 2 rfl o
    have d11 := fun o => c11.cell 1 rfl o
    have sA : sameAt g33 1 1 h7 h8' = true := by simp only [sameAt_1, d7, d8, nth_s, nth_0, veqO_i]
    by_cases ok : p + (30 + v9.toNat + v10.toNat) ≤ bs.length
    · obtain ⟨u1, u2, u3, u4, u5, u6, u7, u8, u9, u10⟩ := w (by omega)
      have hz9 := sz_of h8 u9
      have hz10 := sz_of h8 u10
      have hE : locErr bs p = 0 := by
        unfold locErr
        rw [hs, if_neg (by simp), if_neg (by rw [locLen, ← hz9, ← hz10]; omega)]
      obtain ⟨h14, e14, c14⟩ := c11.put 0 rfl 0 [Value.int .i64 v1, Value.int .i64 v2, Value.int .i64 v3, Value.int .i64 v4, Value.int .i64 v5, Value.int .u32 v6, Value.int .u32 v7, Value.int .u32 v8, Value.slice q9.a q9.n q9.c, Value.slice q10.a q10.n q10.c] [Value.int .i64 v1, Value.int .i64 v2, Value.int .i64 v3, Value.int .i64 v4, Value.int .i64 v5, Value.int .u32 v6, Value.int .u32 v7, Value.int .u32 v8, Value.slice q9.a q9.n q9.c, Value.slice q10.a q10.n q10.c] rfl (by simp) rfl
      have d14 := fun o => c14.cell 0 rfl o
      have hd := c14.drop 0
      refine ⟨h14, v1, v2, v3, v4, v5, v6, v7, v8, q9, q10, nm, ex, fun β K => ?_, c14.keep, fun _ => ⟨?_, ?_⟩⟩
      · unfold F_record_ReadLocal
        rw [F_record_ReadLocal_gen, e1, e2, hs, bne_self_eq_false, condF, e3, e4, e5]
        refine (e6 β _).trans ?_
        rw [e7]
        simp only [d7, Nat.zero_add, Nat.reduceAdd, nth_s, nth_0, exI_s]
        rw [e8]
        simp only [d8, Nat.zero_add, Nat.reduceAdd, nth_s, nth_0, exI_s]
        rw [e9]
        refine (e10 β _).trans ?_
        refine (e11 β _).trans ?_
        rw [sA, condT, c11.err]
        rw [if_pos ok, bne_self_eq_false, condF]
        simp only [d11, Nat.zero_add, Nat.reduceAdd, nth_s, nth_0, exI_s, exS_s']
        refine (e14 β _).trans ?_
        simp only [d14, Nat.zero_add, Nat.reduceAdd, nth_s, nth_0, exI_s, exS_s']
        rw [hE]
      · unfold locAt
        rw [u1, u2, u3, u4, u5, u6, u7, u8, w9 (by omega), w10 ok, hz9, hz10]
      · rw [locLen, ← hz9, ← hz10]; exact hd
    · have hE : locErr bs p = 3 := by
        unfold locErr
        rw [hs, if_neg (by simp)]
        by_cases o2 : p + 30 ≤ bs.length
        · obtain ⟨u1, u2, u3, u4, u5, u6, u7, u8, u9, u10⟩ := w o2
          rw [if_pos (.inr (by rw [locLen, ← sz_of h8 u9, ← sz_of h8 u10]; omega))]
        · rw [if_pos (.inl (by omega))]
      obtain ⟨h14, e14, c14⟩ := c11.put 0 rfl 0 [Value.int .i64 0, Value.int .i64 0, Value.int .i64 0, Value.int .i64 0, Value.int .i64 0, Value.int .u32 0, Value.int .u32 0, Value.int .u32 0, Value.slice none 0 0, Value.slice none 0 0] [Value.int .i64 0, Value.int .i64 0, Value.int .i64 0, Value.int .i64 0, Value.int .i64 0, Value.int .u32 0, Value.int .u32 0, Value.int .u32 0, Value.slice none 0 0, Value.slice none 0 0] rfl (by simp) rfl
      have d14 := fun o => c14.cell 0 rfl o
      refine ⟨h14, 0, 0, 0, 0, 0, 0, 0, 0, ⟨none, 0, 0⟩, ⟨none, 0, 0⟩, [], [], fun β K => ?_, c14.keep, fun q => absurd (hE.symm.trans q) (by omega)⟩
      unfold F_record_ReadLocal
      rw [F_record_ReadLocal_gen, e1, e2, hs, bne_self_eq_false, condF, e3, e4, e5]
      refine (e6 β _).trans ?_
      rw [e7]
      simp only [d7, Nat.zero_add, Nat.reduceAdd, nth_s, nth_0, exI_s]
      rw [e8]
      simp only [d8, Nat.zero_add, Nat.reduceAdd, nth_s, nth_0, exI_s]
      rw [e9]
      refine (e10 β _).trans ?_
      refine (e11 β _).trans ?_
      rw [sA, condT, c11.err]
      rw [if_neg ok, bne_iff_ne.2 (by omega), condT]
      refine (e14 β _).trans ?_
      simp only [d14, Nat.zero_add, Nat.reduceAdd, nth_s, nth_0, exI_s, exS_s']
      rw [hE]
  · have hE : locErr bs p = sigErr bs p 67324752 := by unfold locErr; rw [if_pos hs]
    obtain ⟨h3, e3, c3⟩ := c2.put 0 rfl 0 [Value.int .i64 0, Value.int .i64 0, Value.int .i64 0, Value.int .i64 0, Value.int .i64 0, Value.int .u32 0, Value.int .u32 0, Value.int .u32 0, Value.slice none 0 0, Value.slice none 0 0] [Value.int .i64 0, Value.int .i64 0, Value.int .i64 0, Value.int .i64 0, Value.int .i64 0, Value.int .u32 0, Value.int .u32 0, Value.int .u32 0, Value.slice none 0 0, Value.slice none 0 0] rfl (by simp) rfl
    have d3 := fun o => c3.cell 0 rfl o
    refine ⟨h3, 0, 0, 0, 0, 0, 0, 0, 0, ⟨none, 0, 0⟩, ⟨none, 0, 0⟩, [], [], fun β K => ?_, c3.keep, fun q => absurd (hE.symm.trans q) hs⟩
    unfold F_record_ReadLocal
    rw [F_record_ReadLocal_gen, e1, e2, bne_iff_ne.2 hs, condT]
    refine (e3 β _).trans ?_
    simp only [d3, Nat.zero_add, Nat.reduceAdd, nth_s, nth_0, exI_s, exS_s']
    rw [hE]
set_option maxHeartbeats 4000000 in
theorem CL.readCentral (c : CL h0 h gc s bs p 0 [] []) (h8 : B8 bs) (hm : bs.length ≤ 274877906944) {R : Nat} (hR : 8 < R) :
    ∃ h' a1 a2 a3 a4 a5 a6 a7 a8 q9 q10 a11 a12 a13 a14 a15 q16 nm ex cm, (∀ (β : Type) (K : Int → Int → Int → Int → Int → Int → Int → Int → Sl → Sl → Int → Int → Int → Int → Int → Sl → Int → GH → Option β), F_record_ReadCentral R (some ⟨gc, 0, none⟩) h K = K a1 a2 a3 a4 a5 a6 a7 a8 q9 q10 a11 a12 a13 a14 a15 q16 (cenErr bs p) h') ∧ Keep h0 h' [gc] ∧ (cenErr bs p = 0 → (⟨a1, a2, a3, a4, a5, a6, a7, a8, nm, ex, a11, a12, a13, a14, a15, cm⟩ : Cn) = cenAt bs p ∧ CL h0 h' gc s bs p (cenLen bs p) [] [(q16, cm), (q10, ex), (q9, nm)]) := by
  obtain ⟨h1, g2, e1, c1⟩ := c.new [Value.int .i64 0, Value.int .i64 0, Value.int .i64 0, Value.int .i64 0, Value.int .i64 0, Value.int .u32 0, Value.int .u32 0, Value.int .u32 0, Value.slice none 0 0, Value.slice none 0 0, Value.int .i64 0, Value.int .i64 0, Value.int .i64 0, Value.int .u32 0, Value.int .u32 0, Value.slice none 0 0] rfl
  obtain ⟨h2, e2, c2⟩ := c1.sign h8 hm hR 33639248
  by_cases hs : sigErr bs p 33639248 = 0
  · obtain ⟨h3, v11, e3, c3, b11, w11⟩ := c2.u16 h8 hm hR (t' := 6) rfl
    obtain ⟨h4, g25, e4, c4⟩ := c3.new [Value.int .i64 0, Value.int .i64 0, Value.int .i64 0, Value.int .i64 0, Value.int .i64 0, Value.int .u32 0, Value.int .u32 0, Value.int .u32 0, Value.slice none 0 0, Value.slice none 0 0, Value.int .i64 0, Value.int .i64 0, Value.int .i64 0, Value.int .u32 0, Value.int .u32 0, Value.slice none 0 0] rfl
    obtain ⟨h5, e5, c5⟩ := c4.put 1 rfl 0 [Value.int .i64 0, Value.int .i64 0, Value.int .i64 0, Value.int .i64 0, Value.int .i64 0, Value.int .u32 0, Value.int .u32 0, Value.int .u32 0, Value.slice none 0 0, Value.slice none 0 0, Value.int .i64 v11, Value.int .i64 0, Value.int .i64 0, Value.int .u32 0, Value.int .u32 0, Value.slice none 0 0] [Value.int .i64 0, Value.int .i64 0, Value.int .i64 0, Value.int .i64 0, Value.int .i64 0, Value.int .u32 0, Value.int .u32 0, Value.int .u32 0, Value.slice none 0 0, Value.slice none 0 0, Value.int .i64 v11, Value.int .i64 0, Value.int .i64 0, Value.int .u32 0, Value.int .u32 0, Value.slice none 0 0] rfl (by simp) rfl
    obtain ⟨h6, v1, v2, v3, v4, v5, v6, v7, v8, n9, n10, e6, c6, b9, b10, w⟩ := c5.head h8 hm hR (t' := 32) rfl
    obtain ⟨h7, g42, e7, c7⟩ := c6.new [Value.int .i64 0, Value.int .i64 0, Value.int .i64 0, Value.int .i64 0, Value.int .i64 0, Value.int .u32 0, Value.int .u32 0, Value.int .u32 0, Value.slice none 0 0, Value.slice none 0 0] rfl
    obtain ⟨h8', g44, e8, c8⟩ := c7.new [Value.int .i64 0, Value.int .i64 0, Value.int .i64 0] rfl
    obtain ⟨h9, e9, c9⟩ := c8.put 2 rfl 0 [Value.int .i64 v1, Value.int .i64 v2, Value.int .i64 v3, Value.int .i64 v4, Value.int .i64 v5, Value.int .u32 v6, Value.int .u32 v7, Value.int .u32 v8, Value.slice none 0 0, Value.slice none 0 0] [Value.int .i64 v1, Value.int .i64 v2, Value.int .i64 v3, Value.int .i64 v4, Value.int .i64 v5, Value.int .u32 v6, Value.int .u32 v7, Value.int .u32 v8, Value.slice none 0 0, Value.slice none 0 0] rfl (by simp) rfl
    obtain ⟨h10, e10, c10⟩ := c9.put 3 rfl 0 [Value.int .i64 n9, Value.int .i64 n10, Value.int .i64 0] [Value.int .i64 n9, Value.int .i64 n10, Value.int .i64 0] rfl (by simp) rfl
    obtain ⟨h11, n16, e11, c11, b16, w16⟩ := c10.u16 h8 hm hR (t' := 34) rfl
    obtain ⟨h12, e12, c12⟩ := c11.put 3 rfl (0 + 2) [Value.int .i64 n16] [Value.int .i64 n9, Value.int .i64 n10, Value.int .i64 n16] rfl (by simp) rfl
    obtain ⟨h13, v12, e13, c13, b12, w12⟩ := c12.u16 h8 hm hR (t' := 36) rfl
    obtain ⟨h14, v13, e14, c14, b13, w13⟩ := c13.u16 h8 hm hR (t' := 38) rfl
    obtain ⟨h15, v14, e15, c15, b14, w14⟩ := c14.u32 h8 hm hR (t' := 42) rfl
    obtain ⟨h16, v15, e16, c16, b15, w15⟩ := c15.u32 h8 hm hR (t' := 46) rfl
    obtain ⟨h17, e17, c17⟩ := c16.put 1 rfl (0 + 11) [Value.int .i64 v12] [Value.int .i64 0, Value.int .i64 0, Value.int .i64 0, Value.int .i64 0, Value.int .i64 0, Value.int .u32 0, Value.int .u32 0, Value.int .u32 0, Value.slice none 0 0, Value.slice none 0 0, Value.int .i64 v11, Value.int .i64 v12, Value.int .i64 0, Value.int .u32 0, Value.int .u32 0, Value.slice none 0 0] rfl (by simp) rfl
    obtain ⟨h18, e18, c18⟩ := c17.put 1 rfl (0 + 12) [Value.int .i64 v13] [Value.int .i64 0, Value.int .i64 0, Value.int .i64 0, Value.int .i64 0, Value.int .i64 0, Value.int .u32 0, Value.int .u32 0, Value.int .u32 0, Value.slice none 0 0, Value.slice none 0 0, Value.int .i64 v11, Value.int .i64 v12, Value.int .i64 v13, Value.int .u32 0, Value.int .u32 0, Value.slice none 0 0] rfl (by simp) rfl
    obtain ⟨h19, e19, c19⟩ := c18.put 1 rfl (0 + 13) [Value.int .u32 v14] [Value.int .i64 0, Value.int .i64 0, Value.int .i64 0, Value.int .i64 0, Value.int .i64 0, Value.int .u32 0, Value.int .u32 0, Value.int .u32 0, Value.slice none 0 0, Value.slice none 0 0, Value.int .i64 v11, Value.int .i64 v12, Value.int .i64 v13, Value.int .u32 v14, Value.int .u32 0, Value.slice none 0 0] rfl (by simp) rfl
    obtain ⟨h20, e20, c20⟩ := c19.put 1 rfl (0 + 14) [Value.int .u32 v15] [Value.int .i64 0, Value.int .i64 0, Value.int .i64 0, Value.int .i64 0, Value.int .i64 0, Value.int .u32 0, Value.int .u32 0, Value.int .u32 0, Value.slice none 0 0, Value.slice none 0 0, Value.int .i64 v11, Value.int .i64 v12, Value.int .i64 v13, Value.int .u32 v14, Value.int .u32 v15, Value.slice none 0 0] rfl (by simp) rfl
    obtain ⟨h21, q9, nm, e21, c21, u9⟩ := c20.bytes hm b9.1 R
    obtain ⟨h22, q10, ex, e22, c22, u10⟩ := c21.bytes hm b10.1 R
    obtain ⟨h23, q16, cm, e23, c23, u16⟩ := c22.bytes hm b16.1 R
    obtain ⟨h24, e24, c24⟩ := c23.put 2 rfl (0 + 8) [Value.slice q9.a q9.n q9.c] [Value.int .i64 v1, Value.int .i64 v2, Value.int .i64 v3, Value.int .i64 v4, Value.int .i64 v5, Value.int .u32 v6, Value.int .u32 v7, Value.int .u32 v8, Value.slice q9.a q9.n q9.c, Value.slice none 0 0] rfl (by simp) rfl
    obtain ⟨h25, e25, c25⟩ := c24.put 2 rfl (0 + 9) [Value.slice q10.a q10.n q10.c] [Value.int .i64 v1, Value.int .i64 v2, Value.int .i64 v3, Value.int .i64 v4, Value.int .i64 v5, Value.int .u32 v6, Value.int .u32 v7, Value.int .u32 v8, Value.slice q9.a q9.n q9.c, Value.slice q10.a q10.n q10.c] rfl (by simp) rfl
    obtain ⟨h26, e26, c26⟩ := c25.put 1 rfl (0 + 15) [Value.slice q16.a q16.n q16.c] [Value.int .i64 0, Value.int .i64 0, Value.int .i64 0, Value.int .i64 0, Value.int .i64 0, Value.int .u32 0, Value.int .u32 0, Value.int .u32 0, Value.slice none 0 0, Value.slice none 0 0, Value.int .i64 v11, Value.int .i64 v12, Value.int .i64 v13, Value.int .u32 v14, Value.int .u32 v15, Value.slice q16.a q16.n q16.c] rfl (by simp) rfl
    obtain ⟨h27, e27, c27⟩ := c26.put 1 rfl (0 + 0) [Value.int .i64 v1, Value.int .i64 v2, Value.int .i64 v3, Value.int .i64 v4, Value.int .i64 v5, Value.int .u32 v6, Value.int .u32 v7, Value.int .u32 v8, Value.slice q9.a q9.n q9.c, Value.slice q10.a q10.n q10.c] [Value.int .i64 v1, Value.int .i64 v2, Value.int .i64 v3, Value.int .i64 v4, Value.int .i64 v5, Value.int .u32 v6, Value.int .u32 v7, Value.int .u32 v8, Value.slice q9.a q9.n q9.c, Value.slice q10.a q10.n q10.c, Value.int .i64 v11, Value.int .i64 v12, Value.int .i64 v13, Value.int .u32 v14, Value.int .u32 v15, Value.slice q16.a q16.n q16.c] rfl (by simp) rfl
    have d20 := fun o => c20.cell 3 rfl o
    have d21 := fun o => c21.cell 3 rfl o
    have d22 := fun o => c22.cell 3 rfl o
    have d26 := fun o => c26.cell 2 rfl o
    have d27 := fun o => c27.cell 1 rfl o
    have sA : sameAt g44 2 1 h21 h22 = true := by simp only [sameAt_1, d21, d22, nth_s, nth_0, veqO_i]
    have sB : sameAt g44 2 1 h20 h21 = true := by simp only [sameAt_1, d20, d21, nth_s, nth_0, veqO_i]
    have sC : sameAt g44 1 1 h20 h21 = true := by simp only [sameAt_1, d20, d21, nth_s, nth_0, veqO_i]
    by_cases ok : p + (46 + n9.toNat + n10.toNat + n16.toNat) ≤ bs.length
    · obtain ⟨t1, t2, t3, t4, t5, t6, t7, t8, t9, t10⟩ := w (by omega)
      have hz9 := sz_of h8 t9
      have hz10 := sz_of h8 t10
      have hz16 := sz_of h8 (w16 (by omega))
      have hE : cenErr bs p = 0 := by
        unfold cenErr
        rw [hs, if_neg (by simp), if_neg (by rw [cenLen, ← hz9, ← hz10, ← hz16]; omega)]
      obtain ⟨h28, e28, c28⟩ := c27.put 0 rfl 0 [Value.int .i64 v1, Value.int .i64 v2, Value.int .i64 v3, Value.int .i64 v4, Value.int .i64 v5, Value.int .u32 v6, Value.int .u32 v7, Value.int .u32 v8, Value.slice q9.a q9.n q9.c, Value.slice q10.a q10.n q10.c, Value.int .i64 v11, Value.int .i64 v12, Value.int .i64 v13, Value.int .u32 v14, Value.int .u32 v15, Value.slice q16.a q16.n q16.c] [Value.int .i64 v1, Value.int .i64 v2, Value.int .i64 v3, Value.int .i64 v4, Value.int .i64 v5, Value.int .u32 v6, Value.int .u32 v7, Value.int .u32 v8, Value.slice q9.a q9.n q9.c, Value.slice q10.a q10.n q10.c, Value.int .i64 v11, Value.int .i64 v12, Value.int .i64 v13, Value.int .u32 v14, Value.int .u32 v15, Value.slice q16.a q16.n q16.c] rfl (by simp) rfl
      have d28 := fun o => c28.cell 0 rfl o
      have hd := c28.drop 0
      refine ⟨h28, v1, v2, v3, v4, v5, v6, v7, v8, q9, q10, v11, v12, v13, v14, v15, q16, nm, ex, cm, fun β K => ?_, c28.keep, fun _ => ⟨?_, ?_⟩⟩
      · unfold F_record_ReadCentral
        rw [F_record_ReadCentral_gen, e1, e2, hs, bne_self_eq_false, condF, e3, e4]
        refine (e5 β _).trans ?_
        rw [e6, e7, e8]
        refine (e9 β _).trans ?_
        rw [e10, e11, e12, e13, e14, e15, e16]
        refine (e17 β _).trans ?_
        refine (e18 β _).trans ?_
        refine (e19 β _).trans ?_
        refine (e20 β _).trans ?_
        simp only [d20, Nat.zero_add, Nat.reduceAdd, nth_s, nth_0, exI_s]
        rw [e21]
        simp only [d21, Nat.zero_add, Nat.reduceAdd, nth_s, nth_0, exI_s]
        rw [e22]
        simp only [d22, Nat.zero_add, Nat.reduceAdd, nth_s, nth_0, exI_s]
        rw [e23]
        refine (e24 β _).trans ?_
        refine (e25 β _).trans ?_
        refine (e26 β _).trans ?_
        rw [sA, condT, sB, condT, sC, condT]
        simp only [d26, Nat.zero_add, Nat.reduceAdd, nth_s, nth_0, exI_s, exS_s']
        refine (e27 β _).trans ?_
        rw [c27.err]
        rw [if_pos ok, bne_self_eq_false, condF]
        simp only [d27, Nat.zero_add, Nat.reduceAdd, nth_s, nth_0, exI_s, exS_s']
        refine (e28 β _).trans ?_
        simp only [d28, Nat.zero_add, Nat.reduceAdd, nth_s, nth_0, exI_s, exS_s']
        rw [hE]
      · unfold cenAt
        rw [t1, t2, t3, t4, t5, t6, t7, t8, w11 (by omega), w12 (by omega), w13 (by omega), w14 (by omega), w15 (by omega), u9 (by omega), u10 (by omega), u16 ok, hz9, hz10, hz16]
      · rw [cenLen, ← hz9, ← hz10, ← hz16]; exact hd
    · have hE : cenErr bs p = 3 := by
        unfold cenErr
        rw [hs, if_neg (by simp)]
        by_cases o2 : p + 46 ≤ bs.length
        · obtain ⟨t1, t2, t3, t4, t5, t6, t7, t8, t9, t10⟩ := w (by omega)
          rw [if_pos (.inr (by rw [cenLen, ← sz_of h8 t9, ← sz_of h8 t10, ← sz_of h8 (w16 (by omega))]; omega))]
        · rw [if_pos (.inl (by omega))]
      obtain ⟨h28, e28, c28⟩ := c27.put 0 rfl 0 [Value.int .i64 0, Value.int .i64 0, Value.int .i64 0, Value.int .i64 0, Value.int .i64 0, Value.int .u32 0, Value.int .u32 0, Value.int .u32 0, Value.slice none 0 0, Value.slice none 0 0, Value.int .i64 0, Value.int .i64 0, Value.int .i64 0, Value.int .u32 0, Value.int .u32 0, Value.slice none 0 0] [Value.int .i64 0, Value.int .i64 0, Value.int .i64 0, Value.int .i64 0, Value.int .i64 0, Value.int .u32 0, Value.int .u32 0, Value.int .u32 0, Value.slice none 0 0, Value.slice none 0 0, Value.int .i64 0, Value.int .i64 0, Value.int .i64 0, Value.int .u32 0, Value.int .u32 0, Value.slice none 0 0] rfl (by simp) rfl
      have d28 := fun o => c28.cell 0 rfl o
      refine ⟨h28, 0, 0, 0, 0, 0, 0, 0, 0, ⟨none, 0, 0⟩, ⟨none, 0, 0⟩, 0, 0, 0, 0, 0, ⟨none, 0, 0⟩, [], [], [], fun β K => ?_, c28.keep, fun q => absurd (hE.symm.trans q) (by omega)⟩
      unfold F_record_ReadCentral
      rw [F_record_ReadCentral_gen, e1, e2, hs, bne_self_eq_false, condF, e3, e4]
      refine (e5 β _).trans ?_
      rw [e6, e7, e8]
      refine (e9 β _).trans ?_
      rw [e10, e11, e12, e13, e14, e15, e16]
      refine (e17 β _).trans ?_
      refine (e18 β _).trans ?_
      refine (e19 β _).trans ?_
      refine (e20 β _).trans ?_
      simp only [d20, Nat.zero_add, Nat.reduceAdd, nth_s, nth_0, exI_s]
      rw [e21]
      simp only [d21, Nat.zero_add, Nat.reduceAdd, nth_s, nth_0, exI_s]
      rw [e22]
      simp only [d22, Nat.zero_add, Nat.reduceAdd, nth_s, nth_0, exI_s]
      rw [e23]
      refine (e24 β _).trans ?_
      refine (e25 β _).trans ?_
      refine (e26 β _).trans ?_
      rw [sA, condT, sB, condT, sC, condT]
      simp only [d26, Nat.zero_add, Nat.reduceAdd, nth_s, nth_0, exI_s, exS_s']
      refine (e27 β _).trans ?_
      rw [c27.err]
      rw [if_neg ok, bne_iff_ne.2 (by omega), condT]
      refine (e28 β _).trans ?_
      simp only [d28, Nat.zero_add, Nat.reduceAdd, nth_s, nth_0, exI_s, exS_s']
      rw [hE]
  · have hE : cenErr bs p = sigErr bs p 33639248 := by unfold cenErr; rw [if_pos hs]
    obtain ⟨h3, e3, c3⟩ := c2.put 0 rfl 0 [Value.int .i64 0, Value.int .i64 0, Value.int .i64 0, Value.int .i64 0, Value.int .i64 0, Value.int .u32 0, Value.int .u32 0, Value.int .u32 0, Value.slice none 0 0, Value.slice none 0 0, Value.int .i64 0, Value.int .i64 0, Value.int .i64 0, Value.int .u32 0, Value.int .u32 0, Value.slice none 0 0] [Value.int .i64 0, Value.int .i64 0, Value.int .i64 0, Value.int .i64 0, Value.int .i64 0, Value.int .u32 0, Value.int .u32 0, Value.int .u32 0, Value.slice none 0 0, Value.slice none 0 0, Value.int .i64 0, Value.int .i64 0, Value.int .i64 0, Value.int .u32 0, Value.int .u32 0, Value.slice none 0 0] rfl (by simp) rfl
    have d3 := fun o => c3.cell 0 rfl o
    refine ⟨h3, 0, 0, 0, 0, 0, 0, 0, 0, ⟨none, 0, 0⟩, ⟨none, 0, 0⟩, 0, 0, 0, 0, 0, ⟨none, 0, 0⟩, [], [], [], fun β K => ?_, c3.keep, fun q => absurd (hE.symm.trans q) hs⟩
    unfold F_record_ReadCentral
    rw [F_record_ReadCentral_gen, e1, e2, bne_iff_ne.2 hs, condT]
    refine (e3 β _).trans ?_
    simp only [d3, Nat.zero_add, Nat.reduceAdd, nth_s, nth_0, exI_s, exS_s']
    rw [hE]
end
end Go.Proofs.Ytibngikhlgmhaaa.Gx

