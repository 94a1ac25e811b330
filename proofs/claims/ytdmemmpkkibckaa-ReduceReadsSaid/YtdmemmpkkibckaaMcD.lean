/- One byte fed, to the program's machine and to the document's: the same answer, the same state. No condition. -/
import Derived.Test.YtdmemmpkkibckaaMcC
namespace Go.Proofs.Ytdmemmpkkibckaa.Gx
open Go
set_option linter.unusedVariables false
variable {R : Nat}
structure MRes where
  e : Int
  S : Int
  V : Int
  N : Int
  bs : List Int
/-- what a byte brings -/
def feedR (f size S V N : Int) (bs : List Int) (c : Int) : MRes :=
  if fullB S size bs = true then ⟨9, S, V, N, bs⟩
  else if S = 0 then (if c = 144 then ⟨0, 1, V, N, bs⟩ else ⟨(litR size bs c).1, S, V, N, (litR size bs c).2⟩)
  else if S = 1 then (if c = 0 then ⟨(litR size bs 144).1, if (litR size bs 144).1 = 0 then 0 else S, V, N, (litR size bs 144).2⟩
    else ⟨0, if c % lowR f = lowR f - 1 then 2 else 3, c, c % lowR f, bs⟩)
  else if S = 2 then ⟨0, 3, V, N + c, bs⟩
  else ⟨(copyR size bs (256 * (V / lowR f) + c + 1) (N + 3)).1, if (copyR size bs (256 * (V / lowR f) + c + 1) (N + 3)).1 = 0 then 0 else S, V, N, (copyR size bs (256 * (V / lowR f) + c + 1) (N + 3)).2⟩
/-- a machine's numbers -/
structure Ok (f size S V N : Int) (bs : List Int) (i : Nat) : Prop where
  pf : 1 ≤ f ∧ f ≤ 4
  ps : 0 ≤ size ∧ size ≤ 9223372036854775807
  pS : S = 0 ∨ S = 1 ∨ S = 2 ∨ S = 3
  pV : 0 ≤ V ∧ V ≤ 255
  pN : 0 ≤ N ∧ N ≤ 382
  pN2 : S = 2 → N ≤ 127
  le : (bs.length : Int) ≤ size
  lt : bs.length ≤ 400 * i
variable {h : GH} {m g : Nat} {f size S V N : Int} {s : Sl} {bs : List Int}
theorem litR_le {c : Int} (hl : (bs.length : Int) ≤ size) : ((litR size bs c).2.length : Int) ≤ size ∧ (litR size bs c).2.length ≤ bs.length + 1 := by
  unfold litR; split
  · exact ⟨hl, by simp⟩
  · simp; omega
theorem copyR_le {d n : Int} (hl : (bs.length : Int) ≤ size) (hn : 0 ≤ n ∧ n ≤ 385) : ((copyR size bs d n).2.length : Int) ≤ size ∧ (copyR size bs d n).2.length ≤ bs.length + 385 := by
  unfold copyR
  (repeat' split) <;> simp only [grow_length] <;> omega
theorem Ok.next {i : Nat} (o : Ok f size S V N bs i) {c : Int} (hc : 0 ≤ c ∧ c ≤ 255) : Ok f size (feedR f size S V N bs c).S (feedR f size S V N bs c).V (feedR f size S V N bs c).N (feedR f size S V N bs c).bs (i + 1) := by
  have q1 := litR_le (c := c) o.le
  have q2 := litR_le (c := 144) o.le
  have q3 := copyR_le (d := 256 * (V / lowR f) + c + 1) (n := N + 3) o.le (by have := o.pN; omega)
  have hlow := lowR_in (f := f)
  obtain ⟨o1, o2, o3, o4, o5, o6, o7, o8⟩ := o
  have hm : 0 ≤ c % lowR f ∧ c % lowR f ≤ 127 := by
    rcases hlow with h | h | h | h <;> rw [h] <;> omega
  unfold feedR
  split
  · exact ⟨o1, o2, o3, o4, o5, o6, o7, by show bs.length ≤ _; omega⟩
  split
  · split
    · exact ⟨o1, o2, by simp, o4, o5, by simp, o7, by show bs.length ≤ _; omega⟩
    · exact ⟨o1, o2, o3, o4, o5, o6, q1.1, by show (litR size bs c).2.length ≤ _; omega⟩
  split
  · split
    · exact ⟨o1, o2, by show (if _ then (0 : Int) else S) = 0 ∨ _; split <;> simp_all, o4, o5, by show (if _ then (0 : Int) else S) = 2 → _; split <;> simp_all, q2.1, by show (litR size bs 144).2.length ≤ _; omega⟩
    · exact ⟨o1, o2, by show (if _ then (2 : Int) else 3) = 0 ∨ _; split <;> simp, by show 0 ≤ c ∧ c ≤ 255; exact hc, by show 0 ≤ c % lowR f ∧ c % lowR f ≤ 382; omega, fun _ => hm.2, o7, by show bs.length ≤ _; omega⟩
  split
  · rename_i hS
    have := o6 hS
    exact ⟨o1, o2, by simp, o4, by show 0 ≤ N + c ∧ N + c ≤ 382; omega, by simp, o7, by show bs.length ≤ _; omega⟩
  · exact ⟨o1, o2, by show (if _ then (0 : Int) else S) = 0 ∨ _; split <;> simp_all, o4, o5, by show (if _ then (0 : Int) else S) = 2 → _; split <;> simp_all, q3.1, by show (copyR size bs _ _).2.length ≤ _; omega⟩
theorem feed_both (own : Bool) (M : Mach h m g f size S V N s bs) {i : Nat} (o : Ok f size S V N bs i) (hi : i ≤ 100000) (hR : 1000 < R) {c : Int} (hc : 0 ≤ c ∧ c ≤ 255) :
    ∃ h' s', (∀ (β : Type) (K : Int → GH → Option β), (bif own then (F_dle_Machine_Feed R) (some ⟨m, 0, none⟩) c h K else (F_ref13_Machine_Feed R) (some ⟨m, 0, none⟩) c h K) = K (feedR f size S V N bs c).e h') ∧
      Mach h' m g f size (feedR f size S V N bs c).S (feedR f size S V N bs c).V (feedR f size S V N bs c).N s' (feedR f size S V N bs c).bs ∧ Keep h h' (ownM m g s) ∧ ∀ k ∈ ownM m g s', k ∈ ownM m g s ∨ h.next ≤ k := by
  have hlen : bs.length ≤ 40000000 := by have := o.lt; omega
  have hwc : IntKind.wrap .i64 c = c := IntWalk.i64_in _ (by omega)
  -- the way to the switch
  have own0 : ∀ (β : Type) (K : Int → GH → Option β), (F_dle_Machine_Feed R) (some ⟨m, 0, none⟩) c h K = (bif fullB S size bs then K 9 h else (bif S == 0 then (bif c != 144 then (F_hist_Out_Lit R) (some ⟨g, 0, none⟩) c h K else gput m (0 + 2) [Value.int .i64 1] h fun h17 => K 0 h17) else (bif S == 1 then (F_dle_Machine_begin R) (some ⟨m, 0, none⟩) c h K else (bif S == 2 then gput m (0 + 4) [Value.int .i64 (IntKind.wrap .i64 (N + c))] h fun h25 => gput m (0 + 2) [Value.int .i64 3] h25 fun h28 => K 0 h28 else (bif S == 3 then (F_hist_Out_Copy R) (some ⟨g, 0, none⟩) (256 * (V / lowR f) + c + 1) (N + 3) h fun r41 h42 => (bif r41 != 0 then K r41 h42 else gput m (0 + 2) [Value.int .i64 0] h42 fun h45 => K 0 h45) else K 0 h))))) := fun β K => by
    have w1 : decide (IntKind.wrap .i64 (8 - f) < 0) = false := decide_eq_false (by have := o.pf; rw [IntWalk.i64_in _ (by omega)]; omega)
    have w2 := (tabI o.pV o.pf).2.1
    have w3 : IntKind.wrap .i64 (IntKind.wrap .i64 (256 * (V / lowR f) + c) + 1) = 256 * (V / lowR f) + c + 1 := by
      have hV := o.pV
      have : 0 ≤ V / lowR f ∧ V / lowR f ≤ 255 := by rcases lowR_in (f := f) with h | h | h | h <;> rw [h] <;> omega
      rw [IntWalk.i64_in (256 * (V / lowR f) + c) (by omega), IntWalk.i64_in _ (by omega)]
    have w4 : IntKind.wrap .i64 (N + 3) = N + 3 := IntWalk.i64_in _ (by have := o.pN; omega)
    unfold F_dle_Machine_Feed; rw [F_dle_Machine_Feed_gen, dle_Machine_ok_mach M, notT, condF, dle_Machine_Full_mach M]
    simp only [exA_s, M.c0, M.c1, M.c2, M.c3, M.c4, exI_s, exP_s, hwc, w1, condF, w2, w3, w4]
  have ref0 : ∀ (β : Type) (K : Int → GH → Option β), (F_ref13_Machine_Feed R) (some ⟨m, 0, none⟩) c h K = (bif fullB S size bs then K 9 h else (bif S == 0 then (bif c == 144 then gput m (0 + 2) [Value.int .i64 1] h fun h15 => K 0 h15 else (F_ref07_Out_Lit R) (some ⟨g, 0, none⟩) c h K) else (bif S == 1 then (bif c == 0 then (F_ref07_Out_Lit R) (some ⟨g, 0, none⟩) 144 h fun r24 h25 => (bif r24 == 0 then gput m (0 + 2) [Value.int .i64 0] h25 fun h28 => K r24 h28 else K r24 h25) else gput m (0 + 3) [Value.int .i64 c] h fun h31 => gput m (0 + 4) [Value.int .i64 (c % lowR f)] h31 fun h34 => gput m (0 + 2) [Value.int .i64 3] h34 fun h37 => exI .i64 (h37.cell ⟨m, 0 + 4, none⟩) fun x40 => (bif x40 == lowR f - 1 then gput m (0 + 2) [Value.int .i64 2] h37 fun h43 => K 0 h43 else K 0 h37)) else (bif S == 2 then gput m (0 + 4) [Value.int .i64 (IntKind.wrap .i64 (N + c))] h fun h49 => gput m (0 + 2) [Value.int .i64 3] h49 fun h52 => K 0 h52 else (F_ref07_Out_Copy R) (some ⟨g, 0, none⟩) (256 * (V / lowR f) + c + 1) (N + 3) h fun r62 h63 => (bif r62 != 0 then K r62 h63 else gput m (0 + 2) [Value.int .i64 0] h63 fun h66 => K 0 h66))))) := fun β K => by
    have hlow := lowR_in (f := f)
    have w1 : decide (lowR f = 0) = false := decide_eq_false (by rcases hlow with h | h | h | h <;> rw [h] <;> omega)
    have w2 := (tabI hc o.pf).2.2.1
    have w5 := (tabI o.pV o.pf).2.2.2
    have w6 : 0 ≤ V / lowR f ∧ V / lowR f ≤ 255 := by have hV := o.pV; rcases hlow with h | h | h | h <;> rw [h] <;> omega
    have w3 : IntKind.wrap .i64 (IntKind.wrap .i64 (IntKind.wrap .i64 (256 * IntKind.wrap .i64 (V / lowR f)) + c) + 1) = 256 * (V / lowR f) + c + 1 := by
      rw [IntWalk.i64_in (V / lowR f) (by omega), IntWalk.i64_in (256 * (V / lowR f)) (by omega), IntWalk.i64_in (256 * (V / lowR f) + c) (by omega), IntWalk.i64_in _ (by omega)]
    have w4 : IntKind.wrap .i64 (N + 3) = N + 3 := IntWalk.i64_in _ (by have := o.pN; omega)
    have w7 : IntKind.wrap .i64 (lowR f - 1) = lowR f - 1 := IntWalk.i64_in _ (by rcases hlow with h | h | h | h <;> rw [h] <;> omega)
    unfold F_ref13_Machine_Feed; rw [F_ref13_Machine_Feed_gen, ref13_Machine_Full_mach M]
    simp only [exA_s, M.c0, exI_s, ref13_two_f o.pf (by omega : 8 ≤ R)]
    simp only [M.c1, M.c2, M.c3, M.c4, exI_s, exP_s, hwc, w1, condF, w2, w5, w3, w4, w7]
  by_cases hF : fullB S size bs = true
  · refine ⟨h, s, fun β K => ?_, by simpa [feedR, hF] using M, .refl _ _, fun k hk => .inl hk⟩
    have he : (feedR f size S V N bs c).e = 9 := by simp [feedR, hF]
    rw [own0, ref0, hF, condT, condT, he]
    cases own <;> simp
  have hF' : fullB S size bs = false := by simpa using hF
  by_cases h0 : S = 0
  · subst h0
    by_cases h144 : c = 144
    · obtain ⟨h1, e1, M1, k1⟩ := M.setS 1
      refine ⟨h1, s, fun β K => ?_, by simpa [feedR, hF', h144] using M1, k1, fun k hk => .inl hk⟩
      have he : (feedR f size 0 V N bs c).e = 0 := by simp [feedR, hF', h144]
      subst h144
      rw [own0, ref0, hF', condF, condF, beq_self_eq_true, condT, condT, bne_self_eq_false, condF, beq_self_eq_true, condT, e1, he]
      cases own <;> simp
    · obtain ⟨h1, s1, e1, o1, k1, n1⟩ := lit_out (R := R) M.out c o.le (by omega)
      obtain ⟨M1, k2, n2⟩ := M.withOut o1 k1 n1
      refine ⟨h1, s1, fun β K => ?_, by simpa [feedR, hF', h144] using M1, k2, n2⟩
      have he : (feedR f size 0 V N bs c).e = (litR size bs c).1 := by simp [feedR, hF', h144]
      rw [own0, ref0, hF', condF, condF, beq_self_eq_true, condT, condT, bne_iff_ne.2 h144, condT, beq_eq_false_iff_ne.2 h144, condF, (e1 β K).1, (e1 β K).2, he]
      cases own <;> simp
  have b0 : (S == 0) = false := beq_eq_false_iff_ne.2 h0
  by_cases h1 : S = 1
  · subst h1
    by_cases hc0 : c = 0
    · subst hc0
      obtain ⟨h1, s1, e1, o1, k1, n1⟩ := lit_out (R := R) M.out 144 o.le (by omega)
      obtain ⟨M1, k2, n2⟩ := M.withOut o1 k1 n1
      have he : (feedR f size 1 V N bs 0).e = (litR size bs 144).1 := by simp [feedR, hF']
      have ew : ∀ (β : Type) (K : Int → GH → Option β), (F_dle_Machine_begin R) (some ⟨m, 0, none⟩) 0 h K = (F_hist_Out_Lit R) (some ⟨g, 0, none⟩) 144 h fun r6 h7 => (bif r6 != 0 then K r6 h7 else gput m (0 + 2) [Value.int .i64 0] h7 fun h10 => K 0 h10) := fun β K => by
        unfold F_dle_Machine_begin; rw [F_dle_Machine_begin_gen, beq_self_eq_true, condT]
        simp only [exA_s, M.c1, exP_s]
      by_cases hz : (litR size bs 144).1 = 0
      · obtain ⟨h2, e2, M2, k3⟩ := M1.setS 0
        refine ⟨h2, s1, fun β K => ?_, by simpa [feedR, hF', hz] using M2, k2.trans k3 n2, n2⟩
        rw [own0, ref0, hF', condF, condF, b0, condF, condF, beq_self_eq_true, condT, condT, ew, (e1 β _).1, beq_self_eq_true, condT, (e1 β _).2, he, hz, bne_self_eq_false, condF, e2, beq_self_eq_true, condT]
        cases own <;> simp
      · refine ⟨h1, s1, fun β K => ?_, by simpa [feedR, hF', hz] using M1, k2, n2⟩
        rw [own0, ref0, hF', condF, condF, b0, condF, condF, beq_self_eq_true, condT, condT, ew, (e1 β _).1, beq_self_eq_true, condT, (e1 β _).2, he, bne_iff_ne.2 hz, condT, beq_eq_false_iff_ne.2 hz, condF]
        cases own <;> simp
    · obtain ⟨h1, e1, M1, k1⟩ := M.setV c
      obtain ⟨h2, e2, M2, k2⟩ := M1.setN (c % lowR f)
      obtain ⟨h3, e3, M3, k3⟩ := M2.setS 3
      have he : (feedR f size 1 V N bs c).e = 0 := by simp [feedR, hF', hc0]
      have hb := (tabI hc o.pf).1
      have ew : ∀ (β : Type) (K : Int → GH → Option β), (F_dle_Machine_begin R) (some ⟨m, 0, none⟩) c h K = (bif c % lowR f == lowR f - 1 then gput m (0 + 2) [Value.int .i64 2] h3 fun h38 => K 0 h38 else K 0 h3) := fun β K => by
        unfold F_dle_Machine_begin; rw [F_dle_Machine_begin_gen, beq_eq_false_iff_ne.2 hc0, condF]
        have s1 : sameAt m (0 + 3) 1 h1 h1 = true := same1 M1.c3 M1.c3 (by simp [veq])
        have s3 : sameAt m (0 + 4) 1 h3 h3 = true := same1 M3.c4 M3.c4 (by simp [veq])
        simp only [exA_s, hwc, e1]
        simp only [M1.c3, M1.c0, exI_s, dle_mask_f o.pf]
        rw [hb, e2, s1, condT, e3]
        simp only [M3.c4, M3.c0, exI_s, dle_mask_f o.pf]
        rw [s3, condT]
      by_cases hz : c % lowR f = lowR f - 1
      · obtain ⟨h4, e4, M4, k4⟩ := M3.setS 2
        refine ⟨h4, s, fun β K => ?_, by simpa [feedR, hF', hc0, hz] using (hz ▸ M4), ((k1.trans k2 fun _ h => .inl h).trans k3 fun _ h => .inl h).trans k4 fun _ h => .inl h, fun k hk => .inl hk⟩
        rw [own0, ref0, hF', condF, condF, b0, condF, condF, beq_self_eq_true, condT, condT, ew, beq_eq_false_iff_ne.2 hc0, condF, e1, e2, e3, M3.c4, exI_s, he, hz, beq_self_eq_true, condT, e4]
        cases own <;> simp
      · refine ⟨h3, s, fun β K => ?_, by simpa [feedR, hF', hc0, hz] using M3, (k1.trans k2 fun _ h => .inl h).trans k3 fun _ h => .inl h, fun k hk => .inl hk⟩
        rw [own0, ref0, hF', condF, condF, b0, condF, condF, beq_self_eq_true, condT, condT, ew, beq_eq_false_iff_ne.2 hc0, condF, e1, e2, e3, M3.c4, exI_s, he, beq_eq_false_iff_ne.2 hz, condF]
        cases own <;> simp
  have b1 : (S == 1) = false := beq_eq_false_iff_ne.2 h1
  by_cases h2 : S = 2
  · subst h2
    have hwn : IntKind.wrap .i64 (N + c) = N + c := IntWalk.i64_in _ (by have := o.pN; omega)
    obtain ⟨h1, e1, M1, k1⟩ := M.setN (N + c)
    obtain ⟨h2, e2, M2, k2⟩ := M1.setS 3
    have he : (feedR f size 2 V N bs c).e = 0 := by simp [feedR, hF']
    refine ⟨h2, s, fun β K => ?_, by simpa [feedR, hF'] using M2, k1.trans k2 fun _ h => .inl h, fun k hk => .inl hk⟩
    rw [own0, ref0, hF', condF, condF, b0, condF, condF, b1, condF, condF, beq_self_eq_true, condT, condT, hwn, e1, e2, he]
    cases own <;> simp
  have b2 : (S == 2) = false := beq_eq_false_iff_ne.2 h2
  have h3 : S = 3 := by have := o.pS; omega
  subst h3
  obtain ⟨h1, s1, e1, o1, k1, n1⟩ := copy_out (R := R) own M.out (256 * (V / lowR f) + c + 1) (N + 3) o.ps.2 o.le (by have := o.pN; omega) (by omega) (by have := o.pN; omega)
  obtain ⟨M1, k2, n2⟩ := M.withOut o1 k1 n1
  have he : (feedR f size 3 V N bs c).e = (copyR size bs (256 * (V / lowR f) + c + 1) (N + 3)).1 := by simp [feedR, hF']
  by_cases hz : (copyR size bs (256 * (V / lowR f) + c + 1) (N + 3)).1 = 0
  · obtain ⟨h2, e2, M2, k3⟩ := M1.setS 0
    refine ⟨h2, s1, fun β K => ?_, by simpa [feedR, hF', hz] using M2, k2.trans k3 n2, n2⟩
    rw [own0, ref0, hF', condF, condF, b0, condF, condF, b1, condF, condF, b2, condF, condF, beq_self_eq_true, condT, e1, he, hz, bne_self_eq_false, condF, e2]
  · refine ⟨h1, s1, fun β K => ?_, by simpa [feedR, hF', hz] using M1, k2, n2⟩
    rw [own0, ref0, hF', condF, condF, b0, condF, condF, b1, condF, condF, b2, condF, condF, beq_self_eq_true, condT, e1, he, bne_iff_ne.2 hz, condT]
end Go.Proofs.Ytdmemmpkkibckaa.Gx

