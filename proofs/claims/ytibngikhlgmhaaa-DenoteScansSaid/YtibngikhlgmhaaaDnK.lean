/- A local header with its data, the central headers, all of an archive: the document's one, heads, Scan. No condition. -/
import Derived.Test.YtibngikhlgmhaaaDnJ
namespace Go.Proofs.Ytibngikhlgmhaaa.Gx
open Go
set_option linter.unusedVariables false
set_option linter.unusedSimpArgs false
theorem RL.addq {h0 h : GH} {gc : Nat} {s : Sl} {bs : List Int} {p t : Nat} {ls : List (Nat × List Value)} {qs : List (Sl × List Int)} (c : RL h0 h gc s bs p t ls qs) {q : Sl} {vs : List Int} (r : Rd h q vs) {B : Nat} (hB : h0.next ≤ B) (hq : ∀ k ∈ rowsOf q, B ≤ k) (hls : ∀ (i g : Nat) (cs : List Value), ls[i]? = some (g, cs) → g < B) : RL h0 h gc s bs p t ls ((q, vs) :: qs) := by
  refine ⟨c.cur, c.lt, c.loc, c.ne, fun q' vs' hm => ?_, c.keep⟩
  rcases List.mem_cons.1 hm with e | e
  · cases e
    exact ⟨r, fun k hk => ⟨by have := hq k hk; omega, fun i g cs hi => by have := hq k hk; have := hls i g cs hi; omega⟩⟩
  · exact c.sl q' vs' e
theorem rleft_eq {h : GH} {g : Nat} {s : Sl} {bs : List Int} {p : Nat} (C : RCur h g s bs (p : Nat) 0) (hp : p ≤ bs.length) (hm : bs.length ≤ 2000000) (R : Nat) {β : Type} (K : Int → GH → Option β) : F_ref02_Cursor_Left R (some ⟨g, 0, none⟩) h K = K ((bs.length : Int) - (p : Nat)) h := by
  have hn := C.rd.n
  have c0 : h.cell ⟨g, 0 + 0, none⟩ = some (.slice s.a s.n s.c) := by rw [cell_of C.hd]; rfl
  have c1 : h.cell ⟨g, 0 + 1, none⟩ = some (.int .i64 (p : Nat)) := by rw [cell_of C.hd]; rfl
  have c2 : h.cell ⟨g, 0 + 2, none⟩ = some (.int .i64 0) := by rw [cell_of C.hd]; rfl
  unfold F_ref02_Cursor_Left
  rw [F_ref02_Cursor_Left_gen, exA_s, c2, exI_s, bne_self_eq_false, condF, exA_s, c0, exS_s', exA_s, c1, exI_s, show (⟨s.a, s.n, s.c⟩ : Sl).n = bs.length from hn, i64w (by omega)]

set_option maxHeartbeats 4000000 in
theorem ref_one {h : GH} {gc : Nat} {s : Sl} {LB : List Int} {p : Nat} (C : RCur h gc s LB (p : Nat) 0) (hp : p ≤ LB.length) (h8 : B8 LB) (hm : LB.length ≤ 2000000) (c : Cn) {s9 s10 s16 : Sl} (r9 : Rd h s9 c.nm) (hgs : gc ∉ rowsOf s9) (hnl : c.nm.length ≤ 2000000) (h15 : 0 ≤ c.a15 ∧ c.a15 ≤ 4294967295) {R : Nat} (hR : 4000000 < R) :
    ∃ h' q17 q18, Keep h h' [gc] ∧ (oneErr LB c p = 0 → RCur h' gc s LB ((p + oneLen LB p : Nat) : Int) 0 ∧ Rd h' q17 (oneIt LB c p).ex ∧ Rd h' q18 (oneIt LB c p).da ∧ (∀ k ∈ rowsOf q17, h.next ≤ k) ∧ (∀ k ∈ rowsOf q18, h.next ≤ k) ∧ ∀ (β : Type) (K : Int → Int → Int → Int → Int → Int → Int → Int → Sl → Sl → Int → Int → Int → Int → Int → Sl → Sl → Sl → Int → GH → Option β), F_ref26_one R (some ⟨gc, 0, none⟩) c.a1 c.a2 c.a3 c.a4 c.a5 c.a6 c.a7 c.a8 s9 s10 c.a11 c.a12 c.a13 c.a14 c.a15 s16 h K = K c.a1 c.a2 c.a3 c.a4 c.a5 c.a6 c.a7 c.a8 s9 s10 c.a11 c.a12 c.a13 c.a14 c.a15 s16 q17 q18 0 h') ∧
      (oneErr LB c p ≠ 0 → ∀ (β : Type) (K : Int → Int → Int → Int → Int → Int → Int → Int → Sl → Sl → Int → Int → Int → Int → Int → Sl → Sl → Sl → Int → GH → Option β), F_ref26_one R (some ⟨gc, 0, none⟩) c.a1 c.a2 c.a3 c.a4 c.a5 c.a6 c.a7 c.a8 s9 s10 c.a11 c.a12 c.a13 c.a14 c.a15 s16 h K = K 0 0 0 0 0 0 0 0 ⟨none, 0, 0⟩ ⟨none, 0, 0⟩ 0 0 0 0 0 ⟨none, 0, 0⟩ ⟨none, 0, 0⟩ ⟨none, 0, 0⟩ (oneErr LB c p) h') := by
  have hgc := C.lt gc (by simp [ownC])
  have C0 := RL.start (C.t0 hp)
  obtain ⟨h1, g18, e1, c1⟩ := C0.new [Value.int .i64 c.a1, Value.int .i64 c.a2, Value.int .i64 c.a3, Value.int .i64 c.a4, Value.int .i64 c.a5, Value.int .u32 c.a6, Value.int .u32 c.a7, Value.int .u32 c.a8, Value.slice s9.a s9.n s9.c, Value.slice s10.a s10.n s10.c, Value.int .i64 c.a11, Value.int .i64 c.a12, Value.int .i64 c.a13, Value.int .u32 c.a14, Value.int .u32 c.a15, Value.slice s16.a s16.n s16.c] rfl
  obtain ⟨h2, g20, e2, c2⟩ := c1.new [Value.int .i64 0, Value.int .i64 0, Value.int .i64 0, Value.int .i64 0, Value.int .i64 0, Value.int .u32 0, Value.int .u32 0, Value.int .u32 0, Value.slice none 0 0, Value.slice none 0 0, Value.int .i64 0, Value.int .i64 0, Value.int .i64 0, Value.int .u32 0, Value.int .u32 0, Value.slice none 0 0, Value.slice none 0 0, Value.slice none 0 0] rfl
  have d2 := fun o => c2.cell 0 rfl o
  have C2 := c2.cur.ok (by omega)
  rw [Nat.add_zero] at C2
  have hat : h2.cell ⟨gc, 0 + 1, none⟩ = some (.int .i64 (p : Nat)) := by rw [cell_of C2.hd]; rfl
  have hw15 : IntKind.wrap .i64 c.a15 = c.a15 := i64w (by omega)
  have k02 := c2.keep
  have b02 := k02.1
  by_cases d0 : c.a15 = (p : Nat)
  · obtain ⟨h3, a1, a2, a3, a4, a5, a6, a7, a8, q9, q10, nm, ex, qs', e3, k3, w3⟩ := (RL.start (C2.t0 hp)).readLocal h8 hm hR
    have b3 := k3.1
    have l18 := k3.look (c2.loc 0 _ _ rfl).1 (by have := (c2.loc 0 _ _ rfl).2; simp; omega)
    have l20 := k3.look (c2.loc 1 _ _ rfl).1 (by have := (c2.loc 1 _ _ rfl).2; simp; omega)
    have g18l : g18 < h2.next := look_lt (c2.loc 0 _ _ rfl).1
    have g20l : g20 < h2.next := look_lt (c2.loc 1 _ _ rfl).1
    have g18h := (c2.loc 0 _ _ rfl).2
    have g20h := (c2.loc 1 _ _ rfl).2
    have gne : g18 ≠ g20 := c2.ne 0 1 _ _ _ _ rfl rfl (by omega)
    by_cases d1 : locErr LB p = 0
    · obtain ⟨hh, hC, m9, m10⟩ := w3 d1
      rw [d1] at e3
      have hle := locErr_le d1
      have o9 := hC.sl q9 nm m9
      have o10 := hC.sl q10 ex m10
      have hex : ex = (locAt LB p).ex := by rw [← hh]
      have hex8 : B8 ex := by rw [hex]; exact b8_cut h8 _ _
      have hexl : ex.length ≤ 2000000 := by rw [hex]; show (cutL _ _ _).length ≤ _; unfold cutL; simp; omega
      have h7 : a7 = (locAt LB p).a7 := by rw [← hh]
      have h7b := (fld_bd h8 (p + 18)).2
      have e7 : (locAt LB p).a7 = fld LB (p + 18) 4 := rfl
      have hw7 : IntKind.wrap .i64 a7 = a7 := i64w (by omega)
      have c3 := c2.step hC.cur k3
      have hB : ∀ (i g : Nat) (cs : List Value), ([] ++ [(g18, [Value.int .i64 c.a1, Value.int .i64 c.a2, Value.int .i64 c.a3, Value.int .i64 c.a4, Value.int .i64 c.a5, Value.int .u32 c.a6, Value.int .u32 c.a7, Value.int .u32 c.a8, Value.slice s9.a s9.n s9.c, Value.slice s10.a s10.n s10.c, Value.int .i64 c.a11, Value.int .i64 c.a12, Value.int .i64 c.a13, Value.int .u32 c.a14, Value.int .u32 c.a15, Value.slice s16.a s16.n s16.c])] ++ [(g20, [Value.int .i64 0, Value.int .i64 0, Value.int .i64 0, Value.int .i64 0, Value.int .i64 0, Value.int .u32 0, Value.int .u32 0, Value.int .u32 0, Value.slice none 0 0, Value.slice none 0 0, Value.int .i64 0, Value.int .i64 0, Value.int .i64 0, Value.int .u32 0, Value.int .u32 0, Value.slice none 0 0, Value.slice none 0 0, Value.slice none 0 0])])[i]? = some (g, cs) → g < h2.next := fun i g cs hi => look_lt (c2.loc i g cs hi).1
      have c4 := (c3.addq o9.1 (by omega) (fun k hk => (o9.2 k hk).1) hB).addq o10.1 (by omega) (fun k hk => (o10.2 k hk).1) hB
      obtain ⟨h5, g57, e5, c5⟩ := c4.new [Value.int .i64 0, Value.int .i64 0, Value.int .i64 0, Value.int .i64 0, Value.int .i64 0, Value.int .u32 0, Value.int .u32 0, Value.int .u32 0, Value.slice none 0 0, Value.slice none 0 0] rfl
      obtain ⟨h6, e6, c6⟩ := c5.put 2 rfl 0 [Value.int .i64 a1, Value.int .i64 a2, Value.int .i64 a3, Value.int .i64 a4, Value.int .i64 a5, Value.int .u32 a6, Value.int .u32 a7, Value.int .u32 a8, Value.slice q9.a q9.n q9.c, Value.slice q10.a q10.n q10.c] [Value.int .i64 a1, Value.int .i64 a2, Value.int .i64 a3, Value.int .i64 a4, Value.int .i64 a5, Value.int .u32 a6, Value.int .u32 a7, Value.int .u32 a8, Value.slice q9.a q9.n q9.c, Value.slice q10.a q10.n q10.c] rfl (by simp) rfl
      have d6 := fun o => c6.cell 0 rfl o
      obtain ⟨h7', g89, e7', c7⟩ := c6.new [Value.int .i64 0, Value.int .i64 0, Value.int .i64 0, Value.int .i64 0, Value.int .i64 0, Value.int .u32 0, Value.int .u32 0, Value.int .u32 0, Value.slice none 0 0, Value.slice none 0 0] rfl
      obtain ⟨h8', e8, c8⟩ := c7.put 3 rfl 0 [Value.int .i64 c.a1, Value.int .i64 c.a2, Value.int .i64 c.a3, Value.int .i64 c.a4, Value.int .i64 c.a5, Value.int .u32 c.a6, Value.int .u32 c.a7, Value.int .u32 c.a8, Value.slice s9.a s9.n s9.c, Value.slice s10.a s10.n s10.c] [Value.int .i64 c.a1, Value.int .i64 c.a2, Value.int .i64 c.a3, Value.int .i64 c.a4, Value.int .i64 c.a5, Value.int .u32 c.a6, Value.int .u32 c.a7, Value.int .u32 c.a8, Value.slice s9.a s9.n s9.c, Value.slice s10.a s10.n s10.c] rfl (by simp) rfl
      have d8 := fun o => c8.cell 2 rfl o
      obtain ⟨h9, e9, c9⟩ := c8.put 3 rfl (0 + 9) [Value.slice none 0 0] [Value.int .i64 c.a1, Value.int .i64 c.a2, Value.int .i64 c.a3, Value.int .i64 c.a4, Value.int .i64 c.a5, Value.int .u32 c.a6, Value.int .u32 c.a7, Value.int .u32 c.a8, Value.slice s9.a s9.n s9.c, Value.slice none 0 0] rfl (by simp) rfl
      obtain ⟨h10, e10, c10⟩ := c9.put 2 rfl (0 + 9) [Value.slice none 0 0] [Value.int .i64 a1, Value.int .i64 a2, Value.int .i64 a3, Value.int .i64 a4, Value.int .i64 a5, Value.int .u32 a6, Value.int .u32 a7, Value.int .u32 a8, Value.slice q9.a q9.n q9.c, Value.slice none 0 0] rfl (by simp) rfl
      have da := fun o => c10.cell 3 rfl o
      have db := fun o => c10.cell 2 rfl o
      have rq9 := (c10.sl q9 nm (by simp)).1
      have k010 := c10.keep
      have r910 : Rd h10 s9 c.nm := r9.keep k010 (fun z hz hm => by simp at hm; subst hm; exact hgs hz)
      obtain ⟨h11, k11, e11⟩ := ref_sameHead (h := h10) ⟨a1, a2, a3, a4, a5, a6, a7, a8, nm, ex⟩ c rq9 r910 Row.nil Row.nil hnl hR
      have e11 : ∀ (β : Type) (K : Bool → GH → Option β), F_ref24_SameHead R c.a1 c.a2 c.a3 c.a4 c.a5 c.a6 c.a7 c.a8 s9 ⟨none, 0, 0⟩ a1 a2 a3 a4 a5 a6 a7 a8 q9 ⟨none, 0, 0⟩ h10 K = K (decide (sameH ⟨a1, a2, a3, a4, a5, a6, a7, a8, nm, ex⟩ c)) h11 := e11
      rw [hh] at e11
      have c11 := c10.hop k11
      by_cases d2' : sameH (locAt LB p) c
      · obtain ⟨h12, k12, e12⟩ := ref_list ((c11.sl q10 ex (by simp)).1) hex8 hexl hR
        rw [hex] at e12
        have c12 := c11.hop k12
        by_cases d3 : chkX (locAt LB p).ex = 0
        · have d12 := fun o => c12.cell 2 rfl o
          have d12' := fun o => c12.cell 0 rfl o
          have C12 := c12.cur.ok (by omega)
          have hleft := fun β K => rleft_eq (β := β) C12 (by omega) hm R K
          have sB : sameAt g57 6 1 h12 h12 = true := by simp only [sameAt_1, d12, nth_s, nth_0, veqO_i]
          by_cases d4 : (locAt LB p).a7 > (LB.length : Int) - ((p + locLen LB p : Nat) : Int)
          · have hE : oneErr LB c p = 14 := by unfold oneErr; rw [if_neg (by simpa using d0), if_neg (by simpa using d1), if_neg (by simpa using d2'), if_neg (by simpa using d3), if_pos d4]
            obtain ⟨hz, ez, cz⟩ := c12.put 1 rfl 0 [Value.int .i64 0, Value.int .i64 0, Value.int .i64 0, Value.int .i64 0, Value.int .i64 0, Value.int .u32 0, Value.int .u32 0, Value.int .u32 0, Value.slice none 0 0, Value.slice none 0 0, Value.int .i64 0, Value.int .i64 0, Value.int .i64 0, Value.int .u32 0, Value.int .u32 0, Value.slice none 0 0, Value.slice none 0 0, Value.slice none 0 0] [Value.int .i64 0, Value.int .i64 0, Value.int .i64 0, Value.int .i64 0, Value.int .i64 0, Value.int .u32 0, Value.int .u32 0, Value.int .u32 0, Value.slice none 0 0, Value.slice none 0 0, Value.int .i64 0, Value.int .i64 0, Value.int .i64 0, Value.int .u32 0, Value.int .u32 0, Value.slice none 0 0, Value.slice none 0 0, Value.slice none 0 0] rfl (by simp) rfl
            have dz := fun o => cz.cell 1 rfl o
            rw [hE]
            refine ⟨hz, ⟨none, 0, 0⟩, ⟨none, 0, 0⟩, cz.keep, fun q => (by cases q), fun _ β K => ?_⟩
            unfold F_ref26_one
            rw [F_ref26_one_gen]
            refine (e1 β _).trans ?_
            refine (e2 β _).trans ?_
            rw [show h2.cell ⟨g18, 0 + 14, none⟩ = some (.int .u32 c.a15) from d2 14, exI_s, exA_s, hat, exI_s, hw15]
            rw [show (c.a15 != ((p : Nat) : Int)) = false by rw [d0]; exact bne_self_eq_false _, condF, e3]
            refine (e5 β _).trans ?_
            refine (e6 β _).trans ?_
            rw [bne_self_eq_false, condF]
            simp only [d6, Nat.zero_add, Nat.reduceAdd, nth_s, nth_0, exI_s, exS_s']
            refine (e7' β _).trans ?_
            refine (e8 β _).trans ?_
            simp only [d8, Nat.zero_add, Nat.reduceAdd, nth_s, nth_0, exI_s, exS_s']
            refine (e9 β _).trans ?_
            refine (e10 β _).trans ?_
            simp only [da, db, Nat.zero_add, Nat.reduceAdd, nth_s, nth_0, exI_s, exS_s']
            refine (e11 β _).trans ?_
            rw [decT d2', notT, condF]
            refine (e12 β _).trans ?_
            rw [d3, bne_self_eq_false, condF]
            simp only [d12, Nat.zero_add, Nat.reduceAdd, nth_s, nth_0, exI_s, exS_s']
            rw [hleft, sB, condT, hw7, h7]
            rw [decT d4, condT]
            refine (ez β _).trans ?_
            simp only [dz, Nat.zero_add, Nat.reduceAdd, nth_s, nth_0, exI_s, exS_s']
          · have hE : oneErr LB c p = 0 := by unfold oneErr; rw [if_neg (by simpa using d0), if_neg (by simpa using d1), if_neg (by simpa using d2'), if_neg (by simpa using d3), if_neg d4]
            obtain ⟨h13, q18, da18, e13, c13, w13⟩ := c12.take hm a7.toNat R
            rw [Int.toNat_of_nonneg (by omega)] at e13
            have d13 := fun o => c13.cell 0 rfl o
            obtain ⟨h14, e14, c14⟩ := c13.put 1 rfl 0 [Value.int .i64 c.a1, Value.int .i64 c.a2, Value.int .i64 c.a3, Value.int .i64 c.a4, Value.int .i64 c.a5, Value.int .u32 c.a6, Value.int .u32 c.a7, Value.int .u32 c.a8, Value.slice s9.a s9.n s9.c, Value.slice s10.a s10.n s10.c, Value.int .i64 c.a11, Value.int .i64 c.a12, Value.int .i64 c.a13, Value.int .u32 c.a14, Value.int .u32 c.a15, Value.slice s16.a s16.n s16.c, Value.slice q10.a q10.n q10.c, Value.slice q18.a q18.n q18.c] [Value.int .i64 c.a1, Value.int .i64 c.a2, Value.int .i64 c.a3, Value.int .i64 c.a4, Value.int .i64 c.a5, Value.int .u32 c.a6, Value.int .u32 c.a7, Value.int .u32 c.a8, Value.slice s9.a s9.n s9.c, Value.slice s10.a s10.n s10.c, Value.int .i64 c.a11, Value.int .i64 c.a12, Value.int .i64 c.a13, Value.int .u32 c.a14, Value.int .u32 c.a15, Value.slice s16.a s16.n s16.c, Value.slice q10.a q10.n q10.c, Value.slice q18.a q18.n q18.c] rfl (by simp) rfl
            have d14 := fun o => c14.cell 1 rfl o
            have sC : sameAt g18 0 16 h12 h13 = true := by simp only [sameAt, d12', d13, Nat.zero_add, Nat.reduceAdd, nth_s, nth_0, veqO_i, veqO_s, Bool.and_true]
            have sq10 := c14.sl q10 ex (by simp)
            have sq18 := c14.sl q18 da18 (by simp)
            have hda := w13 (by omega)
            rw [hE]
            refine ⟨h14, q10, q18, c14.keep, fun _ => ⟨?_, ?_, ?_, fun k hk => (sq10.2 k hk).1, fun k hk => (sq18.2 k hk).1, fun β K => ?_⟩, fun q => absurd rfl q⟩
            · have := c14.cur.ok (by omega)
              rw [show p + oneLen LB p = p + (locLen LB p + a7.toNat) by unfold oneLen; rw [← h7]]
              exact this
            · rw [show (oneIt LB c p).ex = ex from hex.symm]; exact sq10.1
            · rw [show (oneIt LB c p).da = da18 by rw [hda]; unfold oneIt; rw [h7]]; exact sq18.1
            · unfold F_ref26_one
              rw [F_ref26_one_gen]
              refine (e1 β _).trans ?_
              refine (e2 β _).trans ?_
              rw [show h2.cell ⟨g18, 0 + 14, none⟩ = some (.int .u32 c.a15) from d2 14, exI_s, exA_s, hat, exI_s, hw15]
              rw [show (c.a15 != ((p : Nat) : Int)) = false by rw [d0]; exact bne_self_eq_false _, condF, e3]
              refine (e5 β _).trans ?_
              refine (e6 β _).trans ?_
              rw [bne_self_eq_false, condF]
              simp only [d6, Nat.zero_add, Nat.reduceAdd, nth_s, nth_0, exI_s, exS_s']
              refine (e7' β _).trans ?_
              refine (e8 β _).trans ?_
              simp only [d8, Nat.zero_add, Nat.reduceAdd, nth_s, nth_0, exI_s, exS_s']
              refine (e9 β _).trans ?_
              refine (e10 β _).trans ?_
              simp only [da, db, Nat.zero_add, Nat.reduceAdd, nth_s, nth_0, exI_s, exS_s']
              refine (e11 β _).trans ?_
              rw [decT d2', notT, condF]
              refine (e12 β _).trans ?_
              rw [d3, bne_self_eq_false, condF]
              simp only [d12, Nat.zero_add, Nat.reduceAdd, nth_s, nth_0, exI_s, exS_s']
              rw [hleft, sB, condT, hw7, h7]
              rw [decF d4, condF]
              simp only [d12, d12', Nat.zero_add, Nat.reduceAdd, nth_s, nth_0, exI_s, exS_s']
              rw [hw7]
              refine (e13 β _).trans ?_
              refine (e14 β _).trans ?_
              rw [sC, condT]
              simp only [d14, Nat.zero_add, Nat.reduceAdd, nth_s, nth_0, exI_s, exS_s']
        · have hE : oneErr LB c p = chkX (locAt LB p).ex := by unfold oneErr; rw [if_neg (by simpa using d0), if_neg (by simpa using d1), if_neg (by simpa using d2'), if_pos d3]
          obtain ⟨hz, ez, cz⟩ := c12.put 1 rfl 0 [Value.int .i64 0, Value.int .i64 0, Value.int .i64 0, Value.int .i64 0, Value.int .i64 0, Value.int .u32 0, Value.int .u32 0, Value.int .u32 0, Value.slice none 0 0, Value.slice none 0 0, Value.int .i64 0, Value.int .i64 0, Value.int .i64 0, Value.int .u32 0, Value.int .u32 0, Value.slice none 0 0, Value.slice none 0 0, Value.slice none 0 0] [Value.int .i64 0, Value.int .i64 0, Value.int .i64 0, Value.int .i64 0, Value.int .i64 0, Value.int .u32 0, Value.int .u32 0, Value.int .u32 0, Value.slice none 0 0, Value.slice none 0 0, Value.int .i64 0, Value.int .i64 0, Value.int .i64 0, Value.int .u32 0, Value.int .u32 0, Value.slice none 0 0, Value.slice none 0 0, Value.slice none 0 0] rfl (by simp) rfl
          have dz := fun o => cz.cell 1 rfl o
          rw [hE]
          refine ⟨hz, ⟨none, 0, 0⟩, ⟨none, 0, 0⟩, cz.keep, fun q => absurd q d3, fun _ β K => ?_⟩
          unfold F_ref26_one
          rw [F_ref26_one_gen]
          refine (e1 β _).trans ?_
          refine (e2 β _).trans ?_
          rw [show h2.cell ⟨g18, 0 + 14, none⟩ = some (.int .u32 c.a15) from d2 14, exI_s, exA_s, hat, exI_s, hw15]
          rw [show (c.a15 != ((p : Nat) : Int)) = false by rw [d0]; exact bne_self_eq_false _, condF, e3]
          refine (e5 β _).trans ?_
          refine (e6 β _).trans ?_
          rw [bne_self_eq_false, condF]
          simp only [d6, Nat.zero_add, Nat.reduceAdd, nth_s, nth_0, exI_s, exS_s']
          refine (e7' β _).trans ?_
          refine (e8 β _).trans ?_
          simp only [d8, Nat.zero_add, Nat.reduceAdd, nth_s, nth_0, exI_s, exS_s']
          refine (e9 β _).trans ?_
          refine (e10 β _).trans ?_
          simp only [da, db, Nat.zero_add, Nat.reduceAdd, nth_s, nth_0, exI_s, exS_s']
          refine (e11 β _).trans ?_
          rw [decT d2', notT, condF]
          refine (e12 β _).trans ?_
          rw [bne_iff_ne.2 d3, condT]
          refine (ez β _).trans ?_
          simp only [dz, Nat.zero_add, Nat.reduceAdd, nth_s, nth_0, exI_s, exS_s']
      · have hE : oneErr LB c p = 15 := by unfold oneErr; rw [if_neg (by simpa using d0), if_neg (by simpa using d1), if_pos d2']
        obtain ⟨hz, ez, cz⟩ := c11.put 1 rfl 0 [Value.int .i64 0, Value.int .i64 0, Value.int .i64 0, Value.int .i64 0, Value.int .i64 0, Value.int .u32 0, Value.int .u32 0, Value.int .u32 0, Value.slice none 0 0, Value.slice none 0 0, Value.int .i64 0, Value.int .i64 0, Value.int .i64 0, Value.int .u32 0, Value.int .u32 0, Value.slice none 0 0, Value.slice none 0 0, Value.slice none 0 0] [Value.int .i64 0, Value.int .i64 0, Value.int .i64 0, Value.int .i64 0, Value.int .i64 0, Value.int .u32 0, Value.int .u32 0, Value.int .u32 0, Value.slice none 0 0, Value.slice none 0 0, Value.int .i64 0, Value.int .i64 0, Value.int .i64 0, Value.int .u32 0, Value.int .u32 0, Value.slice none 0 0, Value.slice none 0 0, Value.slice none 0 0] rfl (by simp) rfl
        have dz := fun o => cz.cell 1 rfl o
        rw [hE]
        refine ⟨hz, ⟨none, 0, 0⟩, ⟨none, 0, 0⟩, cz.keep, fun q => (by cases q), fun _ β K => ?_⟩
        unfold F_ref26_one
        rw [F_ref26_one_gen]
        refine (e1 β _).trans ?_
        refine (e2 β _).trans ?_
        rw [show h2.cell ⟨g18, 0 + 14, none⟩ = some (.int .u32 c.a15) from d2 14, exI_s, exA_s, hat, exI_s, hw15]
        rw [show (c.a15 != ((p : Nat) : Int)) = false by rw [d0]; exact bne_self_eq_false _, condF, e3]
        refine (e5 β _).trans ?_
        refine (e6 β _).trans ?_
        rw [bne_self_eq_false, condF]
        simp only [d6, Nat.zero_add, Nat.reduceAdd, nth_s, nth_0, exI_s, exS_s']
        refine (e7' β _).trans ?_
        refine (e8 β _).trans ?_
        simp only [d8, Nat.zero_add, Nat.reduceAdd, nth_s, nth_0, exI_s, exS_s']
        refine (e9 β _).trans ?_
        refine (e10 β _).trans ?_
        simp only [da, db, Nat.zero_add, Nat.reduceAdd, nth_s, nth_0, exI_s, exS_s']
        refine (e11 β _).trans ?_
        rw [decF d2', notF, condT]
        refine (ez β _).trans ?_
        simp only [dz, Nat.zero_add, Nat.reduceAdd, nth_s, nth_0, exI_s, exS_s']
    · have hE : oneErr LB c p = locErr LB p := by unfold oneErr; rw [if_neg (by simpa using d0), if_pos d1]
      obtain ⟨g57, h5, k5, n5, l5, e5⟩ := tmp_row h3 [Value.int .i64 0, Value.int .i64 0, Value.int .i64 0, Value.int .i64 0, Value.int .i64 0, Value.int .u32 0, Value.int .u32 0, Value.int .u32 0, Value.slice none 0 0, Value.slice none 0 0] [Value.int .i64 a1, Value.int .i64 a2, Value.int .i64 a3, Value.int .i64 a4, Value.int .i64 a5, Value.int .u32 a6, Value.int .u32 a7, Value.int .u32 a8, Value.slice q9.a q9.n q9.c, Value.slice q10.a q10.n q10.c] rfl rfl rfl
      have m20 := k5.look l20 (by simp)
      have k6 := keep_put h5 g20 (some (.row ⟨[Value.int .i64 0, Value.int .i64 0, Value.int .i64 0, Value.int .i64 0, Value.int .i64 0, Value.int .u32 0, Value.int .u32 0, Value.int .u32 0, Value.slice none 0 0, Value.slice none 0 0, Value.int .i64 0, Value.int .i64 0, Value.int .i64 0, Value.int .u32 0, Value.int .u32 0, Value.slice none 0 0, Value.slice none 0 0, Value.slice none 0 0], 0, false⟩))
      have l6 : (h5.put g20 (some (.row ⟨[Value.int .i64 0, Value.int .i64 0, Value.int .i64 0, Value.int .i64 0, Value.int .i64 0, Value.int .u32 0, Value.int .u32 0, Value.int .u32 0, Value.slice none 0 0, Value.slice none 0 0, Value.int .i64 0, Value.int .i64 0, Value.int .i64 0, Value.int .u32 0, Value.int .u32 0, Value.slice none 0 0, Value.slice none 0 0, Value.slice none 0 0], 0, false⟩))).look g20 = some (.row ⟨[Value.int .i64 0, Value.int .i64 0, Value.int .i64 0, Value.int .i64 0, Value.int .i64 0, Value.int .u32 0, Value.int .u32 0, Value.int .u32 0, Value.slice none 0 0, Value.slice none 0 0, Value.int .i64 0, Value.int .i64 0, Value.int .i64 0, Value.int .u32 0, Value.int .u32 0, Value.slice none 0 0, Value.slice none 0 0, Value.slice none 0 0], 0, false⟩) := look_put_same (look_lt m20)
      have c6 := fun o => cell_of l6 o
      rw [hE]
      refine ⟨_, ⟨none, 0, 0⟩, ⟨none, 0, 0⟩, ((k02.trans k3 (fun z hz => .inl hz)).trans k5 (by simp)).trans k6 (fun z hz => .inr (by simp at hz; omega)), fun q => absurd q d1, fun _ β K => ?_⟩
      unfold F_ref26_one
      rw [F_ref26_one_gen]
      refine (e1 β _).trans ?_
      refine (e2 β _).trans ?_
      rw [show h2.cell ⟨g18, 0 + 14, none⟩ = some (.int .u32 c.a15) from d2 14, exI_s, exA_s, hat, exI_s, hw15]
      rw [show (c.a15 != ((p : Nat) : Int)) = false by rw [d0]; exact bne_self_eq_false _, condF, e3]
      refine (e5 β _).trans ?_
      rw [bne_iff_ne.2 d1, condT, gput_eq m20 rfl (by simp), show nlay [Value.int .i64 0, Value.int .i64 0, Value.int .i64 0, Value.int .i64 0, Value.int .i64 0, Value.int .u32 0, Value.int .u32 0, Value.int .u32 0, Value.slice none 0 0, Value.slice none 0 0, Value.int .i64 0, Value.int .i64 0, Value.int .i64 0, Value.int .u32 0, Value.int .u32 0, Value.slice none 0 0, Value.slice none 0 0, Value.slice none 0 0] 0 [Value.int .i64 0, Value.int .i64 0, Value.int .i64 0, Value.int .i64 0, Value.int .i64 0, Value.int .u32 0, Value.int .u32 0, Value.int .u32 0, Value.slice none 0 0, Value.slice none 0 0, Value.int .i64 0, Value.int .i64 0, Value.int .i64 0, Value.int .u32 0, Value.int .u32 0, Value.slice none 0 0, Value.slice none 0 0, Value.slice none 0 0] = [Value.int .i64 0, Value.int .i64 0, Value.int .i64 0, Value.int .i64 0, Value.int .i64 0, Value.int .u32 0, Value.int .u32 0, Value.int .u32 0, Value.slice none 0 0, Value.slice none 0 0, Value.int .i64 0, Value.int .i64 0, Value.int .i64 0, Value.int .u32 0, Value.int .u32 0, Value.slice none 0 0, Value.slice none 0 0, Value.slice none 0 0] from rfl]
      simp only [c6, Nat.zero_add, Nat.reduceAdd, nth_s, nth_0, exI_s, exS_s']
  · have hE : oneErr LB c p = 14 := by unfold oneErr; rw [if_pos d0]
    obtain ⟨hz, ez, cz⟩ := c2.put 1 rfl 0 [Value.int .i64 0, Value.int .i64 0, Value.int .i64 0, Value.int .i64 0, Value.int .i64 0, Value.int .u32 0, Value.int .u32 0, Value.int .u32 0, Value.slice none 0 0, Value.slice none 0 0, Value.int .i64 0, Value.int .i64 0, Value.int .i64 0, Value.int .u32 0, Value.int .u32 0, Value.slice none 0 0, Value.slice none 0 0, Value.slice none 0 0] [Value.int .i64 0, Value.int .i64 0, Value.int .i64 0, Value.int .i64 0, Value.int .i64 0, Value.int .u32 0, Value.int .u32 0, Value.int .u32 0, Value.slice none 0 0, Value.slice none 0 0, Value.int .i64 0, Value.int .i64 0, Value.int .i64 0, Value.int .u32 0, Value.int .u32 0, Value.slice none 0 0, Value.slice none 0 0, Value.slice none 0 0] rfl (by simp) rfl
    have dz := fun o => cz.cell 1 rfl o
    rw [hE]
    refine ⟨hz, ⟨none, 0, 0⟩, ⟨none, 0, 0⟩, cz.keep, fun q => (by cases q), fun _ β K => ?_⟩
    unfold F_ref26_one
    rw [F_ref26_one_gen]
    refine (e1 β _).trans ?_
    refine (e2 β _).trans ?_
    rw [show h2.cell ⟨g18, 0 + 14, none⟩ = some (.int .u32 c.a15) from d2 14, exI_s, exA_s, hat, exI_s, hw15]
    rw [bne_iff_ne.2 d0, condT]
    refine (ez β _).trans ?_
    simp only [dz, Nat.zero_add, Nat.reduceAdd, nth_s, nth_0, exI_s, exS_s']
end Go.Proofs.Ytibngikhlgmhaaa.Gx

