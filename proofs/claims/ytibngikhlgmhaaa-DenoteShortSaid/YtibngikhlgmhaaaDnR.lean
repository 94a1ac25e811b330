/- What was scanned is, joined, the bytes again. No condition. -/
import Derived.Test.YtibngikhlgmhaaaDnS
import Derived.Test.YtibngikhlgmhaaaDnQ
namespace Go.Proofs.Ytibngikhlgmhaaa.Gx
open Go Go.RowKit
set_option linter.unusedVariables false
set_option linter.unusedSimpArgs false
theorem cut_app (bs : List Int) (p a b : Nat) : cutL bs p a ++ cutL bs (p + a) b = cutL bs p (a + b) := by
  unfold cutL
  rw [List.take_add, List.drop_drop]
theorem take_cut (bs : List Int) (p n : Nat) : bs.take p ++ cutL bs p n = bs.take (p + n) := by
  unfold cutL
  rw [List.take_add]
theorem cut_len {bs : List Int} {p n : Nat} (h : p + n ≤ bs.length) : (cutL bs p n).length = n := by unfold cutL; simp; omega
theorem cut_b8 {bs : List Int} (h8 : B8 bs) (p n : Nat) : B8 (cutL bs p n) := b8_cut h8 p n
theorem num_fld {bs : List Int} (h8 : B8 bs) {p n : Nat} (h : p + n ≤ bs.length) : numI n (fld bs p n) = cutL bs p n := by
  have := numI_le (b8_cut h8 p n)
  rw [show ((bs.drop p).take n).length = n from cut_len h] at this
  exact this
theorem w16 {bs : List Int} (h8 : B8 bs) {p k q k' : Nat} (hq : q = p + k) (hk : k' = k + 2) (h : p + k' ≤ bs.length) : u16W (some (cutL bs p k)) (fld bs q 2) = some (cutL bs p k') := by
  subst hq hk
  have hb := (fld_bd h8 (p + k)).1
  rw [u16W_some, if_pos hb, num_fld h8 (by omega), cut_app]
theorem w32 {bs : List Int} (h8 : B8 bs) {p k q k' : Nat} (hq : q = p + k) (hk : k' = k + 4) (h : p + k' ≤ bs.length) : u32W (some (cutL bs p k)) (fld bs q 4) = some (cutL bs p k') := by
  subst hq hk
  show some (cutL bs p k ++ numI 4 (fld bs (p + k) 4)) = _
  rw [num_fld h8 (by omega), cut_app]
theorem wput {bs : List Int} {p k q n k' : Nat} (hq : q = p + k) (hk : k' = k + n) : putW (some (cutL bs p k)) (cutL bs q n) = some (cutL bs p k') := by
  subst hq hk
  show some (cutL bs p k ++ cutL bs (p + k) n) = _
  rw [cut_app]
theorem szI {bs : List Int} (h8 : B8 bs) (p : Nat) : ((szN bs p : Nat) : Int) = fld bs p 2 := by
  have := (fld_bd h8 p).1.1
  unfold szN; omega
theorem cut0 (bs : List Int) (p : Nat) : ([] : List Int) = cutL bs p 0 := by simp [cutL]
theorem sig_ok {bs : List Int} {p : Nat} {sg : Int} (h : sigErr bs p sg = 0) : p + 4 ≤ bs.length ∧ fld bs p 4 = sg := by
  unfold sigErr at h
  split at h
  · cases h
  · split at h
    · cases h
    · rename_i q; exact ⟨by omega, Decidable.not_not.1 q⟩
theorem loc_ok {bs : List Int} {p : Nat} (h : locErr bs p = 0) : fld bs p 4 = 67324752 ∧ p + locLen bs p ≤ bs.length := by
  unfold locErr at h
  split at h
  · rename_i q; exact absurd h q
  · rename_i q
    split at h
    · cases h
    · exact ⟨(sig_ok (Decidable.not_not.1 q)).2, by omega⟩
theorem cen_ok {bs : List Int} {p : Nat} (h : cenErr bs p = 0) : fld bs p 4 = 33639248 ∧ p + cenLen bs p ≤ bs.length := by
  unfold cenErr at h
  split at h
  · rename_i q; exact absurd h q
  · rename_i q
    split at h
    · cases h
    · exact ⟨(sig_ok (Decidable.not_not.1 q)).2, by omega⟩
theorem end_ok {bs : List Int} {p : Nat} (h : endErr bs p = 0) : fld bs p 4 = 101010256 ∧ p + endLen bs p ≤ bs.length := by
  unfold endErr at h
  split at h
  · rename_i q; exact absurd h q
  · rename_i q
    split at h
    · cases h
    · exact ⟨(sig_ok (Decidable.not_not.1 q)).2, by omega⟩
theorem com_at {bs : List Int} (h8 : B8 bs) {p k : Nat} (h : p + (k + 26) ≤ bs.length) : comW (some (cutL bs p k)) (fld bs (p + k) 2) (fld bs (p + k + 2) 2) (fld bs (p + k + 4) 2) (fld bs (p + k + 6) 2) (fld bs (p + k + 8) 2) (fld bs (p + k + 10) 4) (fld bs (p + k + 14) 4) (fld bs (p + k + 18) 4) (szN bs (p + k + 22)) (szN bs (p + k + 24)) = some (cutL bs p (k + 26)) := by
  unfold comW
  rw [w16 h8 rfl (k' := k + 2) rfl (by omega), w16 h8 (k' := k + 4) (by omega) (by omega) (by omega), w16 h8 (k' := k + 6) (by omega) (by omega) (by omega), w16 h8 (k' := k + 8) (by omega) (by omega) (by omega), w16 h8 (k' := k + 10) (by omega) (by omega) (by omega),
    w32 h8 (k' := k + 14) (by omega) (by omega) (by omega), w32 h8 (k' := k + 18) (by omega) (by omega) (by omega), w32 h8 (k' := k + 22) (by omega) (by omega) (by omega), szI h8, szI h8, w16 h8 (k' := k + 24) (by omega) (by omega) (by omega), w16 h8 (k' := k + 26) (by omega) (by omega) (by omega)]
theorem locW_at {bs : List Int} (h8 : B8 bs) {p : Nat} (h : locErr bs p = 0) : locW (locAt bs p) = some (cutL bs p (locLen bs p)) := by
  obtain ⟨hs, hl⟩ := loc_ok h
  have hll : locLen bs p = 30 + szN bs (p + 26) + szN bs (p + 28) := rfl
  have e1 : (locAt bs p).nm.length = szN bs (p + 26) := cut_len (by omega)
  have e2 : (locAt bs p).ex.length = szN bs (p + 28) := cut_len (by omega)
  unfold locW
  rw [e1, e2, cut0 bs p, ← hs, w32 h8 (k' := 4) (by omega) (by omega) (by omega)]
  have c := com_at h8 (p := p) (k := 4) (by omega)
  refine (congrArg (fun z => putW (putW z _) _) c).trans ?_
  show putW (putW (some (cutL bs p (4 + 26))) (cutL bs (p + 30) (szN bs (p + 26)))) (cutL bs (p + (30 + szN bs (p + 26))) (szN bs (p + 28))) = _
  rw [wput (k' := 30 + szN bs (p + 26)) (by omega) (by omega), wput (k' := locLen bs p) (by omega) (by omega)]
theorem cenW_at {bs : List Int} (h8 : B8 bs) {p : Nat} (h : cenErr bs p = 0) : cenW (cenAt bs p) = some (cutL bs p (cenLen bs p)) := by
  obtain ⟨hs, hl⟩ := cen_ok h
  have hll : cenLen bs p = 46 + szN bs (p + 28) + szN bs (p + 30) + szN bs (p + 32) := rfl
  have e1 : (cenAt bs p).nm.length = szN bs (p + 28) := cut_len (by omega)
  have e2 : (cenAt bs p).ex.length = szN bs (p + 30) := cut_len (by omega)
  have e3 : (cenAt bs p).cm.length = szN bs (p + 32) := cut_len (by omega)
  unfold cenW
  rw [e1, e2, e3, cut0 bs p, ← hs, w32 h8 (k' := 4) (by omega) (by omega) (by omega)]
  have e11 : (cenAt bs p).a11 = fld bs (p + 4) 2 := rfl
  rw [e11, w16 h8 (k' := 6) (by omega) (by omega) (by omega)]
  have c := com_at h8 (p := p) (k := 6) (by omega)
  refine (congrArg (fun z => putW (putW (putW (u32W (u32W (u16W (u16W (u16W z _) _) _) _) _) _) _) _) c).trans ?_
  show putW (putW (putW (u32W (u32W (u16W (u16W (u16W (some (cutL bs p (6 + 26))) ((szN bs (p + 32) : Nat) : Int)) (fld bs (p + 34) 2)) (fld bs (p + 36) 2)) (fld bs (p + 38) 4)) (fld bs (p + 42) 4)) (cutL bs (p + 46) (szN bs (p + 28)))) (cutL bs (p + (46 + szN bs (p + 28))) (szN bs (p + 30)))) (cutL bs (p + (46 + szN bs (p + 28) + szN bs (p + 30))) (szN bs (p + 32))) = _
  rw [szI h8, w16 h8 (k' := 34) (by omega) (by omega) (by omega), w16 h8 (k' := 36) (by omega) (by omega) (by omega), w16 h8 (k' := 38) (by omega) (by omega) (by omega), w32 h8 (k' := 42) (by omega) (by omega) (by omega), w32 h8 (k' := 46) (by omega) (by omega) (by omega),
    wput (k' := 46 + szN bs (p + 28)) (by omega) (by omega), wput (k' := 46 + szN bs (p + 28) + szN bs (p + 30)) (by omega) (by omega), wput (k' := cenLen bs p) (by omega) (by omega)]
theorem endW_at {bs : List Int} (h8 : B8 bs) {p : Nat} (h : endErr bs p = 0) : endW (endAt bs p) = some (cutL bs p (endLen bs p)) := by
  obtain ⟨hs, hl⟩ := end_ok h
  have hll : endLen bs p = 22 + szN bs (p + 20) := rfl
  have e1 : (endAt bs p).cm.length = szN bs (p + 20) := cut_len (by omega)
  unfold endW
  rw [e1, cut0 bs p, ← hs, w32 h8 (k' := 4) (by omega) (by omega) (by omega)]
  show putW (u16W (u32W (u32W (u16W (u16W (u16W (u16W (some (cutL bs p 4)) (fld bs (p + 4) 2)) (fld bs (p + 6) 2)) (fld bs (p + 8) 2)) (fld bs (p + 10) 2)) (fld bs (p + 12) 4)) (fld bs (p + 16) 4)) ((szN bs (p + 20) : Nat) : Int)) (cutL bs (p + 22) (szN bs (p + 20))) = _
  rw [szI h8, w16 h8 (k' := 6) (by omega) (by omega) (by omega), w16 h8 (k' := 8) (by omega) (by omega) (by omega), w16 h8 (k' := 10) (by omega) (by omega) (by omega), w16 h8 (k' := 12) (by omega) (by omega) (by omega), w32 h8 (k' := 16) (by omega) (by omega) (by omega), w32 h8 (k' := 20) (by omega) (by omega) (by omega), w16 h8 (k' := 22) (by omega) (by omega) (by omega), wput (k' := endLen bs p) (by omega) (by omega)]
/-- what a local header that may be says -/
theorem one_ok {bs : List Int} {c : Cn} {p : Nat} (h : oneErr bs c p = 0) : c.a15 = (p : Nat) ∧ locErr bs p = 0 ∧ sameH (locAt bs p) c := by
  unfold oneErr at h
  split at h
  · cases h
  · rename_i q1
    split at h
    · rename_i q; exact absurd h q
    · rename_i q2
      split at h
      · cases h
      · rename_i q3
        exact ⟨Decidable.not_not.1 q1, Decidable.not_not.1 q2, Decidable.not_not.1 q3⟩
theorem jn_scan {pre mid : List Int} (h8 : B8 pre) (h9 : B8 mid) : ∀ (k pc p : Nat), (rdCens mid k pc).1 = 0 → (rdLocs pre (rdCens mid k pc).2.1 p).1 = 0 → p ≤ pre.length → pc ≤ mid.length →
    jn (rdLocs pre (rdCens mid k pc).2.1 p).2.1 (pre.take p) (mid.take pc) = some (pre.take (rdLocs pre (rdCens mid k pc).2.1 p).2.2, mid.take (rdCens mid k pc).2.2) ∧ (rdLocs pre (rdCens mid k pc).2.1 p).2.1.length = k ∧ (rdLocs pre (rdCens mid k pc).2.1 p).2.2 ≤ pre.length ∧ (rdCens mid k pc).2.2 ≤ mid.length ∧ pc + 46 * k ≤ (rdCens mid k pc).2.2
  | 0, pc, p, h1, h2, hp, hpc => ⟨rfl, rfl, hp, hpc, Nat.le_refl _⟩
  | k + 1, pc, p, h1, h2, hp, hpc => by
    by_cases c1 : cenErr mid pc = 0
    · have d1 : rdCens mid (k + 1) pc = ((rdCens mid k (pc + cenLen mid pc)).1, cenAt mid pc :: (rdCens mid k (pc + cenLen mid pc)).2.1, (rdCens mid k (pc + cenLen mid pc)).2.2) := by
        rw [rdCens, if_neg (by simpa using c1)]
      rw [d1] at h1 h2 ⊢
      simp only [] at h1 h2 ⊢
      obtain ⟨c, hc⟩ : ∃ c, c = cenAt mid pc := ⟨_, rfl⟩
      rw [← hc] at h2 ⊢
      by_cases c2 : oneErr pre c p = 0
      · have d2 : ∀ l, rdLocs pre (c :: l) p = ((rdLocs pre l (p + oneLen pre p)).1, oneIt pre c p :: (rdLocs pre l (p + oneLen pre p)).2.1, (rdLocs pre l (p + oneLen pre p)).2.2) := fun l => by
          rw [rdLocs, if_neg (by simpa using c2)]
        rw [d2] at h2 ⊢
        simp only [] at h2 ⊢
        obtain ⟨e15, eL, eS⟩ := one_ok c2
        obtain ⟨le1, nn⟩ := oneErr_le h8 c2
        have le2 := (cen_ok c1).2
        have lL := (loc_ok eL).2
        have hoL : oneLen pre p = locLen pre p + (locAt pre p).a7.toNat := rfl
        have hdl : (oneIt pre c p).da.length = (locAt pre p).a7.toNat := cut_len (by omega)
        have hda : (((oneIt pre c p).da.length : Nat) : Int) = (locAt pre p).a7 := by rw [hdl, Int.toNat_of_nonneg nn]
        have hH : hdJ (oneIt pre c p) = locAt pre p := by
          unfold hdJ
          rw [hda]
          show Hd.mk c.a1 c.a2 c.a3 c.a4 c.a5 c.a6 (locAt pre p).a7 c.a8 c.nm (locAt pre p).ex = _
          obtain ⟨q1, q2, q3, q4, q5, q6, q7, q8, q9⟩ := eS
          rw [← q1, ← q2, ← q3, ← q4, ← q5, ← q6, ← q8, ← q9]
        have hO : (pre.take p).length = p := by simp; omega
        have hC : cnJ (oneIt pre c p) (pre.take p).length = c := by
          unfold cnJ
          rw [hda, hO, ← e15, eS.2.2.2.2.2.2.1]
          rfl
        have ih := jn_scan h8 h9 k (pc + cenLen mid pc) (p + oneLen pre p) h1 h2 (by omega) le2
        have ha : locW (hdJ (oneIt pre c p)) = some (cutL pre p (locLen pre p)) := by rw [hH]; exact locW_at h8 eL
        have hb : cenW (cnJ (oneIt pre c p) (pre.take p).length) = some (cutL mid pc (cenLen mid pc)) := by rw [hC, hc]; exact cenW_at h9 c1
        have hcl : 46 ≤ cenLen mid pc := by unfold cenLen; omega
        refine ⟨?_, by have := ih.2.1; simp only [List.length_cons]; omega, ih.2.2.1, ih.2.2.2.1, by have := ih.2.2.2.2; omega⟩
        rw [jn_cons, jn1_some ha hb, Option.bind_some]
        show jn _ (pre.take p ++ cutL pre p (locLen pre p) ++ cutL pre (p + locLen pre p) (locAt pre p).a7.toNat) (mid.take pc ++ cutL mid pc (cenLen mid pc)) = _
        rw [take_cut, take_cut, take_cut, show p + locLen pre p + (locAt pre p).a7.toNat = p + oneLen pre p by omega]
        exact ih.1
      · exact absurd (by rw [rdLocs, if_pos c2] at h2; exact h2) c2
    · exact absurd (by rw [rdCens, if_pos c1] at h1; exact h1) c1
theorem endE_ok {bs : List Int} (h : endE bs = 0) : 0 ≤ findE bs ∧ (scX bs).b1 = 0 ∧ (scX bs).b2 = 0 ∧ (scX bs).b3 = (scX bs).b4 ∧ (scX bs).b6 + (scX bs).b5 = findE bs := by
  unfold endE at h
  split at h
  · cases h
  · rename_i q
    unfold endOk at h
    split at h
    · cases h
    · rename_i q1
      split at h
      · cases h
      · rename_i q2
        have q3 : (scX bs).b6 + (scX bs).b5 = findE bs := Decidable.not_not.1 q2
        have q1' : ¬ ((scX bs).b1 ≠ 0 ∨ (scX bs).b2 ≠ 0 ∨ (scX bs).b3 ≠ (scX bs).b4 ∨ (scX bs).b5 = 4294967295 ∨ (scX bs).b6 = 4294967295) := q1
        exact ⟨by omega, by omega, by omega, by omega, q3⟩
theorem censP_ok {bs : List Int} {n : Nat} (h : (censP bs n).1 = 0) : (rdCens bs n 0).1 = 0 ∧ bs.length ≤ (rdCens bs n 0).2.2 ∧ (censP bs n).2 = (rdCens bs n 0).2.1 := by
  unfold censP at h ⊢
  split at h
  · rename_i q; exact absurd h q
  · rename_i q
    split at h
    · cases h
    · split at h
      · rename_i q3; exact absurd h q3
      · rename_i q2 q3
        rw [if_neg q, if_neg q2, if_neg q3]
        exact ⟨Decidable.not_not.1 q, by omega, rfl⟩
theorem scanP_ok {bs : List Int} (h : (scanP bs).err = 0) : endE bs = 0 ∧ (scCs bs).1 = 0 ∧ (scLs bs).1 = 0 ∧ (bs.take (scX bs).b6.toNat).length ≤ (scLs bs).2.2 ∧ (scanP bs).its = (scLs bs).2.1 ∧ (scanP bs).cm = (scX bs).cm := by
  unfold scanP at h ⊢
  split at h
  · rename_i q; exact absurd h q
  · rename_i q
    split at h
    · rename_i q2; exact absurd h q2
    · rename_i q2
      split at h
      · rename_i q3; exact absurd h q3
      · rename_i q3
        split at h
        · cases h
        · rename_i q4
          rw [if_neg q, if_neg q2, if_neg q3, if_neg q4]
          exact ⟨Decidable.not_not.1 q, Decidable.not_not.1 q2, Decidable.not_not.1 q3, by omega, rfl, rfl⟩
theorem scan_join {bs : List Int} (h8 : B8 bs) (h : (scanP bs).err = 0) : joinP (scanP bs).its (scanP bs).cm = (0, bs) ∧ 46 * (scanP bs).its.length ≤ bs.length ∧ 0 ≤ findE bs := by
  obtain ⟨h1, h2, h3, h4, h5, h6⟩ := scanP_ok h
  obtain ⟨hf, e1, e2, e3, e4⟩ := endE_ok h1
  have hie : isEnd bs (findE bs).toNat := lastEnd_is bs _ hf
  obtain ⟨en1, en2⟩ := isEnd_ok hie
  obtain ⟨he1, he2, he3⟩ := hie
  obtain ⟨e, he⟩ : ∃ e, e = (findE bs).toNat := ⟨_, rfl⟩
  rw [← he] at en1 en2 he1 he2 he3
  have hfe : findE bs = (e : Nat) := by omega
  obtain ⟨pre, hpre⟩ : ∃ pre, pre = bs.take (scX bs).b6.toNat := ⟨_, rfl⟩
  obtain ⟨mid, hmid⟩ : ∃ mid, mid = (bs.take (findE bs).toNat).drop (scX bs).b6.toNat := ⟨_, rfl⟩
  have hsc : scCs bs = censP mid (scX bs).b4.toNat := by unfold scCs; rw [← hmid]
  have hb6 : 0 ≤ (scX bs).b6 := (fld_bd h8 ((findE bs).toNat + 16)).2.1
  have hb5 : 0 ≤ (scX bs).b5 := (fld_bd h8 ((findE bs).toNat + 12)).2.1
  have hb4 : 0 ≤ (scX bs).b4 ∧ (scX bs).b4 ≤ 65535 := (fld_bd h8 ((findE bs).toNat + 10)).1
  have lpre : pre.length = (scX bs).b6.toNat := by rw [hpre]; simp; omega
  have lmid : mid.length = (scX bs).b5.toNat := by rw [hmid]; simp; omega
  have b8p : B8 pre := fun x hx => h8 x (by rw [hpre] at hx; exact List.mem_of_mem_take hx)
  have b8m : B8 mid := fun x hx => h8 x (by rw [hmid] at hx; exact List.mem_of_mem_take (List.mem_of_mem_drop hx))
  rw [hsc] at h2
  obtain ⟨c1, c2, c3⟩ := censP_ok h2
  have hls : scLs bs = rdLocs pre (rdCens mid (scX bs).b4.toNat 0).2.1 0 := by unfold scLs; rw [hsc, c3, ← hpre]
  rw [hls] at h3 h4 h5
  rw [← hpre] at h4
  have J := jn_scan b8p b8m (scX bs).b4.toNat 0 0 c1 h3 (by omega) (by omega)
  have hall : pre ++ mid ++ bs.drop e = bs := by
    have q1 : pre = (bs.take e).take (scX bs).b6.toNat := by rw [hpre, List.take_take, Nat.min_eq_left (by omega)]
    rw [q1, hmid, ← he, List.take_append_drop, List.take_append_drop]
  rw [h5, h6]
  refine ⟨?_, by rw [J.2.1]; have := J.2.2.2.2; have := J.2.2.2.1; have : mid.length ≤ bs.length := by rw [hmid]; simp; omega
                 omega, hf⟩
  unfold joinP
  rw [J.2.1, if_neg (by omega)]
  have J1 := J.1
  rw [show (rdLocs pre (rdCens mid (scX bs).b4.toNat 0).2.1 0).2.2 = pre.length by have := J.2.2.1; omega, show (rdCens mid (scX bs).b4.toNat 0).2.2 = mid.length by have := J.2.2.2.1; omega, List.take_length, List.take_length, List.take_zero, List.take_zero] at J1
  rw [J1]
  have hEn : enJ (scX bs).b4.toNat mid.length pre.length (scX bs).cm = endAt (bs.drop e) 0 := by
    rw [en2]
    show En.mk 0 0 ((((scX bs).b4.toNat : Nat)) : Int) ((((scX bs).b4.toNat : Nat)) : Int) ((mid.length : Nat) : Int) ((pre.length : Nat) : Int) (scX bs).cm = _
    rw [lmid, lpre, Int.toNat_of_nonneg hb5, Int.toNat_of_nonneg hb6, Int.toNat_of_nonneg hb4.1]
    have e5 : scX bs = endAt bs e := by unfold scX; rw [he]
    have e1' := e1.symm
    have e2' := e2.symm
    have e3' := e3.symm
    calc En.mk 0 0 (scX bs).b4 (scX bs).b4 (scX bs).b5 (scX bs).b6 (scX bs).cm = En.mk (scX bs).b1 (scX bs).b2 (scX bs).b3 (scX bs).b4 (scX bs).b5 (scX bs).b6 (scX bs).cm := by rw [e1, e2, e3]
      _ = endAt bs e := by rw [e5]
  have hdl : (bs.drop e).length = bs.length - e := List.length_drop
  have hz : endLen (bs.drop e) 0 = (bs.drop e).length := by
    have hq : szN (bs.drop e) (0 + 20) = szN bs (e + 20) := by unfold szN fld; rw [List.drop_drop, Nat.zero_add]
    unfold endLen
    rw [hq, hdl]; omega
  have b8d : B8 (bs.drop e) := fun x hx => h8 x (List.mem_of_mem_drop hx)
  have hW := endW_at b8d en1
  rw [hz, show cutL (bs.drop e) 0 (bs.drop e).length = bs.drop e by unfold cutL; rw [List.drop_zero, List.take_length]] at hW
  show (match endW (enJ (scX bs).b4.toNat mid.length pre.length (scX bs).cm) with
    | none => ((18 : Int), ([] : List Int))
    | some z => if findE (pre ++ mid ++ z) = ((pre.length + mid.length : Nat) : Int) then (0, pre ++ mid ++ z) else (4, [])) = _
  rw [hEn, hW]
  show (if findE (pre ++ mid ++ bs.drop e) = ((pre.length + mid.length : Nat) : Int) then ((0 : Int), pre ++ mid ++ bs.drop e) else (4, [])) = _
  rw [hall, if_pos (by omega)]
theorem rdCens_mem (bs : List Int) : ∀ (k p : Nat), ∀ c ∈ (rdCens bs k p).2.1, ∃ q, c = cenAt bs q
  | 0, p => by simp [rdCens]
  | k + 1, p => by
    unfold rdCens
    split
    · simp
    · intro c hc
      rcases List.mem_cons.1 hc with rfl | hc
      · exact ⟨p, rfl⟩
      · exact rdCens_mem bs k _ c hc
theorem rdLocs_mem (bs : List Int) : ∀ (l : List Cn) (p : Nat), ∀ it ∈ (rdLocs bs l p).2.1, ∃ q c, c ∈ l ∧ it = oneIt bs c q
  | [], p => by simp [rdLocs]
  | c :: l, p => by
    unfold rdLocs
    split
    · simp
    · intro it hi
      rcases List.mem_cons.1 hi with rfl | hi
      · exact ⟨p, c, List.mem_cons_self, rfl⟩
      · obtain ⟨q, c', h1, h2⟩ := rdLocs_mem bs l _ it hi
        exact ⟨q, c', List.mem_cons_of_mem _ h1, h2⟩
theorem scan_sm {bs : List Int} (h8 : B8 bs) (hm : bs.length ≤ 3000) (h : (scanP bs).err = 0) : ∀ it ∈ (scanP bs).its, Sm it := by
  obtain ⟨h1, h2, h3, h4, h5, h6⟩ := scanP_ok h
  intro it hi
  have hl := (scanP_len h8).2.2 it hi
  rw [h5] at hi
  obtain ⟨q, c, hc, rfl⟩ := rdLocs_mem _ _ _ it hi
  obtain ⟨_, _, c3⟩ := censP_ok (show (censP ((bs.take (findE bs).toNat).drop (scX bs).b6.toNat) (scX bs).b4.toNat).1 = 0 from h2)
  have hc' : c ∈ (rdCens ((bs.take (findE bs).toNat).drop (scX bs).b6.toNat) (scX bs).b4.toNat 0).2.1 := by rw [← c3]; exact hc
  obtain ⟨q', rfl⟩ := rdCens_mem _ _ _ c hc'
  have b8p : B8 (bs.take (scX bs).b6.toNat) := fun x hx => h8 x (List.mem_of_mem_take hx)
  have b8m : B8 ((bs.take (findE bs).toNat).drop (scX bs).b6.toNat) := fun x hx => h8 x (List.mem_of_mem_take (List.mem_of_mem_drop hx))
  exact ⟨⟨cut_b8 b8m _ _, Nat.le_trans hl.1 hm⟩, ⟨cut_b8 b8m _ _, Nat.le_trans hl.2.1 hm⟩, ⟨cut_b8 b8m _ _, Nat.le_trans hl.2.2.1 hm⟩, ⟨cut_b8 b8p _ _, Nat.le_trans hl.2.2.2.1 hm⟩, ⟨cut_b8 b8p _ _, Nat.le_trans hl.2.2.2.2 hm⟩⟩
theorem scan_cm {bs : List Int} (h8 : B8 bs) (h : (scanP bs).err = 0) : B8 (scanP bs).cm := by
  rw [(scanP_ok h).2.2.2.2.2]; exact cut_b8 h8 _ _
/-- scanned and joined -/
theorem scan_again {h : GH} {q : Sl} {bs : List Int} (rq : Rd h q bs) (h8 : B8 bs) (hm : bs.length ≤ 3000) {R : Nat} (hR : 4000000 < R) :
    ∃ h2, Keep h h2 [] ∧ ((scanP bs).err = 0 → ∃ y c h3 d, Keep h2 h3 [] ∧ Bv h3 d bs ∧ 0 ≤ findE bs ∧ (∀ (β : Type) (K : Sl → Sl → Int → GH → Option β), F_denote_Scan R q h K = K y c 0 h2) ∧ (∀ (β : Type) (K : Sl → Int → GH → Option β), F_denote_Join R y c h2 K = K d 0 h3)) ∧
      ((scanP bs).err ≠ 0 → ∀ (β : Type) (K : Sl → Sl → Int → GH → Option β), F_denote_Scan R q h K = K ⟨none, 0, 0⟩ ⟨none, 0, 0⟩ (scanP bs).err h2) := by
  obtain ⟨h2, k2, ok2, no2⟩ := scan_prog rq h8 (by omega) hR
  refine ⟨h2, k2, fun e => ?_, fun e => (no2 e).2.2⟩
  obtain ⟨y, c, l, i2, m2, rc2, nc2, e3⟩ := ok2 e
  have sj := scan_join h8 e
  have hsm : ∀ x ∈ l, Sm x.it := fun x hx => scan_sm h8 hm e x.it (by rw [← m2]; exact List.mem_map_of_mem hx)
  have hll : l.length = (scanP bs).its.length := by have := congrArg List.length m2; simpa using this
  have hcl := (scanP_len h8).1
  obtain ⟨h3, d, k3, n3, ok3, no3, b3, e4⟩ := join_prog i2 rc2 (scan_cm h8 e) (by omega) hsm (by have := sj.2.1; omega) hR
  rw [m2, sj.1] at ok3 e4
  exact ⟨y, c, h3, d, k3, (ok3 rfl).1, sj.2.2, e3, e4⟩
end Go.Proofs.Ytibngikhlgmhaaa.Gx

