/- Lengths and symbols there and back: the law. No condition. -/
import Derived.Test.YtephmpbccajaaaaReads
import Derived.Test.YtephmpbccajaaaaUnpk
import Derived.Test.YtephmpbccajaaaaWrite
namespace Go.Proofs.Ytephmpbccajaaaa.Gx
open Go Go.RowKit
set_option linter.unusedVariables false
set_option linter.unusedSimpArgs false
theorem within_eq' (R : Nat) (x lo hi : Int) {β : Type} (h : GH) (K : Int → GH → Option β) : F_ref01_Within R x lo hi h K = K (if x < lo then lo else if x > hi then hi else x) h := by
  unfold F_ref01_Within; rw [F_ref01_Within_gen]; simp only [cond_dec]
  by_cases c : x < lo
  · rw [if_pos c, if_pos c]
  · rw [if_neg c, if_neg c]
    by_cases c2 : x > hi
    · rw [if_pos c2, if_pos c2]
    · rw [if_neg c2, if_neg c2]
/-- the symbol that a number stands for -/
def symN (N : Nat) (x : Int) : Nat := (if x < 0 then 0 else if x > ((N : Nat) : Int) - 1 then ((N : Nat) : Int) - 1 else x).toNat
theorem symN_lt {N : Nat} (h : 0 < N) (x : Int) : symN N x < N := by
  unfold symN
  split
  · omega
  · split <;> omega
theorem symN_int {N : Nat} (h : 0 < N) (x : Int) : (if x < 0 then 0 else if x > IntKind.wrap .i64 (((N : Nat) : Int) - 1) then IntKind.wrap .i64 (((N : Nat) : Int) - 1) else x) = ((symN N x : Nat) : Int) ∨ 9000000000000000000 < N := by
  by_cases hN : N ≤ 9000000000000000000
  · left
    rw [i64w (by omega)]
    unfold symN
    split
    · rfl
    · split <;> omega
  · right; omega
/-- the words of symbols, one behind the other -/
def encV (zs : List Int) : List Nat → Nat
  | [] => 0
  | s :: r => revN (lnN zs s) (wdN zs s) 0 + encV zs r * 2 ^ lnN zs s
def encL (zs : List Int) : List Nat → Nat
  | [] => 0
  | s :: r => lnN zs s + encL zs r
section
variable {zs : List Int} (hx : ∀ x ∈ zs, lenP x) (hw : wgt zs = 65536)
include hx
theorem ln_16 {s : Nat} (hs : s < zs.length) : 1 ≤ lnN zs s ∧ lnN zs s ≤ 16 := by
  have := hx _ (mem_getD hs)
  unfold lenP at this; unfold lnN; omega
theorem encL_le : ∀ l : List Nat, (∀ s ∈ l, s < zs.length) → encL zs l ≤ 16 * l.length
  | [], _ => by simp [encL]
  | s :: r, h => by
    have h1 := ln_16 hx (h s (by simp))
    have h2 := encL_le r (fun t ht => h t (by simp [ht]))
    rw [encL, List.length_cons]; omega
omit hx in
theorem encV_lt : ∀ l : List Nat, encV zs l < 2 ^ encL zs l
  | [] => by simp [encV, encL]
  | s :: r => by
    have h1 := revN_lt (lnN zs s) (wdN zs s)
    have h2 := encV_lt r
    rw [encV, encL, Nat.pow_add]
    have h3 : (encV zs r + 1) * 2 ^ lnN zs s ≤ 2 ^ encL zs r * 2 ^ lnN zs s := Nat.mul_le_mul_right _ h2
    rw [Nat.add_mul, Nat.one_mul] at h3
    rw [Nat.mul_comm (2 ^ lnN zs s)]; omega
include hw
/-- where a word's bits stand, the word is read -/
theorem nextG_word {bs : List Int} {p s : Nat} (hs : s < zs.length) (hf : p + lnN zs s ≤ 8 * bs.length) (hb : rdV bs p (lnN zs s) = revN (lnN zs s) (wdN zs s) 0) : ∀ (k n : Nat), k + n = 16 → n < lnN zs s → nextG zs bs p k n (wdN zs s / 2 ^ (lnN zs s - n)) = (((s : Nat) : Int), 0, p + lnN zs s) := by
  have h16 := ln_16 hx hs
  intro k
  induction k with
  | zero => intro n h1 h2; omega
  | succ k ih =>
    intro n h1 h2
    have hbit : rdV bs (p + n) 1 = wdN zs s / 2 ^ (lnN zs s - n - 1) % 2 := by
      rw [← revN_bitN h2, ← hb]
      unfold rdV
      have e1 : (2 : Nat) ^ lnN zs s = 2 ^ n * (2 * 2 ^ (lnN zs s - n - 1)) := by
        rw [Nat.mul_left_comm, ← Nat.pow_add, Nat.mul_comm, ← Nat.pow_succ]; congr 1; omega
      rw [e1, Nat.mod_mul_right_div_self, Nat.mod_mul_right_mod, Nat.div_div_eq_div_mul, ← Nat.pow_add, Nat.pow_one]
    have hnx := wd_next (wdN zs s) (lnN zs s) n h2
    rw [nextG, if_pos (by omega), hbit, ← hnx]
    by_cases c : n + 1 = lnN zs s
    · have hf := findW_word hx hw hs c.symm rfl
      rw [show lnN zs s - n - 1 = 0 by omega, Nat.pow_zero, Nat.div_one, c]
      rw [show n + 1 = lnN zs s from c] at hf
      rw [hf]; simp only; congr 2; omega
    · have hnone : findW zs (n + 1) (wdN zs s / 2 ^ (lnN zs s - n - 1)) = none := by
        cases hf : findW zs (n + 1) (wdN zs s / 2 ^ (lnN zs s - n - 1)) with
        | none => rfl
        | some t =>
          obtain ⟨t1, t2, t3⟩ := fdW_some hf
          have hne : t ≠ s := by rintro rfl; omega
          exact absurd (by rw [t2, t3]; rfl) (no_prefix hx hw t1 hs hne (by omega))
      rw [hnone]
      have := ih (n + 1) (by omega) (by omega)
      rw [show lnN zs s - (n + 1) = lnN zs s - n - 1 by omega] at this
      exact this
end
theorem codes_put {zs : List Int} (c : checkE zs = 0) {R : Nat} (hR : 4000000 < R) {ss cs : Sl} {pd : Option Addr} {xs : List Int} {g : Nat} (hss : g ∉ rowsOf ss) (hcs : g ∉ rowsOf cs) : ∀ (f i : Nat) {h : GH} {wb : Sl} {v len : Nat}, i ≤ xs.length → xs.length < f + i → xs.length ≤ 100 → Rdi h ss xs → Row h cs 2 (codesV (wordsP zs)) → Wtr h g wb v len → (∀ x ∈ rowsOf wb, x ∉ rowsOf ss ∧ x ∉ rowsOf cs) → len ≤ 16 * i →
    ∃ h' wb', Wtr h' g wb' (v + encV zs ((xs.drop i).map (symN zs.length)) * 2 ^ len) (len + encL zs ((xs.drop i).map (symN zs.length))) ∧ Keep h h' (g :: rowsOf wb) ∧ ∀ (β : Type) (K0 : Sl → Sl → Option Addr → Option Addr → GH → Option β), F_law06_SfanoBack_l0 (F_ref01_Ints R) (F_sfano_Pack R) F_law06_lives (F_bitio_Open R) (F_sfano_Unpack R) (F_ref01_SameInts R) (F_sfano_Codes R) (F_sfano_New R) (F_bitio_New R) (F_ref01_Within R) (F_bitio_Writer_Put R) (F_bitio_Writer_Bytes R) (F_sfano_Decoder_Next R) (F_bitio_Reader_Read R) (F_bitio_Writer_Len R) R f ss cs pd (some ⟨g, 0, none⟩) ((i : Nat) : Int) h K0 = K0 ss cs pd (some ⟨g, 0, none⟩) h' := by
  intro f
  obtain ⟨hx, hw, hl1, hl2⟩ := checkE_0 c
  have hwl := wordsP_length c
  induction f with
  | zero => intro i h wb v len h1 h2; omega
  | succ f ih =>
    intro i h wb v len h1 h2 h3 r rc w hd hlen
    by_cases hi : i < xs.length
    · have hs := symN_lt (show 0 < zs.length by omega) (xs.getD i 0)
      obtain ⟨s, hsy⟩ : ∃ s, s = symN zs.length (xs.getD i 0) := ⟨_, rfl⟩
      rw [← hsy] at hs
      have h16 := ln_16 hx hs
      have hbits := revN_lt (lnN zs s) (wdN zs s)
      have hp16 : 2 ^ lnN zs s ≤ 2 ^ 16 := Nat.pow_le_pow_right (by omega) h16.2
      rw [show (2 : Nat) ^ 16 = 65536 by decide] at hp16
      obtain ⟨sn, gs, os, hsa, hcc⟩ := rc.code (by omega)
      have c1 := hcc s (by omega)
      rw [wordsP_get c hs] at c1
      have hl := hx _ (mem_getD hs)
      unfold lenP at hl
      have el : zs.getD s 0 = ((lnN zs s : Nat) : Int) := by unfold lnN; omega
      simp only at c1
      rw [show (zs.getD s 0).toNat = lnN zs s from rfl, el] at c1
      have kA := keep_push h (.row ⟨[.int .u32 (revN (lnN zs s) (wdN zs s) 0 : Nat), .int .i64 (lnN zs s : Nat)], 0, false⟩) []
      obtain ⟨hA, ehA⟩ : ∃ hA, hA = h.push (.row ⟨[.int .u32 (revN (lnN zs s) (wdN zs s) 0 : Nat), .int .i64 (lnN zs s : Nat)], 0, false⟩) := ⟨_, rfl⟩
      rw [← ehA] at kA
      have wA : Wtr hA g wb v len := WtS.keep w kA (by simp) (by simp)
      obtain ⟨hB, wb2, wB, kB, nB, eB⟩ := put_prog wA (x := revN (lnN zs s) (wdN zs s) 0) (k := lnN zs s) (by omega) (by omega) (by omega) hR
      have hg := look_lt w.look
      have kAB : Keep h hB (g :: rowsOf wb) := (kA.mono (by simp)).trans kB (fun x hx => .inl hx)
      have lr := r.lt
      have lc := rc.lt
      have hput : putV v len (revN (lnN zs s) (wdN zs s) 0) (lnN zs s) = v + revN (lnN zs s) (wdN zs s) 0 * 2 ^ len := by rw [putV, Nat.mod_eq_of_lt hbits]
      rw [hput] at wB
      have nB' : ∀ x ∈ rowsOf wb2, x ∈ rowsOf wb ∨ h.next ≤ x := fun x hx => (nB x hx).imp id (fun q => by have := kA.1; omega)
      obtain ⟨h', wb', w', k', e'⟩ := ih (i + 1) (by omega) (by omega) h3 (r.keep kAB (fun x hx hm => by
          rcases List.mem_cons.1 hm with e | e
          · subst e; exact hss hx
          · exact (hd x e).1 hx)) (rc.keep kAB (fun x hx hm => by
          rcases List.mem_cons.1 hm with e | e
          · subst e; exact hcs hx
          · exact (hd x e).2 hx)) wB (fun x hx => by
          rcases nB' x hx with q | q
          · exact hd x q
          · exact ⟨fun t => by have := lr x t; omega, fun t => by have := lc x t; omega⟩) (by omega)
      have edrop : (xs.drop i).map (symN zs.length) = s :: (xs.drop (i + 1)).map (symN zs.length) := by rw [getD_drop hi, List.map_cons, ← hsy]
      refine ⟨h', wb', ?_, kAB.trans k' (fun x hx => ?_), fun β K0 => ?_⟩
      · rw [edrop, encV, encL]
        rw [show v + (revN (lnN zs s) (wdN zs s) 0 + encV zs ((xs.drop (i + 1)).map (symN zs.length)) * 2 ^ lnN zs s) * 2 ^ len = v + revN (lnN zs s) (wdN zs s) 0 * 2 ^ len + encV zs ((xs.drop (i + 1)).map (symN zs.length)) * 2 ^ (len + lnN zs s) by rw [Nat.add_mul, Nat.mul_assoc, ← Nat.pow_add, Nat.add_comm (lnN zs s) len, Nat.add_assoc], ← Nat.add_assoc]
        exact w'
      · rcases List.mem_cons.1 hx with e | e
        · subst e; exact .inl (by simp)
        · rcases nB' x e with q | q
          · exact .inl (by simp [q])
          · exact .inr q
      · have esym : (if xs.getD i 0 < 0 then 0 else if xs.getD i 0 > IntKind.wrap .i64 (((cs.n : Nat) : Int) - 1) then IntKind.wrap .i64 (((cs.n : Nat) : Int) - 1) else xs.getD i 0) = ((s : Nat) : Int) := by
          rw [sn, hwl]
          rcases symN_int (show 0 < zs.length by omega) (xs.getD i 0) with q | q
          · rw [q, hsy]
          · omega
        have cA0 : hA.cell ⟨h.next, 0 + 0, none⟩ = some (.int .u32 (revN (lnN zs s) (wdN zs s) 0 : Nat)) := by rw [ehA, cell_of look_push_new]; rfl
        have cA1 : hA.cell ⟨h.next, 0 + 1, none⟩ = some (.int .i64 (lnN zs s : Nat)) := by rw [ehA, cell_of look_push_new]; rfl
        rw [F_law06_SfanoBack_l0_succ, r.ni, decT (by omega), condT]
        have hgi : ∀ (K : Int → Option β), (exA ss.a fun g o => within ((i : Nat) : Int) xs.length (exI .i64 (h.cell ⟨g, o + ((i : Nat) : Int).toNat * 1, none⟩) K)) = K (xs.getD i 0) := fun K => by
          have := r.intN (β := β) hi K
          rw [r.ni] at this; exact this
        rw [hgi, within_eq', esym, hsa]
        simp only [exA_s, sn, hwl, within_n hs, Int.toNat_natCast, c1.1, c1.2, exI_s]
        rw [gnew_eq rfl, gput_eq look_push_new rfl (by simp), put_push_same rfl]
        rw [show nlay [Value.int .u32 0, Value.int .i64 0] 0 [Value.int .u32 ((revN (lnN zs s) (wdN zs s) 0 : Nat) : Int), Value.int .i64 ((lnN zs s : Nat) : Int)] = [Value.int .u32 ((revN (lnN zs s) (wdN zs s) 0 : Nat) : Int), Value.int .i64 ((lnN zs s : Nat) : Int)] from rfl, ← ehA, cA0, cA1, exI_s, exI_s]
        refine Eq.trans (eB β _) ?_
        rw [i64w (by omega)]
        exact e' β K0
    · have hnil : xs.drop i = [] := List.drop_eq_nil_of_le (by omega)
      refine ⟨h, wb, by rw [hnil]; simpa [encV, encL] using w, .refl _ _, fun β K0 => ?_⟩
      rw [F_law06_SfanoBack_l0_succ, r.ni, decF (by omega), condF]
theorem codes_get {zs : List Int} (c : checkE zs = 0) {R : Nat} (hR : 4000000 < R) {T : List (Int × Int)} {ps : List (Nat × Nat)} (t : Tree zs T ps zs.length) {ss cs : Sl} {pw : Option Addr} {xs : List Int} {gd gt g : Nat} {rb : Sl} {bs : List Int} (a1 : gd ≠ g) (a2 : gt ≠ g) (hss : g ∉ rowsOf ss) (hcn : cs.n = zs.length) : ∀ (f i p : Nat) {h : GH}, i ≤ xs.length → xs.length < f + i → xs.length ≤ 100 → Rdi h ss xs → Dec h gd gt T → Rdr h g rb bs p 0 → numN bs / 2 ^ p = encV zs ((xs.drop i).map (symN zs.length)) → p + encL zs ((xs.drop i).map (symN zs.length)) ≤ 8 * bs.length →
    ∃ h', Rdr h' g rb bs (p + encL zs ((xs.drop i).map (symN zs.length))) 0 ∧ Keep h h' [g] ∧ ∀ (β : Type) (K2 : Option Addr → Option Addr → GH → Option β) (Kr : Bool → GH → Option β), F_law06_SfanoBack_l1 (F_ref01_Ints R) (F_sfano_Pack R) F_law06_lives (F_bitio_Open R) (F_sfano_Unpack R) (F_ref01_SameInts R) (F_sfano_Codes R) (F_sfano_New R) (F_bitio_New R) (F_ref01_Within R) (F_bitio_Writer_Put R) (F_bitio_Writer_Bytes R) (F_sfano_Decoder_Next R) (F_bitio_Reader_Read R) (F_bitio_Writer_Len R) R f ss cs (some ⟨gd, 0, none⟩) pw (some ⟨g, 0, none⟩) ((i : Nat) : Int) h K2 Kr = K2 pw (some ⟨g, 0, none⟩) h' := by
  intro f
  obtain ⟨hx, hw, hl1, hl2⟩ := checkE_0 c
  induction f with
  | zero => intro i p h h1 h2; omega
  | succ f ih =>
    intro i p h h1 h2 h3 r d rr hnum hfit
    by_cases hi : i < xs.length
    · have hs := symN_lt (show 0 < zs.length by omega) (xs.getD i 0)
      obtain ⟨s, hsy⟩ : ∃ s, s = symN zs.length (xs.getD i 0) := ⟨_, rfl⟩
      rw [← hsy] at hs
      have h16 := ln_16 hx hs
      have hbits := revN_lt (lnN zs s) (wdN zs s)
      have edrop : (xs.drop i).map (symN zs.length) = s :: (xs.drop (i + 1)).map (symN zs.length) := by rw [getD_drop hi, List.map_cons, ← hsy]
      rw [edrop, encV] at hnum
      rw [edrop, encL] at hfit
      have hrd : rdV bs p (lnN zs s) = revN (lnN zs s) (wdN zs s) 0 := by
        unfold rdV; rw [hnum, Nat.add_mul_mod_self_right, Nat.mod_eq_of_lt hbits]
      have hnx := nextG_word hx hw hs (by omega) hrd 16 0 (by omega) (by omega)
      rw [Nat.sub_zero, Nat.div_eq_of_lt (show wdN zs s < 2 ^ lnN zs s from (wd_eq hx hw hs).2)] at hnx
      obtain ⟨hA, rA, kA, eA⟩ := next_prog hx hw hR t a1 a2 d rr
      rw [hnx] at rA eA
      simp only at rA eA
      rw [show nextE 0 = 0 from rfl] at rA
      have rsA := r.keep kA (fun x hx hm => by simp at hm; subst hm; exact hss hx)
      obtain ⟨h', r', k', e'⟩ := ih (i + 1) (p + lnN zs s) (by omega) (by omega) h3 rsA (d.keep kA (by simpa using a1) (by simpa using a2)) rA (by
          rw [Nat.pow_add, ← Nat.div_div_eq_div_mul, hnum, Nat.add_mul_div_right _ _ (Nat.pow_pos (by omega)), Nat.div_eq_of_lt hbits, Nat.zero_add]) (by omega)
      refine ⟨h', by rw [edrop, encL, ← Nat.add_assoc]; exact r', kA.trans k' (fun q hq => .inl hq), fun β K2 Kr => ?_⟩
      have esym : (if xs.getD i 0 < 0 then 0 else if xs.getD i 0 > IntKind.wrap .i64 (((cs.n : Nat) : Int) - 1) then IntKind.wrap .i64 (((cs.n : Nat) : Int) - 1) else xs.getD i 0) = ((s : Nat) : Int) := by
        rw [hcn]
        rcases symN_int (show 0 < zs.length by omega) (xs.getD i 0) with q | q
        · rw [q, hsy]
        · omega
      have hgi : ∀ (K : Int → Option β), (exA ss.a fun g o => within ((i : Nat) : Int) xs.length (exI .i64 (hA.cell ⟨g, o + ((i : Nat) : Int).toNat * 1, none⟩) K)) = K (xs.getD i 0) := fun K => by
        have := rsA.intN (β := β) hi K
        rw [rsA.ni] at this; exact this
      rw [F_law06_SfanoBack_l1_succ, r.ni, decT (by omega), condT, eA, bne_self_eq_false, condF, hgi, within_eq', esym, bne_self_eq_false, condF, i64w (by omega)]
      exact e' β K2 Kr
    · have hnil : xs.drop i = [] := List.drop_eq_nil_of_le (by omega)
      refine ⟨h, by rw [hnil]; simpa [encL] using rr, .refl _ _, fun β K2 Kr => ?_⟩
      rw [F_law06_SfanoBack_l1_succ, r.ni, decF (by omega), condF]
theorem back_true {h : GH} {a b : Sl} {zs xs : List Int} (r : Rdi h a zs) (rx : Rdi h b xs) {R : Nat} (hR : 4000000 < R) : ∃ h', ∀ (β : Type) (K : Bool → GH → Option β), F_law06_SfanoBack R a b h K = K true h' := by
  obtain ⟨q, rq, _, e1⟩ := ref_ints r R 260
  obtain ⟨q2, rq2, _, e2⟩ := ref_ints rx R 100
  rw [show ((260 : Nat) : Int) = 260 from rfl] at e1
  rw [show ((100 : Nat) : Int) = 100 from rfl] at e2
  obtain ⟨zs, hzs⟩ : ∃ zs', zs' = zs.take 260 := ⟨_, rfl⟩
  rw [← hzs] at rq
  have hm : zs.length ≤ 260 := by rw [hzs]; simp; omega
  have hm2 : (xs.take 100).length ≤ 100 := by simp; omega
  obtain ⟨h3, s3, k3, r3, n3, e3⟩ := prog_pack rq (by omega) hR
  cases hr : rightP zs with
  | false =>
    refine ⟨h3, fun β K => ?_⟩
    have hn : s3.n = 0 := by have := r3.n; rw [packP, hr] at this; simpa using this
    unfold F_law06_SfanoBack
    rw [F_law06_SfanoBack_gen, e1, e2, e3, packE, hr, if_neg (by simp), show ((2 : Int) != 0) = true from rfl, condT, hn]
    exact lives06 _ _
  | true =>
    obtain ⟨hb8, hE, hO, hl⟩ := pack_back hr
    have hz := of_decide_eq_true hr
    have bk3 := k3.1
    obtain ⟨h4, g4, rb4, r4, k4, n4, m4, e4⟩ := open_eq r3 hb8 (by omega) R
    obtain ⟨h5, q5, _, r5, k5, n5, e5⟩ := unpack_prog hR r4 hz.1 hz.2.1
    rw [hO] at r5
    have bk4 := k4.1
    have bk5 := k5.1
    have lq := rq.lt
    have l3 := r3.lt
    have nq4 : ∀ x ∈ rowsOf q, x ∉ [g4] := fun x hx hm => by simp at hm; subst hm; have := lq _ hx; omega
    have rq5 := ((rq.keep k3 (by simp)).keep k4 (by simp)).keep k5 nq4
    have lq2 := rq2.lt
    have rx5 := ((rq2.keep k3 (by simp)).keep k4 (by simp)).keep k5 (fun x hx hm => by simp at hm; subst hm; have := lq2 _ hx; omega)
    obtain ⟨h6, cs, k6, r6, n6, e6⟩ := prog_codes rq5 (by omega) hR
    obtain ⟨h7, pd, k7, c7, e7⟩ := prog_new (rq5.keep k6 (by simp)) (by omega) hR
    have hqn := rq.ni
    have hs3n := r3.n
    have front : ∀ (β : Type) (K : Bool → GH → Option β), F_law06_SfanoBack R a b h K = (bif checkE zs != 0 then (bif checkE zs == checkE zs then F_law06_lives h7 fun r25 h26 => K r25 h26 else K false h7) else (bif ((cs.n : Nat) : Int) == 0 then K false h7 else (bif ((cs.n : Nat) : Int) != ((q.n : Nat) : Int) then K false h7 else F_bitio_New R h7 fun r29 h30 => F_law06_SfanoBack_l0 (F_ref01_Ints R) (F_sfano_Pack R) F_law06_lives (F_bitio_Open R) (F_sfano_Unpack R) (F_ref01_SameInts R) (F_sfano_Codes R) (F_sfano_New R) (F_bitio_New R) (F_ref01_Within R) (F_bitio_Writer_Put R) (F_bitio_Writer_Bytes R) (F_sfano_Decoder_Next R) (F_bitio_Reader_Read R) (F_bitio_Writer_Len R) R R q2 cs pd r29 0 h30 (fun w55 w56 w57 w58 h59 => F_bitio_Writer_Bytes R w58 h59 fun r60 h61 => F_bitio_Open R r60 h61 fun r62 h63 => F_law06_SfanoBack_l1 (F_ref01_Ints R) (F_sfano_Pack R) F_law06_lives (F_bitio_Open R) (F_sfano_Unpack R) (F_ref01_SameInts R) (F_sfano_Codes R) (F_sfano_New R) (F_bitio_New R) (F_ref01_Within R) (F_bitio_Writer_Put R) (F_bitio_Writer_Bytes R) (F_sfano_Decoder_Next R) (F_bitio_Reader_Read R) (F_bitio_Writer_Len R) R R w55 w56 w57 w58 r62 0 h63 (fun w81 w82 h83 => F_bitio_Reader_Read R w82 h83 fun r84 h85 => F_bitio_Writer_Len R w81 h85 fun r86 h87 => (bif r84 == r86 then F_law06_lives h87 fun r88 h89 => K r88 h89 else K false h87)) (fun w90 h91 => K w90 h91))))) := fun β K => by
      unfold F_law06_SfanoBack
      rw [F_law06_SfanoBack_gen, e1, e2, e3, packE, hr, if_pos rfl, bne_self_eq_false, condF, e4, hqn, e5, hE, bne_self_eq_false, condF, same_ints rq5 r5 (by omega) hR, notT, condF, hs3n, i64w (by omega), decF (by omega), condF, e6, e7]
      cases checkE zs != 0 <;> rfl
    by_cases c : checkE zs = 0
    · obtain ⟨gd, gt, T, ps, rfl, n7a, n7b, d, t⟩ : ∃ gd gt T ps, pd = some ⟨gd, 0, none⟩ ∧ h6.next ≤ gd ∧ h6.next ≤ gt ∧ Dec h7 gd gt T ∧ Tree zs T ps zs.length := by
        rcases c7 with ⟨q, _⟩ | ⟨_, q⟩
        · exact absurd c q
        · exact q
      have hwl := wordsP_length c
      have csn : cs.n = zs.length := by have := r6.len; rw [codesV_length, hwl] at this; omega
      have bk6 := k6.1
      have bk7 := k7.1
      have rc7 := r6.keep k7 (by simp)
      have rx7 := (rx5.keep k6 (by simp)).keep k7 (by simp)
      obtain ⟨h8, gw, w8, k8, n8, e8⟩ := new_writer h7
      have lc := rc7.lt
      have lx := rx7.lt
      have gdl := look_lt d.ptr
      have gtl := look_lt d.tree
      obtain ⟨h9, wb, w9, k9, e9⟩ := codes_put c hR (pd := some ⟨gd, 0, none⟩) (ss := q2) (cs := cs) (g := gw) (fun q => by have := lx _ q; omega) (fun q => by have := lc _ q; omega) R 0 (by omega) (by omega) hm2 (rx7.keep k8 (by simp)) (rc7.keep k8 (by simp)) w8 (by simp [rowsOf]) (by omega)
      rw [List.drop_zero, Nat.pow_zero, Nat.mul_one, Nat.zero_add, Nat.zero_add] at w9
      obtain ⟨hx, hw, hl1, hl2⟩ := checkE_0 c
      have hLe : encL zs ((xs.take 100).map (symN zs.length)) ≤ 16 * 100 := by
        have := encL_le hx ((xs.take 100).map (symN zs.length)) (fun s hs => by obtain ⟨x, _, rfl⟩ := List.mem_map.1 hs; exact symN_lt (by omega) x)
        rw [List.length_map] at this; omega
      obtain ⟨h10, s10, v10, k10, n10, e10⟩ := wbytes_eq w9 (by omega) R
      have bk8 := k8.1
      have bk9 := k9.1
      have bk10 := k10.1
      obtain ⟨h11, g11, rb11, r11, k11, n11, m11, e11⟩ := open_eq v10.row (bytesN_b8 _ _) (by rw [bytesN_length]; omega) R
      have kx : Keep h8 h11 [gw] := ((k9.mono (by simp [rowsOf])).trans (k10.mono (o1 := [gw]) (by simp)) (fun x hx => .inl hx)).trans (k11.mono (o1 := [gw]) (by simp)) (fun x hx => .inl hx)
      have hnum : numN (bytesN ((encL zs ((xs.take 100).map (symN zs.length)) + 7) / 8) (encV zs ((xs.take 100).map (symN zs.length)))) = encV zs ((xs.take 100).map (symN zs.length)) := by
        rw [numN_bytesN]
        exact Nat.mod_eq_of_lt (Nat.lt_of_lt_of_le (encV_lt _) (Nat.pow_le_pow_right (by omega) (by omega)))
      obtain ⟨h12, r12, k12, e12⟩ := codes_get c hR t (ss := q2) (cs := cs) (pw := some ⟨gw, 0, none⟩) (g := g11) (gd := gd) (gt := gt) (xs := xs.take 100) (by omega) (by omega) (fun q => by have := lx _ q; omega) csn R 0 0 (by omega) (by omega) hm2 ((rx7.keep k8 (by simp)).keep kx (fun x hx hm => by simp at hm; subst hm; have := lx _ hx; omega)) ((d.keep k8 (by simp) (by simp)).keep kx (by simp; omega) (by simp; omega)) r11 (by rw [Nat.pow_zero, Nat.div_one, hnum, List.drop_zero]) (by rw [List.drop_zero, bytesN_length]; omega)
      rw [List.drop_zero, Nat.zero_add] at r12
      have gwl := look_lt w9.look
      have w12 : Wtr h12 gw wb (encV zs ((xs.take 100).map (symN zs.length))) (encL zs ((xs.take 100).map (symN zs.length))) := by
        have lwb := w9.vec.lt
        exact WtS.keep (WtS.keep (WtS.keep w9 k10 (by simp) (by simp)) k11 (by simp) (by simp)) k12 (by simp; omega) (fun x hx hm => by simp at hm; subst hm; have := lwb _ hx; omega)
      refine ⟨h12, fun β K => ?_⟩
      rw [front, c, bne_self_eq_false, condF, csn, beq_int, decF (by omega), condF, hqn, bne_self_eq_false, condF, e8]
      have e9' := e9 β
      rw [show ((0 : Nat) : Int) = 0 from rfl] at e9'
      refine Eq.trans (e9' _) ?_
      rw [e10, e11]
      have e12' := e12 β
      rw [show ((0 : Nat) : Int) = 0 from rfl] at e12'
      refine Eq.trans (e12' _ _) ?_
      rw [read_eq r12, wlen_eq w12 (by omega), beq_self_eq_true, condT, lives06]
    · refine ⟨h7, fun β K => ?_⟩
      rw [front, bne_int, decT c, condT, beq_self_eq_true, condT, lives06]
theorem back_any {W : World} {a b : Option Addr} {len cap len2 cap2 : Nat} {zs xs : List Int} (hr : IsRow .i64 W a len cap zs) (hr2 : IsRow .i64 W b len2 cap2 xs) : Calls Try.prog 8 #[.slice a len cap, .slice b len2 cap2] W fun e W' => e = .returned (.bool true) ∧ Below W.heap.size W W' := by
  let l : List Ar := [⟨a, len, cap, 1, i64s (zs.take len)⟩, ⟨b, len2, cap2, 1, i64s (xs.take len2)⟩]
  have ok : ∀ x ∈ l, ArOk (arInj l) W x := fun x hx => by
    rcases List.mem_cons.1 hx with e | hx
    · subst e; exact ar_ints hr _
    · cases List.mem_singleton.1 hx; exact ar_ints hr2 _
  obtain ⟨h', e⟩ := back_true (ar_row (l := l) (g := 0) rfl (ar_ints hr (arInj l))) (ar_row (l := l) (g := 1) rfl (ar_ints hr2 (arInj l))) (R := rounds) (by unfold rounds; omega)
  obtain ⟨v, h1, hk, hc⟩ := F_law06_SfanoBack_sim (β := Value × GH) (r := (.bool true, h')) (K := fun v h => some (v, h)) (e _ _)
  cases hk
  exact ar_calls ok hc (.cons (ar_vr (l := l) (g := 0) rfl (ar_ints hr (arInj l))) (.cons (ar_vr (l := l) (g := 1) rfl (ar_ints hr2 (arInj l))) .nil))
end Go.Proofs.Ytephmpbccajaaaa.Gx

