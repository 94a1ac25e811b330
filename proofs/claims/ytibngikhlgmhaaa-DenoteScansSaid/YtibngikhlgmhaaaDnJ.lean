/- The document's FindEnd, Same, SameHead; an end; a local header with its data. No condition. -/
import Derived.Test.YtibngikhlgmhaaaDnI
namespace Go.Proofs.Ytibngikhlgmhaaa.Gx
open Go
set_option linter.unusedVariables false
set_option linter.unusedSimpArgs false
theorem rfindend_loop {h : GH} {a : Sl} {bs : List Int} (r : Rd h a bs) (h8 : B8 bs) (hm : bs.length ≤ 2000000) {R : Nat} (hR : 4000000 < R) {β : Type} (K0 : Int → GH → Option β) : ∀ (d i n : Nat), i + d = bs.length - 21 → d < n → F_ref24_FindEnd_l0 (F_ref02_Num R) (F_ref24_at R) R n a (lastEnd bs i) (i : Nat) h K0 = K0 (findE bs) h
  | 0, i, n, hi, hn => by
    obtain ⟨n, rfl⟩ : ∃ n', n = n' + 1 := ⟨n - 1, by omega⟩
    have hn1 := r.n
    rw [F_ref24_FindEnd_l0_succ, i64w (by omega), decF (by omega), condF]
    unfold findE
    rw [show i = bs.length - 21 by omega]
  | d + 1, i, n, hi, hn => by
    obtain ⟨n, rfl⟩ : ∃ n', n = n' + 1 := ⟨n - 1, by omega⟩
    have hn1 := r.n
    have w22 : IntKind.wrap .i64 (((i : Nat) : Int) + 22) = ((i : Nat) : Int) + 22 := i64w (by omega)
    have w4 : IntKind.wrap .i64 (((i : Nat) : Int) + 4) = ((i : Nat) : Int) + 4 := i64w (by omega)
    have w20 : IntKind.wrap .i64 (((i : Nat) : Int) + 20) = ((i + 20 : Nat) : Int) := by rw [i64w (by omega)]; omega
    have w1 : IntKind.wrap .i64 (((i : Nat) : Int) + 1) = ((i + 1 : Nat) : Int) := by rw [i64w (by omega)]; omega
    have hb := (fld_bd h8 (i + 20)).1
    have hsz : ((szN bs (i + 20) : Nat) : Int) = fld bs (i + 20) 2 := by unfold szN; omega
    have ih := rfindend_loop r h8 hm hR K0 d (i + 1) n (by omega) (by omega)
    rw [lastEnd] at ih
    rw [F_ref24_FindEnd_l0_succ, w22, decT (by omega), condT, w4, w20, w1]
    refine (num_cutN i r h8 (by omega) (by omega) _).trans ?_
    rw [beq_int]
    by_cases c : fld bs i 4 = 101010256
    · rw [decT c, condT]
      refine (at_cutN (i + 20) r h8 hm (by omega) (by omega) _).trans ?_
      rw [i64w (by omega), hn1, beq_int]
      by_cases c2 : i + 22 + szN bs (i + 20) = bs.length
      · rw [if_pos ⟨by omega, c, c2⟩] at ih
        rw [decT (by omega), condT]
        exact ih
      · rw [if_neg (fun q => c2 q.2.2)] at ih
        rw [decF (by omega), condF]
        exact ih
    · rw [if_neg (fun q => c q.2.1)] at ih
      rw [decF c, condF]
      exact ih
theorem rfind_end {h : GH} {a : Sl} {bs : List Int} (r : Rd h a bs) (h8 : B8 bs) (hm : bs.length ≤ 2000000) {R : Nat} (hR : 4000000 < R) {β : Type} (K : Int → GH → Option β) : F_ref24_FindEnd R a h K = K (findE bs) h := by
  unfold F_ref24_FindEnd
  rw [F_ref24_FindEnd_gen]
  have := rfindend_loop r h8 hm hR (fun w12 h13 => K w12 h13) (bs.length - 21) 0 R (by omega) (by omega)
  rw [show lastEnd bs 0 = -1 from rfl, show ((0 : Nat) : Int) = 0 from rfl] at this
  exact this
theorem rsame_loopD {h : GH} {a b : Sl} {xs ys : List Int} (ra : Rd h a xs) (rb : Rd h b ys) (hl : xs.length = ys.length) (hm : xs.length ≤ 2000000) (R : Nat) {β : Type} (K : Bool → GH → Option β) : ∀ (k n i : Nat), i + k = xs.length → k < n → F_ref01_Same_l0 R n a b (i : Nat) h (fun h13 => K true h13) (fun w14 h15 => K w14 h15) = K (decide (xs.drop i = ys.drop i)) h
  | 0, n, i, hi, hn => by
    obtain ⟨n, rfl⟩ : ∃ k, n = k + 1 := ⟨n - 1, by omega⟩
    rw [F_ref01_Same_l0_succ, decF (by rw [ra.n]; omega), condF, List.drop_eq_nil_of_le (by omega), List.drop_eq_nil_of_le (by omega), decT rfl]
  | k + 1, n, i, hi, hn => by
    obtain ⟨n, rfl⟩ : ∃ k, n = k + 1 := ⟨n - 1, by omega⟩
    have hx : xs.drop i = xs.getD i 0 :: xs.drop (i + 1) := by rw [List.drop_eq_getElem_cons (by omega), List.getD_eq_getElem?_getD, List.getElem?_eq_getElem (by omega), Option.getD_some]
    have hy : ys.drop i = ys.getD i 0 :: ys.drop (i + 1) := by rw [List.drop_eq_getElem_cons (by omega), List.getD_eq_getElem?_getD, List.getElem?_eq_getElem (by omega), Option.getD_some]
    rw [F_ref01_Same_l0_succ, decT (by rw [ra.n]; omega), condT, ra.byte (by omega) (by omega), rb.byte (by omega) (by omega), Int.toNat_natCast, bne_int]
    by_cases c : xs.getD i 0 = ys.getD i 0
    · rw [decF (by simpa using c), condF, i64w (by omega), show ((i : Nat) : Int) + 1 = ((i + 1 : Nat) : Int) by omega, rsame_loopD ra rb hl hm R K k n (i + 1) (by omega) (by omega), hx, hy]
      congr 1
      rw [c]
      simp
    · rw [decT (by simpa using c), condT, hx, hy, decF (fun q => c (List.cons.inj q).1)]
theorem rsameD {h : GH} {a b : Sl} {xs ys : List Int} (ra : Rd h a xs) (rb : Rd h b ys) (hm : xs.length ≤ 2000000) {R : Nat} (hR : 4000000 < R) {β : Type} (K : Bool → GH → Option β) : F_ref01_Same R a b h K = K (decide (xs = ys)) h := by
  unfold F_ref01_Same
  rw [F_ref01_Same_gen, ra.n, rb.n, bne_int]
  by_cases c : xs.length = ys.length
  · rw [decF (by omega), condF]
    have := rsame_loopD ra rb c hm R K xs.length R 0 (by omega) (by omega)
    rw [List.drop_zero, List.drop_zero, show ((0 : Nat) : Int) = 0 from rfl] at this
    exact this
  · rw [decT (by omega), condT, decF (fun q => c (by rw [q]))]
theorem ref_sameHead {h : GH} (hd : Hd) (c : Cn) {s9 t9 s10 t10 : Sl} (r9 : Rd h s9 hd.nm) (u9 : Rd h t9 c.nm) (r10 : Rd h s10 []) (u10 : Rd h t10 []) (hm : c.nm.length ≤ 2000000) {R : Nat} (hR : 4000000 < R) :
    ∃ h', Keep h h' [] ∧ ∀ (β : Type) (K : Bool → GH → Option β), F_ref24_SameHead R c.a1 c.a2 c.a3 c.a4 c.a5 c.a6 c.a7 c.a8 t9 t10 hd.a1 hd.a2 hd.a3 hd.a4 hd.a5 hd.a6 hd.a7 hd.a8 s9 s10 h K = K (decide (sameH hd c)) h' := by
  have k1 := keep_push h (.row ⟨[Value.int .i64 c.a1, Value.int .i64 c.a2, Value.int .i64 c.a3, Value.int .i64 c.a4, Value.int .i64 c.a5, Value.int .u32 c.a6, Value.int .u32 c.a7, Value.int .u32 c.a8, Value.slice t9.a t9.n t9.c, Value.slice t10.a t10.n t10.c], 0, false⟩) []
  have l1 : (h.push (.row ⟨[Value.int .i64 c.a1, Value.int .i64 c.a2, Value.int .i64 c.a3, Value.int .i64 c.a4, Value.int .i64 c.a5, Value.int .u32 c.a6, Value.int .u32 c.a7, Value.int .u32 c.a8, Value.slice t9.a t9.n t9.c, Value.slice t10.a t10.n t10.c], 0, false⟩)).look h.next = some (.row ⟨[Value.int .i64 c.a1, Value.int .i64 c.a2, Value.int .i64 c.a3, Value.int .i64 c.a4, Value.int .i64 c.a5, Value.int .u32 c.a6, Value.int .u32 c.a7, Value.int .u32 c.a8, Value.slice t9.a t9.n t9.c, Value.slice t10.a t10.n t10.c], 0, false⟩) := look_push_new
  obtain ⟨h1, eh1⟩ : ∃ h1, h1 = h.push (.row ⟨[Value.int .i64 c.a1, Value.int .i64 c.a2, Value.int .i64 c.a3, Value.int .i64 c.a4, Value.int .i64 c.a5, Value.int .u32 c.a6, Value.int .u32 c.a7, Value.int .u32 c.a8, Value.slice t9.a t9.n t9.c, Value.slice t10.a t10.n t10.c], 0, false⟩) := ⟨_, rfl⟩
  rw [← eh1] at k1 l1
  have k2 := keep_push h1 (.row ⟨[Value.int .i64 hd.a1, Value.int .i64 hd.a2, Value.int .i64 hd.a3, Value.int .i64 hd.a4, Value.int .i64 hd.a5, Value.int .u32 hd.a6, Value.int .u32 hd.a7, Value.int .u32 hd.a8, Value.slice s9.a s9.n s9.c, Value.slice s10.a s10.n s10.c], 0, false⟩) []
  have l2 : (h1.push (.row ⟨[Value.int .i64 hd.a1, Value.int .i64 hd.a2, Value.int .i64 hd.a3, Value.int .i64 hd.a4, Value.int .i64 hd.a5, Value.int .u32 hd.a6, Value.int .u32 hd.a7, Value.int .u32 hd.a8, Value.slice s9.a s9.n s9.c, Value.slice s10.a s10.n s10.c], 0, false⟩)).look h1.next = some (.row ⟨[Value.int .i64 hd.a1, Value.int .i64 hd.a2, Value.int .i64 hd.a3, Value.int .i64 hd.a4, Value.int .i64 hd.a5, Value.int .u32 hd.a6, Value.int .u32 hd.a7, Value.int .u32 hd.a8, Value.slice s9.a s9.n s9.c, Value.slice s10.a s10.n s10.c], 0, false⟩) := look_push_new
  obtain ⟨h2, eh2⟩ : ∃ h2, h2 = h1.push (.row ⟨[Value.int .i64 hd.a1, Value.int .i64 hd.a2, Value.int .i64 hd.a3, Value.int .i64 hd.a4, Value.int .i64 hd.a5, Value.int .u32 hd.a6, Value.int .u32 hd.a7, Value.int .u32 hd.a8, Value.slice s9.a s9.n s9.c, Value.slice s10.a s10.n s10.c], 0, false⟩) := ⟨_, rfl⟩
  rw [← eh2] at k2 l2
  have m1 := k2.look l1 (by simp)
  have c1 := fun o => cell_of m1 o
  have c2 := fun o => cell_of l2 o
  have k02 := k1.trans k2 (by simp)
  have eq9 := fun β K => rsameD (β := β) (u9.keep k02 (by simp)) (r9.keep k02 (by simp)) hm hR K
  have eq10 := fun β K => rsameD (β := β) (u10.keep k02 (by simp)) (r10.keep k02 (by simp)) (by simp) hR K
  refine ⟨h2, k02, fun β K => ?_⟩
  unfold F_ref24_SameHead
  rw [F_ref24_SameHead_gen]
  refine (gnew_eq rfl _).trans ?_
  rw [← eh1]
  refine (gnew_eq rfl _).trans ?_
  rw [← eh2]
  simp only [c1, c2, Nat.zero_add, nth_s, nth_0, exI_s, exS_s', beq_int, cond_dec]
  rw [eq9]
  simp only [c1, c2, nth_s, nth_0, exS_s']
  rw [eq10]
  by_cases e1 : c.a1 = hd.a1
  · rw [if_pos e1]
    by_cases e2 : c.a2 = hd.a2
    · rw [if_pos e2]
      by_cases e3 : c.a3 = hd.a3
      · rw [if_pos e3]
        by_cases e4 : c.a4 = hd.a4
        · rw [if_pos e4]
          by_cases e5 : c.a5 = hd.a5
          · rw [if_pos e5]
            by_cases e6 : c.a6 = hd.a6
            · rw [if_pos e6]
              by_cases e7 : c.a7 = hd.a7
              · rw [if_pos e7]
                by_cases e8 : c.a8 = hd.a8
                · rw [if_pos e8]
                  by_cases e9 : c.nm = hd.nm
                  · rw [decT e9, condT, decT rfl, decT (show sameH hd c from ⟨e1.symm, e2.symm, e3.symm, e4.symm, e5.symm, e6.symm, e7.symm, e8.symm, e9.symm⟩)]
                  · rw [decF e9, condF, decF (fun q : sameH hd c => e9 q.2.2.2.2.2.2.2.2.symm)]
                · rw [if_neg e8, decF (fun q : sameH hd c => e8 q.2.2.2.2.2.2.2.1.symm)]
              · rw [if_neg e7, decF (fun q : sameH hd c => e7 q.2.2.2.2.2.2.1.symm)]
            · rw [if_neg e6, decF (fun q : sameH hd c => e6 q.2.2.2.2.2.1.symm)]
          · rw [if_neg e5, decF (fun q : sameH hd c => e5 q.2.2.2.2.1.symm)]
        · rw [if_neg e4, decF (fun q : sameH hd c => e4 q.2.2.2.1.symm)]
      · rw [if_neg e3, decF (fun q : sameH hd c => e3 q.2.2.1.symm)]
    · rw [if_neg e2, decF (fun q : sameH hd c => e2 q.2.1.symm)]
  · rw [if_neg e1, decF (fun q : sameH hd c => e1 q.1.symm)]
theorem RCur.t0 {h : GH} {g : Nat} {s : Sl} {bs : List Int} {p : Nat} (C : RCur h g s bs (p : Nat) 0) (hp : p ≤ bs.length) : RCurT h g s bs p 0 := ⟨fun _ => C, fun q => absurd hp (by omega)⟩
/-- a new cursor -/
theorem rcur_new {h : GH} {a : Sl} {bs : List Int} (r : Rd h a bs) : ∃ h' g, (∀ (β : Type) (K : Nat → GH → Option β), gnew [Value.slice a.a a.n a.c, Value.int .i64 0, Value.int .i64 0] 0 h K = K g h') ∧ RCur h' g a bs ((0 : Nat) : Int) 0 ∧ Keep h h' [] ∧ g = h.next := by
  have k := keep_push h (.row ⟨[Value.slice a.a a.n a.c, Value.int .i64 0, Value.int .i64 0], 0, false⟩) []
  exact ⟨_, h.next, fun β K => gnew_eq rfl K, ⟨look_push_new, r.keep k (by simp), fun hx => by have := r.lt _ hx; omega⟩, k, rfl⟩
set_option maxHeartbeats 2000000 in
theorem ref_end {h : GH} {a : Sl} {bs : List Int} (r : Rd h a bs) (h8 : B8 bs) (hm : bs.length ≤ 2000000) {R : Nat} (hR : 4000000 < R) :
    ∃ h' q, Keep h h' [] ∧ (endE bs = 0 → Rd h' q (scX bs).cm ∧ (∀ k ∈ rowsOf q, h.next ≤ k) ∧ ∀ (β : Type) (K : Int → Int → Int → Int → Int → Int → Sl → Int → Int → GH → Option β), F_ref26_end R a h K = K (scX bs).b1 (scX bs).b2 (scX bs).b3 (scX bs).b4 (scX bs).b5 (scX bs).b6 q (findE bs) 0 h') ∧
      (endE bs ≠ 0 → ∀ (β : Type) (K : Int → Int → Int → Int → Int → Int → Sl → Int → Int → GH → Option β), F_ref26_end R a h K = K 0 0 0 0 0 0 ⟨none, 0, 0⟩ 0 (endE bs) h') := by
  have hn := r.n
  have hcap := r.cap
  have hge := lastEnd_ge bs (bs.length - 21)
  have k1 := keep_push h (.row ⟨[Value.int .i64 0, Value.int .i64 0, Value.int .i64 0, Value.int .i64 0, Value.int .u32 0, Value.int .u32 0, Value.slice none 0 0], 0, false⟩) []
  obtain ⟨h1, eh1⟩ : ∃ h1, h1 = h.push (.row ⟨[Value.int .i64 0, Value.int .i64 0, Value.int .i64 0, Value.int .i64 0, Value.int .u32 0, Value.int .u32 0, Value.slice none 0 0], 0, false⟩) := ⟨_, rfl⟩
  have l1 : h1.look h.next = some (.row ⟨[Value.int .i64 0, Value.int .i64 0, Value.int .i64 0, Value.int .i64 0, Value.int .u32 0, Value.int .u32 0, Value.slice none 0 0], 0, false⟩) := by rw [eh1]; exact look_push_new
  rw [← eh1] at k1
  have n1 : h1.next = h.next + 1 := by rw [eh1]; rfl
  have r1 := r.keep k1 (by simp)
  -- an error is told
  have bad : ∀ {hx : GH}, hx.look h.next = some (.row ⟨[Value.int .i64 0, Value.int .i64 0, Value.int .i64 0, Value.int .i64 0, Value.int .u32 0, Value.int .u32 0, Value.slice none 0 0], 0, false⟩) → Keep h hx [] → ∃ hz, Keep h hz [] ∧ ∀ (e : Int) (β : Type) (K : Int → Int → Int → Int → Int → Int → Sl → Int → Int → GH → Option β), (gput h.next (0) [Value.int .i64 0, Value.int .i64 0, Value.int .i64 0, Value.int .i64 0, Value.int .u32 0, Value.int .u32 0, Value.slice none 0 0] hx fun h6 => exI .i64 (h6.cell ⟨h.next, 0, none⟩) fun x0 => exI .i64 (h6.cell ⟨h.next, 0 + 1, none⟩) fun x1 => exI .i64 (h6.cell ⟨h.next, 0 + 1 + 1, none⟩) fun x2 => exI .i64 (h6.cell ⟨h.next, 0 + 1 + 1 + 1, none⟩) fun x3 => exI .u32 (h6.cell ⟨h.next, 0 + 1 + 1 + 1 + 1, none⟩) fun x4 => exI .u32 (h6.cell ⟨h.next, 0 + 1 + 1 + 1 + 1 + 1, none⟩) fun x5 => exS (h6.cell ⟨h.next, 0 + 1 + 1 + 1 + 1 + 1 + 1, none⟩) fun x6 => K x0 x1 x2 x3 x4 x5 x6 0 e h6) = K 0 0 0 0 0 0 ⟨none, 0, 0⟩ 0 e hz := by
    intro hx lx kx
    have kz := keep_put hx h.next (some (.row ⟨[Value.int .i64 0, Value.int .i64 0, Value.int .i64 0, Value.int .i64 0, Value.int .u32 0, Value.int .u32 0, Value.slice none 0 0], 0, false⟩))
    have lz : (hx.put h.next (some (.row ⟨[Value.int .i64 0, Value.int .i64 0, Value.int .i64 0, Value.int .i64 0, Value.int .u32 0, Value.int .u32 0, Value.slice none 0 0], 0, false⟩))).look h.next = some (.row ⟨[Value.int .i64 0, Value.int .i64 0, Value.int .i64 0, Value.int .i64 0, Value.int .u32 0, Value.int .u32 0, Value.slice none 0 0], 0, false⟩) := look_put_same (look_lt lx)
    have cz := fun o => cell_of lz o
    refine ⟨_, kx.trans kz (fun z hz => .inr (by simp at hz; omega)), fun e β K => ?_⟩
    rw [gput_eq lx rfl (by simp), nlay_full _ _ rfl]
    simp only [cz, Nat.zero_add, Nat.reduceAdd, nth_s, nth_0, exI_s, exS_s']
  by_cases c : findE bs < 0
  · have hE : endE bs = 13 := by unfold endE; rw [if_pos c]
    obtain ⟨hz, kz, ez⟩ := bad l1 k1
    rw [hE]
    refine ⟨hz, ⟨none, 0, 0⟩, kz, fun q => (by cases q), fun _ β K => ?_⟩
    unfold F_ref26_end
    rw [F_ref26_end_gen]
    refine (gnew_eq rfl _).trans ?_
    rw [← eh1, rfind_end r1 h8 hm hR, decT c, condT]
    exact ez 13 β K
  · have hE0 : endE bs = endOk (scX bs) (findE bs) := by unfold endE; rw [if_neg c]; rfl
    obtain ⟨j, hj⟩ : ∃ j : Nat, findE bs = (j : Int) := ⟨(findE bs).toNat, by omega⟩
    have hE : isEnd bs j := by have := lastEnd_is bs (bs.length - 21) (by unfold findE at hj; omega); unfold findE at hj; rw [hj, Int.toNat_natCast] at this; exact this
    have hx : scX bs = endAt bs j := by unfold scX; rw [hj, Int.toNat_natCast]
    obtain ⟨q1, q2⟩ := isEnd_ok hE
    obtain ⟨i1, i2, i3⟩ := hE
    have rc := r1.cut (lo := j) (hi := a.n) (mx := a.c) (by omega) (by omega) (by omega) (Nat.le_refl _)
    rw [List.take_of_length_le (by simp; omega)] at rc
    obtain ⟨h2, gc, e2, C2, k2, hgc⟩ := rcur_new rc
    have h8d : B8 (bs.drop j) := fun b hb => h8 b (List.mem_of_mem_drop hb)
    obtain ⟨h3, b1, b2, b3, b4, b5, b6, q, cm, qs', e3, k3, w3⟩ := (RL.start (C2.t0 (Nat.zero_le _))).readEnd h8d (by simp; omega) hR
    rw [q1, q2, ← hx] at w3
    rw [q1] at e3
    obtain ⟨w4, w5, w6⟩ := w3 rfl
    have sq := w5.sl q cm w6
    obtain ⟨g5, h5, k5, n5, l5, e5⟩ := tmp_row h3 [Value.int .i64 0, Value.int .i64 0, Value.int .i64 0, Value.int .i64 0, Value.int .u32 0, Value.int .u32 0, Value.slice none 0 0] [Value.int .i64 b1, Value.int .i64 b2, Value.int .i64 b3, Value.int .i64 b4, Value.int .u32 b5, Value.int .u32 b6, Value.slice q.a q.n q.c] rfl rfl rfl
    have c5 := fun o => cell_of l5 o
    have l2 := k2.look l1 (by simp)
    have l3 := k3.look l2 (by simp; omega)
    have m5 := k5.look l3 (by simp)
    have hb2 := k2.1
    have hb3 := k3.1
    have k05 : Keep h h5 [] := ((k1.trans k2 (by simp)).trans k3 (fun x hx => .inr (by simp at hx; omega))).trans k5 (by simp)
    have rq5 := sq.1.keep k5 (by simp)
    obtain ⟨hz, kz, ez⟩ := bad m5 k05
    have hbd := fld_bd h8
    have x1 : b1 = (scX bs).b1 := by rw [← w4]
    have x2 : b2 = (scX bs).b2 := by rw [← w4]
    have x3 : b3 = (scX bs).b3 := by rw [← w4]
    have x4 : b4 = (scX bs).b4 := by rw [← w4]
    have x5 : b5 = (scX bs).b5 := by rw [← w4]
    have x6 : b6 = (scX bs).b6 := by rw [← w4]
    have xc : cm = (scX bs).cm := by rw [← w4]
    have y5 : 0 ≤ b5 ∧ b5 ≤ 4294967295 := by rw [x5, hx]; exact (hbd _).2
    have y6 : 0 ≤ b6 ∧ b6 ≤ 4294967295 := by rw [x6, hx]; exact (hbd _).2
    have way : ∀ (β : Type) (K : Int → Int → Int → Int → Int → Int → Sl → Int → Int → GH → Option β) (T : Option β), ((bif b1 != 0 then K 0 0 0 0 0 0 ⟨none, 0, 0⟩ 0 12 hz else (bif b2 != 0 then K 0 0 0 0 0 0 ⟨none, 0, 0⟩ 0 12 hz else (bif b3 != b4 then K 0 0 0 0 0 0 ⟨none, 0, 0⟩ 0 12 hz else (bif b5 == 4294967295 then K 0 0 0 0 0 0 ⟨none, 0, 0⟩ 0 12 hz else (bif b6 == 4294967295 then K 0 0 0 0 0 0 ⟨none, 0, 0⟩ 0 12 hz else (bif (b6 + b5) != findE bs then K 0 0 0 0 0 0 ⟨none, 0, 0⟩ 0 14 hz else gput h.next 0 [Value.int .i64 b1, Value.int .i64 b2, Value.int .i64 b3, Value.int .i64 b4, Value.int .u32 b5, Value.int .u32 b6, Value.slice q.a q.n q.c] h5 fun h6 => exI .i64 (h6.cell ⟨h.next, 0, none⟩) fun x0 => exI .i64 (h6.cell ⟨h.next, 0 + 1, none⟩) fun x1 => exI .i64 (h6.cell ⟨h.next, 0 + 1 + 1, none⟩) fun x2 => exI .i64 (h6.cell ⟨h.next, 0 + 1 + 1 + 1, none⟩) fun x3 => exI .u32 (h6.cell ⟨h.next, 0 + 1 + 1 + 1 + 1, none⟩) fun x4 => exI .u32 (h6.cell ⟨h.next, 0 + 1 + 1 + 1 + 1 + 1, none⟩) fun x5 => exS (h6.cell ⟨h.next, 0 + 1 + 1 + 1 + 1 + 1 + 1, none⟩) fun x6 => K x0 x1 x2 x3 x4 x5 x6 (findE bs) 0 h6)))))) = T) → F_ref26_end R a h K = T := by
      intro β K T hT
      unfold F_ref26_end
      rw [F_ref26_end_gen]
      refine (gnew_eq rfl _).trans ?_
      rw [← eh1, rfind_end r1 h8 hm hR, decF c, condF, bnd_t (by omega) (by omega), show (findE bs).toNat = j by omega]
      refine (e2 β _).trans ?_
      rw [e3]
      refine (e5 β _).trans ?_
      rw [bne_self_eq_false, condF]
      simp only [c5, Nat.zero_add, Nat.reduceAdd, nth_s, nth_0, exI_s, exS_s']
      rw [i64w (x := b6) (by omega), i64w (x := b5) (by omega), i64w (x := b6 + b5) (by omega)]
      refine Eq.trans ?_ hT
      refine congr (congr (congrArg cond rfl) (ez 12 β K)) ?_
      refine congr (congr (congrArg cond rfl) (ez 12 β K)) ?_
      refine congr (congr (congrArg cond rfl) (ez 12 β K)) ?_
      refine congr (congr (congrArg cond rfl) (ez 12 β K)) ?_
      refine congr (congr (congrArg cond rfl) (ez 12 β K)) ?_
      exact congr (congr (congrArg cond rfl) (ez 14 β K)) rfl
    have kz' := keep_put h5 h.next (some (.row ⟨[Value.int .i64 b1, Value.int .i64 b2, Value.int .i64 b3, Value.int .i64 b4, Value.int .u32 b5, Value.int .u32 b6, Value.slice q.a q.n q.c], 0, false⟩))
    have lz' : (h5.put h.next (some (.row ⟨[Value.int .i64 b1, Value.int .i64 b2, Value.int .i64 b3, Value.int .i64 b4, Value.int .u32 b5, Value.int .u32 b6, Value.slice q.a q.n q.c], 0, false⟩))).look h.next = some (.row ⟨[Value.int .i64 b1, Value.int .i64 b2, Value.int .i64 b3, Value.int .i64 b4, Value.int .u32 b5, Value.int .u32 b6, Value.slice q.a q.n q.c], 0, false⟩) := look_put_same (look_lt m5)
    have cz' := fun o => cell_of lz' o
    rw [hE0]
    unfold endOk
    rw [← x1, ← x2, ← x3, ← x4, ← x5, ← x6, ← xc]
    by_cases d : b1 ≠ 0 ∨ b2 ≠ 0 ∨ b3 ≠ b4 ∨ b5 = 4294967295 ∨ b6 = 4294967295
    · rw [if_pos d]
      refine ⟨hz, ⟨none, 0, 0⟩, kz, fun q => (by cases q), fun _ β K => way β K _ ?_⟩
      rw [bne_int, bne_int, bne_int, beq_int, beq_int]
      by_cases d1 : b1 ≠ 0
      · rw [decT d1, condT]
      · rw [decF d1, condF]
        by_cases d2 : b2 ≠ 0
        · rw [decT d2, condT]
        · rw [decF d2, condF]
          by_cases d3 : b3 ≠ b4
          · rw [decT d3, condT]
          · rw [decF d3, condF]
            by_cases d4 : b5 = 4294967295
            · rw [decT d4, condT]
            · rw [decF d4, condF]
              by_cases d5 : b6 = 4294967295
              · rw [decT d5, condT]
              · exfalso; omega
    · rw [if_neg d]
      have d1 : b1 = 0 := Decidable.not_not.1 fun q => d (.inl q)
      have d2 : b2 = 0 := Decidable.not_not.1 fun q => d (.inr (.inl q))
      have d3 : b3 = b4 := Decidable.not_not.1 fun q => d (.inr (.inr (.inl q)))
      by_cases d6 : b6 + b5 = findE bs
      · rw [if_neg (by simpa using d6)]
        refine ⟨h5.put h.next (some (.row ⟨[Value.int .i64 b1, Value.int .i64 b2, Value.int .i64 b3, Value.int .i64 b4, Value.int .u32 b5, Value.int .u32 b6, Value.slice q.a q.n q.c], 0, false⟩)), q, k05.trans kz' (fun x hx => .inr (by simp at hx; omega)), fun _ => ⟨rq5.keep kz' (fun x hx hm => by simp at hm; have := (sq.2 x hx).1; omega), fun k hk => by have := (sq.2 k hk).1; omega, fun β K => way β K _ ?_⟩, fun q => absurd rfl q⟩
        rw [show (b1 != 0) = false by rw [d1]; rfl, condF, show (b2 != 0) = false by rw [d2]; rfl, condF, show (b3 != b4) = false by rw [d3]; exact bne_self_eq_false _, condF, beq_eq_false_iff_ne.2 (fun q => d (.inr (.inr (.inr (.inl q))))), condF, beq_eq_false_iff_ne.2 (fun q => d (.inr (.inr (.inr (.inr q))))), condF, show ((b6 + b5) != findE bs) = false by rw [d6]; exact bne_self_eq_false _, condF]
        rw [gput_eq m5 rfl (by simp), show nlay [Value.int .i64 0, Value.int .i64 0, Value.int .i64 0, Value.int .i64 0, Value.int .u32 0, Value.int .u32 0, Value.slice none 0 0] 0 [Value.int .i64 b1, Value.int .i64 b2, Value.int .i64 b3, Value.int .i64 b4, Value.int .u32 b5, Value.int .u32 b6, Value.slice q.a q.n q.c] = [Value.int .i64 b1, Value.int .i64 b2, Value.int .i64 b3, Value.int .i64 b4, Value.int .u32 b5, Value.int .u32 b6, Value.slice q.a q.n q.c] from rfl]
        simp only [cz', Nat.zero_add, Nat.reduceAdd, nth_s, nth_0, exI_s, exS_s']
      · rw [if_pos d6]
        refine ⟨hz, ⟨none, 0, 0⟩, kz, fun q => (by cases q), fun _ β K => way β K _ ?_⟩
        rw [d1, bne_self_eq_false, condF, d2, bne_self_eq_false, condF, d3, bne_self_eq_false, condF, beq_eq_false_iff_ne.2 (fun q => d (.inr (.inr (.inr (.inl q))))), condF, beq_eq_false_iff_ne.2 (fun q => d (.inr (.inr (.inr (.inr q))))), condF, bne_iff_ne.2 d6, condT]
end Go.Proofs.Ytibngikhlgmhaaa.Gx

