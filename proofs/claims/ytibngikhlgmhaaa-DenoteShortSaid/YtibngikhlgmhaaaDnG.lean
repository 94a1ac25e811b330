/- All of an archive: the program's Scan. No condition. -/
import Derived.Test.YtibngikhlgmhaaaDnF
namespace Go.Proofs.Ytibngikhlgmhaaa.Gx
open Go
set_option linter.unusedVariables false
set_option linter.unusedSimpArgs false
def GoodC (c : Cn) : Prop := B8 c.nm ∧ B8 c.ex ∧ B8 c.cm ∧ 0 ≤ c.a15 ∧ c.a15 ≤ 4294967295
theorem cenAt_good {bs : List Int} (h8 : B8 bs) (p : Nat) : GoodC (cenAt bs p) := ⟨b8_cut h8 _ _, b8_cut h8 _ _, b8_cut h8 _ _, (fld_bd h8 _).2.1, (fld_bd h8 _).2.2⟩
theorem rdCens_good {bs : List Int} (h8 : B8 bs) : ∀ k p, ∀ c ∈ (rdCens bs k p).2.1, GoodC c
  | 0, p, c, h => by simp [rdCens] at h
  | k + 1, p, c, h => by
    rw [rdCens] at h
    split at h
    · simp at h
    · rcases List.mem_cons.1 h with rfl | h
      · exact cenAt_good h8 p
      · exact rdCens_good h8 k _ c h
theorem censP_good {bs : List Int} (h8 : B8 bs) (t : Nat) : ∀ c ∈ (censP bs t).2, GoodC c := fun c h => by
  unfold censP at h
  split at h
  · simp at h
  · split at h
    · simp at h
    · split at h
      · simp at h
      · exact rdCens_good h8 t 0 c h
theorem locs_l0 {gc g2 : Nat} {s y : Sl} {LB : List Int} (h8 : B8 LB) (hm : LB.length ≤ 2000000) {lo : Nat} {R : Nat} (hR : 4000000 < R) (hs1 : ∀ z ∈ ownC gc s, z ∉ rowsOf y) :
    ∀ (k i n p : Nat) (h : GH) (l : List ItR), i + k = l.length → k < n → l.length ≤ 1000000 → lo ≤ h.next → Its h y lo l → Cur h gc s LB (p : Nat) 0 → p ≤ LB.length → (∀ x ∈ l, ∀ z ∈ x.rows, z ∉ ownC gc s) → (∀ x ∈ l, GoodC x.c) →
    ∃ h', Keep h h' (gc :: rowsOf y) ∧ ((rdLocs LB ((l.drop i).map ItR.c) p).1 = 0 → ∃ l', Its h' y lo l' ∧ l'.map ItR.it = (l.take i).map ItR.it ++ (rdLocs LB ((l.drop i).map ItR.c) p).2.1 ∧ Cur h' gc s LB ((rdLocs LB ((l.drop i).map ItR.c) p).2.2 : Nat) 0 ∧ (rdLocs LB ((l.drop i).map ItR.c) p).2.2 ≤ LB.length ∧
        ∀ (β : Type) (K0 : Option Addr → Sl → Option Addr → GH → Option β) (Kr : Sl → Sl → Int → GH → Option β) (F1 : Option Addr → GH → (Int → GH → Option β) → Option β) (F2 : Option Addr → GH → (Sl → Int → GH → Option β) → Option β) (F3 : Sl → GH → (Option Addr → GH → Option β) → Option β) (F5 : Option Addr → GH → (Int → GH → Option β) → Option β),
          F_denote_Scan_l0 F1 F2 F3 (F_denote_scanner_local R) F5 R n (some ⟨g2, 0, none⟩) y (some ⟨gc, 0, none⟩) ((l.length : Nat) : Int) (i : Nat) h K0 Kr = K0 (some ⟨g2, 0, none⟩) y (some ⟨gc, 0, none⟩) h') ∧
      ((rdLocs LB ((l.drop i).map ItR.c) p).1 ≠ 0 → ∀ (β : Type) (K0 : Option Addr → Sl → Option Addr → GH → Option β) (Kr : Sl → Sl → Int → GH → Option β) (F1 : Option Addr → GH → (Int → GH → Option β) → Option β) (F2 : Option Addr → GH → (Sl → Int → GH → Option β) → Option β) (F3 : Sl → GH → (Option Addr → GH → Option β) → Option β) (F5 : Option Addr → GH → (Int → GH → Option β) → Option β),
          F_denote_Scan_l0 F1 F2 F3 (F_denote_scanner_local R) F5 R n (some ⟨g2, 0, none⟩) y (some ⟨gc, 0, none⟩) ((l.length : Nat) : Int) (i : Nat) h K0 Kr = Kr ⟨none, 0, 0⟩ ⟨none, 0, 0⟩ (rdLocs LB ((l.drop i).map ItR.c) p).1 h')
  | 0, i, n, p, h, l, hi, hn, hl, hlo, it, C, hp, hs2, hgd => by
    obtain ⟨n, rfl⟩ : ∃ n', n = n' + 1 := ⟨n - 1, by omega⟩
    have hd : l.drop i = [] := List.drop_eq_nil_of_le (by omega)
    rw [hd, List.map_nil, rdLocs]
    refine ⟨h, .refl _ _, fun _ => ⟨l, it, by rw [List.append_nil, List.take_of_length_le (by omega)], C, hp, fun β K0 Kr F1 F2 F3 F5 => ?_⟩, fun q => absurd rfl q⟩
    rw [F_denote_Scan_l0_succ, decF (by omega), condF]
  | k + 1, i, n, p, h, l, hi, hn, hl, hlo, it, C, hp, hs2, hgd => by
    obtain ⟨n, rfl⟩ : ∃ n', n = n' + 1 := ⟨n - 1, by omega⟩
    have hil : i < l.length := by omega
    have hmem := List.getElem_mem hil
    have hg := hgd _ hmem
    have hd : l.drop i = l[i] :: l.drop (i + 1) := List.drop_eq_getElem_cons hil
    obtain ⟨h1, k1, ok1, e1⟩ := den_local it hil C hp h8 hm hlo hs1 hs2 hg.1 hg.2.2.2 hR
    have b1 := k1.1
    rw [hd, List.map_cons, rdLocs]
    by_cases c : oneErr LB l[i].c p = 0
    · rw [if_neg (by simpa using c)]
      obtain ⟨s17, s18, it1, C1, hs3⟩ := ok1 c
      obtain ⟨hle, h70⟩ := oneErr_le h8 c
      generalize hX : l[i].upd (oneIt LB l[i].c p).ex (oneIt LB l[i].c p).da s17 s18 = X at *
      have hlen : (l.set i X).length = l.length := List.length_set
      have hXc : X.c = l[i].c := by rw [← hX]; rfl
      have hXi : X.it = oneIt LB l[i].c p := by rw [← hX]; rfl
      have hdr : (l.set i X).drop (i + 1) = l.drop (i + 1) := by rw [List.drop_set]; simp
      obtain ⟨h2, k2, ok2, no2⟩ := locs_l0 h8 hm hR hs1 (g2 := g2) k (i + 1) n (p + oneLen LB p) h1 (l.set i X) (by omega) (by omega) (by omega) (by omega) it1 C1 hle hs3 (fun x hx => by
        rcases List.mem_or_eq_of_mem_set hx with q | q
        · exact hgd x q
        · rw [q]; unfold GoodC; rw [hXc]; exact hg)
      rw [hdr, hlen] at ok2 no2
      have step : ∀ (β : Type) (K0 : Option Addr → Sl → Option Addr → GH → Option β) (Kr : Sl → Sl → Int → GH → Option β) (F1 : Option Addr → GH → (Int → GH → Option β) → Option β) (F2 : Option Addr → GH → (Sl → Int → GH → Option β) → Option β) (F3 : Sl → GH → (Option Addr → GH → Option β) → Option β) (F5 : Option Addr → GH → (Int → GH → Option β) → Option β),
          F_denote_Scan_l0 F1 F2 F3 (F_denote_scanner_local R) F5 R (n + 1) (some ⟨g2, 0, none⟩) y (some ⟨gc, 0, none⟩) ((l.length : Nat) : Int) (i : Nat) h K0 Kr = F_denote_Scan_l0 F1 F2 F3 (F_denote_scanner_local R) F5 R n (some ⟨g2, 0, none⟩) y (some ⟨gc, 0, none⟩) ((l.length : Nat) : Int) ((i + 1 : Nat) : Int) h1 K0 Kr := by
        intro β K0 Kr F1 F2 F3 F5
        rw [F_denote_Scan_l0_succ, decT (by omega), condT]
        refine (e1 β _ _).trans ?_
        rw [c, bne_self_eq_false, condF, i64w (by omega), show ((i : Nat) : Int) + 1 = ((i + 1 : Nat) : Int) by omega]
      refine ⟨h2, k1.trans k2 (fun z hz => .inl hz), fun q => ?_, fun q β K0 Kr F1 F2 F3 F5 => ?_⟩
      · obtain ⟨l', it', m', C', hp', e'⟩ := ok2 q
        refine ⟨l', it', ?_, C', hp', fun β K0 Kr F1 F2 F3 F5 => ?_⟩
        · rw [m', List.take_set, List.take_add_one, List.getElem?_eq_getElem hil]
          have : ((l.take i ++ (some l[i]).toList).set i X).map ItR.it = (l.take i).map ItR.it ++ [X.it] := by
            rw [List.set_append_right _ _ (by simp; omega)]
            simp
            rw [show i - min i l.length = 0 by omega]
            simp
          rw [this, hXi, List.append_assoc]; rfl
        · rw [step, e']
      · rw [step, no2 q]
    · rw [if_pos c]
      refine ⟨h1, k1, fun q => absurd q c, fun _ β K0 Kr F1 F2 F3 F5 => ?_⟩
      rw [F_denote_Scan_l0_succ, decT (by omega), condT]
      refine (e1 β _ _).trans ?_
      rw [bne_iff_ne.2 c, condT]
theorem scan_prog {h : GH} {a : Sl} {bs : List Int} (r : Rd h a bs) (h8 : B8 bs) (hm : bs.length ≤ 1000000) {R : Nat} (hR : 4000000 < R) :
    ∃ h', Keep h h' [] ∧ ((scanP bs).err = 0 → ∃ y q l, Its h' y h.next l ∧ l.map ItR.it = (scanP bs).its ∧ Rd h' q (scanP bs).cm ∧ (∀ z ∈ rowsOf q, h.next ≤ z) ∧ ∀ (β : Type) (K : Sl → Sl → Int → GH → Option β), F_denote_Scan R a h K = K y q 0 h') ∧
      ((scanP bs).err ≠ 0 → (scanP bs).its = [] ∧ (scanP bs).cm = [] ∧ ∀ (β : Type) (K : Sl → Sl → Int → GH → Option β), F_denote_Scan R a h K = K ⟨none, 0, 0⟩ ⟨none, 0, 0⟩ (scanP bs).err h') := by
  have hn := r.n
  have hcap := r.cap
  have hal := r.lt
  have k1 := keep_push h (.row ⟨scC a 0 0 0 0 0 0 ⟨none, 0, 0⟩ 0, 0, false⟩) []
  have l1 : (h.push (.row ⟨scC a 0 0 0 0 0 0 ⟨none, 0, 0⟩ 0, 0, false⟩)).look h.next = some (.row ⟨scC a 0 0 0 0 0 0 ⟨none, 0, 0⟩ 0, 0, false⟩) := look_push_new
  obtain ⟨h1, eh1⟩ : ∃ h1, h1 = h.push (.row ⟨scC a 0 0 0 0 0 0 ⟨none, 0, 0⟩ 0, 0, false⟩) := ⟨_, rfl⟩
  have n1 : h1.next = h.next + 1 := by rw [eh1]; rfl
  rw [← eh1] at k1 l1
  obtain ⟨h2, q, e2, k2, w2⟩ := scan_findEnd l1 (r.keep k1 (by simp)) (fun hx => by have := hal _ hx; omega) h8 (by omega) hR
  have b2 := k2.1
  have k02 : Keep h h2 [] := k1.trans k2 (fun z hz => .inr (by simp at hz; omega))
  have start : ∀ (β : Type) (K : Sl → Sl → Int → GH → Option β), F_denote_Scan R a h K = (bif endE bs != 0 then K ⟨none, 0, 0⟩ ⟨none, 0, 0⟩ (endE bs) h2 else F_denote_scanner_centrals R (some ⟨h.next, 0, none⟩) h2 fun r6 r7 h8 => (bif r7 != 0 then K ⟨none, 0, 0⟩ ⟨none, 0, 0⟩ r7 h8 else exI .u32 (h8.cell ⟨h.next, 0 + 1 + 5, none⟩) fun x9 => bnd x9 a.c fun m10 => F_field_Open R ⟨addO a.a (0 * 1), m10 - 0, a.c - 0⟩ h8 fun r11 h12 => F_denote_Scan_l0 (F_denote_scanner_findEnd R) (F_denote_scanner_centrals R) (F_field_Open R) (F_denote_scanner_local R) (F_field_Cursor_Left R) R R (some ⟨h.next, 0, none⟩) r6 r11 ((r6.n : Nat) : Int) 0 h12 (fun w28 w29 w30 h31 => F_field_Cursor_Left R w30 h31 fun r32 h33 => (bif decide (r32 > 0) then K ⟨none, 0, 0⟩ ⟨none, 0, 0⟩ 14 h33 else exA w28 fun g34 o35 => exS (h33.cell ⟨g34, o35 + 1 + 6, none⟩) fun x36 => K w29 x36 0 h33)) (fun w37 w38 w39 h40 => K w37 w38 w39 h40))) := by
    intro β K
    unfold F_denote_Scan
    rw [F_denote_Scan_gen]
    refine (gnew_eq rfl _).trans ?_
    show F_denote_scanner_findEnd R (some ⟨h.next, 0, none⟩) (h.push (.row ⟨scC a 0 0 0 0 0 0 ⟨none, 0, 0⟩ 0, 0, false⟩)) _ = _
    rw [← eh1]
    exact e2 β _
  by_cases c0 : endE bs = 0
  · obtain ⟨l2, rq2, nq2⟩ := w2 c0
    have hx : endAt bs (findE bs).toNat = scX bs := rfl
    rw [hx] at l2 rq2
    have hfe : ¬ findE bs < 0 := fun q => by unfold endE at c0; rw [if_pos q] at c0; cases c0
    have hok : endOk (scX bs) (findE bs) = 0 := by unfold endE at c0; rwa [if_neg hfe] at c0
    have hbd := fld_bd h8
    have y4 : 0 ≤ (scX bs).b4 ∧ (scX bs).b4 ≤ 65535 := (hbd _).1
    have y5 : 0 ≤ (scX bs).b5 ∧ (scX bs).b5 ≤ 4294967295 := (hbd _).2
    have y6 : 0 ≤ (scX bs).b6 ∧ (scX bs).b6 ≤ 4294967295 := (hbd _).2
    have hsum : (scX bs).b6 + (scX bs).b5 = findE bs := by
      unfold endOk at hok
      split at hok
      · cases hok
      · split at hok
        · cases hok
        · rename_i q; exact Decidable.not_not.1 q
    have hge := lastEnd_ge bs (bs.length - 21)
    have hfl : findE bs < bs.length := by unfold findE at *; omega
    have l2' : h2.look h.next = some (.row ⟨scC a (scX bs).b1 (scX bs).b2 (scX bs).b3 (((scX bs).b4.toNat : Nat) : Int) (scX bs).b5 (((scX bs).b6.toNat : Nat) : Int) q (((findE bs).toNat : Nat) : Int), 0, false⟩) := by
      rw [l2, Int.toNat_of_nonneg y4.1, Int.toNat_of_nonneg y6.1, Int.toNat_of_nonneg (by omega)]
    obtain ⟨h3, k3, ok3, no3⟩ := scan_centrals (b4 := 0) (b6 := 0) l2' (r.keep k02 (by simp)) h8 (by omega) (by omega) (by omega) (by omega) hR
    have hcs : censP ((bs.take (findE bs).toNat).drop (scX bs).b6.toNat) (scX bs).b4.toNat = scCs bs := rfl
    rw [hcs] at ok3 no3
    have k03 := k02.trans k3 (by simp)
    have b3 := k3.1
    unfold scanP
    rw [if_neg (by simpa using c0)]
    by_cases c1 : (scCs bs).1 = 0
    · rw [if_neg (by simpa using c1)]
      obtain ⟨y, l, it3, m3, x3, e3⟩ := ok3 c1
      have l3 := k3.look l2' (by simp)
      have c3 := fun o => cell_of l3 o
      have r3 := r.keep k03 (by simp)
      have rc := r3.cut (lo := 0) (hi := (scX bs).b6.toNat) (mx := a.c) (by omega) (by omega) (by omega) (Nat.le_refl _)
      rw [List.drop_zero, Nat.sub_zero] at rc
      obtain ⟨h4, gc, s, e4, C4, k4, n4⟩ := open_cur rc (by simp; omega) R
      have l4 := k4.look l3 (by simp)
      have c4 := fun o => cell_of l4 o
      have b4 := k4.1
      have it4 := it3.keep k4 (by simp)
      have hyl := it3.lt
      have hl0 : l.length ≤ 1000000 := by
        have h1 := congrArg List.length m3
        rw [List.length_map] at h1
        have h2 : (scCs bs).2.length ≤ 65535 := by
          unfold scCs censP
          split
          · simp
          · rename_i q
            split
            · simp
            · split
              · simp
              · have := (rdCens_le ((bs.take (findE bs).toNat).drop (scX bs).b6.toNat) (scX bs).b4.toNat 0 (Nat.zero_le _) (Decidable.not_not.1 q)).2
                simp only at this ⊢
                omega
        omega
      have hLB8 : B8 (bs.take (scX bs).b6.toNat) := fun b hb => h8 b (List.mem_of_mem_take hb)
      obtain ⟨h5, k5, ok5, no5⟩ := locs_l0 hLB8 (by simp; omega) hR (lo := h2.next) (y := y) (g2 := h.next) (fun z hz hy => by have := n4 z hz; have := hyl z hy; omega) l.length 0 R 0 h4 l (by omega) (by omega) hl0 (by omega) it4 C4 (Nat.zero_le _)
        (fun x hx z hz hm => by have := (it3.ok x hx).lt z hz; have := n4 z hm; omega) (fun x hx => by
          have h9 : x.c ∈ (scCs bs).2 := by rw [← m3]; exact List.mem_map_of_mem hx
          exact censP_good (fun b hb => h8 b (List.mem_of_mem_take (List.mem_of_mem_drop hb))) _ _ h9)
      rw [List.drop_zero, m3] at ok5 no5
      have hls : rdLocs (bs.take (scX bs).b6.toNat) (scCs bs).2 0 = scLs bs := rfl
      rw [hls] at ok5 no5
      have hyr : ∀ z ∈ rowsOf y, h2.next ≤ z := it3.lo
      have hgc := n4 gc (by simp [ownC])
      have k05 : Keep h h5 [] := ((k03.trans k4 (by simp)).trans k5 (fun z hz => by
        rcases List.mem_cons.1 hz with e | e
        · exact .inr (by omega)
        · exact .inr (by have := hyr z e; omega)))
      have hyn := it3.n
      have way : ∀ (β : Type) (K : Sl → Sl → Int → GH → Option β), F_denote_Scan R a h K = F_denote_Scan_l0 (F_denote_scanner_findEnd R) (F_denote_scanner_centrals R) (F_field_Open R) (F_denote_scanner_local R) (F_field_Cursor_Left R) R R (some ⟨h.next, 0, none⟩) y (some ⟨gc, 0, none⟩) ((l.length : Nat) : Int) ((0 : Nat) : Int) h4 (fun w28 w29 w30 h31 => F_field_Cursor_Left R w30 h31 fun r32 h33 => (bif decide (r32 > 0) then K ⟨none, 0, 0⟩ ⟨none, 0, 0⟩ 14 h33 else exA w28 fun g34 o35 => exS (h33.cell ⟨g34, o35 + 1 + 6, none⟩) fun x36 => K w29 x36 0 h33)) (fun w37 w38 w39 h40 => K w37 w38 w39 h40) := by
        intro β K
        rw [start, c0, bne_self_eq_false, condF]
        refine (e3 β _).trans ?_
        rw [bne_self_eq_false, condF]
        simp only [c3, scC, Nat.zero_add, Nat.reduceAdd, nth_s, nth_0, exI_s]
        rw [bnd_t (by omega) (by omega), Int.toNat_natCast]
        refine (e4 β _).trans ?_
        rw [hyn]
        rfl
      by_cases c2 : (scLs bs).1 = 0
      · obtain ⟨l', it5, m5, C5, hp5, e5⟩ := ok5 c2
        rw [if_neg (by simpa using c2)]
        rw [List.take_zero, List.map_nil, List.nil_append] at m5
        have hleft := fun β K => left_cur (β := β) C5 ⟨by omega, by omega⟩ (by simp; omega) R K
        by_cases c3' : (scLs bs).2.2 < (bs.take (scX bs).b6.toNat).length
        · rw [if_pos c3']
          refine ⟨h5, k05, fun q => (by cases q), fun _ => ⟨rfl, rfl, fun β K => ?_⟩⟩
          rw [way]
          refine (e5 β _ _ _ _ _ _).trans ?_
          rw [hleft, leftP, if_pos rfl, decT (by omega), condT]
        · rw [if_neg c3']
          have hgn : h.next ∉ (gc :: rowsOf y) := fun hm => by
            rcases List.mem_cons.1 hm with e | e
            · omega
            · have := hyr _ e; omega
          have l5 := k5.look l4 hgn
          have c5 := fun o => cell_of l5 o
          have nq : ∀ z ∈ rowsOf q, h.next ≤ z ∧ z < h2.next := fun z hz => ⟨by have := nq2 z hz; omega, rq2.lt z hz⟩
          refine ⟨h5, k05, fun _ => ⟨y, q, l', ⟨it5.vec, it5.ok, fun x hx z hz => ⟨by have := (it5.own x hx z hz).1; omega, (it5.own x hx z hz).2⟩, fun z hz => by have := it5.lo z hz; omega⟩, m5, ((rq2.keep k3 (by simp)).keep k4 (by simp)).keep k5 (fun z hz hm => by
            have := nq z hz
            rcases List.mem_cons.1 hm with e | e
            · omega
            · have := hyr z e; omega), fun z hz => (nq z hz).1, fun β K => ?_⟩, fun q => absurd rfl q⟩
          rw [way]
          refine (e5 β _ _ _ _ _ _).trans ?_
          rw [hleft, leftP, if_pos rfl, decF (by omega), condF]
          simp only [exA_s, c5, scC, Nat.zero_add, Nat.reduceAdd, nth_s, nth_0, exS_s']
      · rw [if_pos c2]
        refine ⟨h5, k05, fun q => absurd q c2, fun _ => ⟨rfl, rfl, fun β K => ?_⟩⟩
        rw [way]
        exact no5 c2 β _ _ _ _ _ _
    · rw [if_pos c1]
      refine ⟨h3, k03, fun q => absurd q c1, fun _ => ⟨rfl, rfl, fun β K => ?_⟩⟩
      rw [start, c0, bne_self_eq_false, condF]
      refine (no3 c1 β _).trans ?_
      rw [bne_iff_ne.2 c1, condT]
  · unfold scanP
    rw [if_pos c0]
    refine ⟨h2, k02, fun q => absurd q c0, fun _ => ⟨rfl, rfl, fun β K => ?_⟩⟩
    rw [start, bne_iff_ne.2 c0, condT]
end Go.Proofs.Ytibngikhlgmhaaa.Gx

