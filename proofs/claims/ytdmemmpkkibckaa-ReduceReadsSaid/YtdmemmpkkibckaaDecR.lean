/- What bits tell: the document's Decode. No condition. -/
import Derived.Test.YtdmemmpkkibckaaGetR
import Derived.Test.YtdmemmpkkibckaaDec
import Derived.Test.YtdmemmpkkibckaaMcH
namespace Go.Proofs.Ytdmemmpkkibckaa.Gx
open Go Go.RowKit
set_option linter.unusedVariables false
set_option linter.unusedSimpArgs false
theorem left_ref {h : GH} {g : Nat} {rb : Sl} {bs : List Int} {p : Nat} (r : Rrd h g rb bs p 0) (R : Nat) {β : Type} (K : Int → GH → Option β) : F_ref01_Reader_Left R (some ⟨g, 0, none⟩) h K = K ((8 * bs.length - p : Nat) : Int) h := by
  have hle := r.le
  have hsm := r.small
  have c0 : h.cell ⟨g, 0 + 0, none⟩ = some (.slice rb.a rb.n rb.c) := by rw [cell_of r.look]; rfl
  have c1 : h.cell ⟨g, 0 + 1, none⟩ = some (.int .i64 (p : Nat)) := by rw [cell_of r.look]; rfl
  have c2 : h.cell ⟨g, 0 + 2, none⟩ = some (.int .i64 0) := by rw [cell_of r.look]; rfl
  unfold F_ref01_Reader_Left
  rw [F_ref01_Reader_Left_gen, exA_s, c2, exI_s, bne_self_eq_false, condF, exA_s, c0, exS_s', exA_s, c1, exI_s]
  have hn := r.row.n
  have e1 : IntKind.wrap .i64 (8 * (((⟨rb.a, rb.n, rb.c⟩ : Sl).n : Nat) : Int)) = 8 * ((bs.length : Nat) : Int) := by
    rw [show (⟨rb.a, rb.n, rb.c⟩ : Sl).n = bs.length from hn, i64w (by omega)]
  rw [e1, i64w (by omega), show 8 * ((bs.length : Nat) : Int) - ((p : Nat) : Int) = ((8 * bs.length - p : Nat) : Int) by omega]
theorem decr_loop {bs : List Int} (hlen : bs.length ≤ 20000) {f size : Int} {rb : Sl} {gr gs m g : Nat} {ss : List Sl} {L : Nat → List Int} (hne : gr ≠ gs) (hsg : ∀ c, c < 256 → ∀ x ∈ rowsOf (ss.getD c ⟨none, 0, 0⟩), x ≠ gr) {R : Nat} (hR : 4000000 < R) :
    ∀ (fu n steps last p : Nat) (e S V N : Int) (s : Sl) (told : List Int) (h : GH), 8 * bs.length < p + fu → fu < n → 2 * steps ≤ p → last < 256 → e = 0 → Rrd h gr rb bs p e → SetV h ss L → h.look gs = some (.row ⟨ss.map slV, 0, false⟩) → Mach h m g f size S V N s told → Ok f size S V N told steps → (∀ x ∈ ownM m g s, x ≠ gr ∧ x ≠ gs ∧ x ∉ rowsOf rb ∧ ∀ c, c < 256 → x ∉ rowsOf (ss.getD c ⟨none, 0, 0⟩)) →
    ∃ h' out, Rd h' out (decL bs f size L fu steps last p e S V N told).out ∧ Keep h h' (gr :: ownM m g s) ∧
      ∀ (β : Type) (K : Sl → Int → Int → GH → Option β) (F1 : Int → Int → GH → (Option Addr → Int → GH → Option β) → Option β) (F2 : Option Addr → GH → (Option Addr → Int → GH → Option β) → Option β) (F6 : Option Addr → GH → (Int → GH → Option β) → Option β),
      F_ref14_Decode_l0 F1 F2 (F_ref13_Machine_Full R) (F_ref12_Get R) (F_ref13_Machine_Feed R) F6 R n (some ⟨m, 0, none⟩) (some ⟨gr, 0, none⟩) (some ⟨gs, 0, none⟩) (last : Nat) (steps : Nat) h (fun w51 w52 w53 h54 => F_ref01_Reader_Left R w52 h54 fun r55 h56 => (bif decide (r55 ≥ 8) then K ⟨none, 0, 0⟩ 0 5 h56 else exA w51 fun g57 o58 => exP (h56.cell ⟨g57, o58 + 1, none⟩) fun x59 => exA x59 fun g60 o61 => exS (h56.cell ⟨g60, o61 + 3, none⟩) fun x62 => K x62 w53 0 h56)) (fun w63 w64 w65 h66 => K w63 w64 w65 h66) = K out ((decL bs f size L fu steps last p e S V N told).n : Nat) (decL bs f size L fu steps last p e S V N told).err h'
  | 0, n, steps, last, p, e, S, V, N, s, told, h, hfu, hn, hst, hlast, he, r, sv, hl, M, o, hP => by
    have := r.le; omega
  | fu + 1, n, steps, last, p, e, S, V, N, s, told, h, hfu, hn, hst, hlast, he, r, sv, hl, M, o, hP => by
    obtain ⟨n, rfl⟩ : ∃ n', n = n' + 1 := ⟨n - 1, by omega⟩
    have hpl := r.le
    subst he
    have hlen2 : told.length ≤ 100000000 := by have := o.lt; omega
    cases hfull : fullB S size told with
    | true =>
      by_cases c8 : p + 8 ≤ 8 * bs.length
      · have hd : decL bs f size L (fu + 1) steps last p 0 S V N told = ⟨5, 0, []⟩ := by rw [decL, if_pos hfull, if_pos c8]
        rw [hd]
        refine ⟨h, ⟨none, 0, 0⟩, Row.nil, .refl _ _, fun β K F1 F2 F6 => ?_⟩
        rw [F_ref14_Decode_l0_succ, ref13_Machine_Full_mach M, hfull, notT, condF, left_ref r, decT (by omega), condT]
        rfl
      · have hd : decL bs f size L (fu + 1) steps last p 0 S V N told = ⟨0, steps, told⟩ := by rw [decL, if_pos hfull, if_neg c8]
        rw [hd]
        refine ⟨h, s, M.out.buf.row, .refl _ _, fun β K F1 F2 F6 => ?_⟩
        have o3 : h.cell ⟨g, 0 + 3, none⟩ = some (.slice s.a s.n s.c) := by rw [cell_of M.out.hd]; rfl
        rw [F_ref14_Decode_l0_succ, ref13_Machine_Full_mach M, hfull, notT, condF, left_ref r, decF (by omega), condF, exA_s, M.c1, exP_s, exA_s, o3, exS_s']
    | false =>
      obtain ⟨h1, r1, k1, e1⟩ := get_ref r sv hl hsg hlast hR
      have hl1 := k1.look hl (by simpa using hne.symm)
      have M1 := M.keep k1 (fun x hx => by simp; exact (hP x hx).1)
      have sv1 := sv.keep k1 (fun c hc x hx => by simp; exact hsg c hc x hx)
      have hl8 : B8 ((L last).take 32) := fun x hx => sv.b8 last hlast x (List.mem_of_mem_take hx)
      have hok := getG_ok (bs := bs) (p := p) (e := 0) hl8
      have start : ∀ (β : Type) (K : Sl → Int → Int → GH → Option β) (F1 : Int → Int → GH → (Option Addr → Int → GH → Option β) → Option β) (F2 : Option Addr → GH → (Option Addr → Int → GH → Option β) → Option β) (F6 : Option Addr → GH → (Int → GH → Option β) → Option β) (K0 : Option Addr → Option Addr → Int → GH → Option β),
          F_ref14_Decode_l0 F1 F2 (F_ref13_Machine_Full R) (F_ref12_Get R) (F_ref13_Machine_Feed R) F6 R (n + 1) (some ⟨m, 0, none⟩) (some ⟨gr, 0, none⟩) (some ⟨gs, 0, none⟩) (last : Nat) (steps : Nat) h K0 (fun w63 w64 w65 h66 => K w63 w64 w65 h66) = (bif (getG bs ((L last).take 32) p 0).err != 0 then K ⟨none, 0, 0⟩ 0 (getG bs ((L last).take 32) p 0).err h1 else F_ref13_Machine_Feed R (some ⟨m, 0, none⟩) (getG bs ((L last).take 32) p 0).c h1 fun r28 h29 => (bif r28 != 0 then K ⟨none, 0, 0⟩ 0 r28 h29 else F_ref14_Decode_l0 F1 F2 (F_ref13_Machine_Full R) (F_ref12_Get R) (F_ref13_Machine_Feed R) F6 R n (some ⟨m, 0, none⟩) (some ⟨gr, 0, none⟩) (some ⟨gs, 0, none⟩) (getG bs ((L last).take 32) p 0).c (IntKind.wrap .i64 ((steps : Nat) + 1)) h29 K0 (fun w63 w64 w65 h66 => K w63 w64 w65 h66))) := by
        intro β K F1 F2 F6 K0
        rw [F_ref14_Decode_l0_succ, ref13_Machine_Full_mach M, hfull, notF, condT]
        exact e1 β _
      generalize hG : getG bs ((L last).take 32) p 0 = G at *
      by_cases cG : G.err = 0
      · obtain ⟨g1, g2, g3, g4⟩ := hok cG
        obtain ⟨h2, s2, e2, A2, k2, n2⟩ := feed_both (R := R) false M1 o (by omega) (by omega) ⟨g3, g4⟩
        have e2 : ∀ (β : Type) (K : Int → GH → Option β), F_ref13_Machine_Feed R (some ⟨m, 0, none⟩) G.c h1 K = K (feedR f size S V N told G.c).e h2 := fun β K => (condF _ _).symm.trans (e2 β K)
        have b1 := k1.1
        have k02 : Keep h h2 (gr :: ownM m g s) := (k1.mono (o1 := gr :: ownM m g s) (by simp)).trans k2 (fun x hx => .inl (by simp [hx]))
        by_cases cF : (feedR f size S V N told G.c).e = 0
        · have hd : decL bs f size L (fu + 1) steps last p 0 S V N told = decL bs f size L fu (steps + 1) G.c.toNat G.p G.e (feedR f size S V N told G.c).S (feedR f size S V N told G.c).V (feedR f size S V N told G.c).N (feedR f size S V N told G.c).bs := by
            rw [decL, hfull, if_neg (by decide), hG, if_neg (by simpa using cG), if_neg (by simpa using cF)]
          obtain ⟨lgr, lrb, _⟩ := r1.lt
          have lgs := look_lt hl1
          have hP2 : ∀ x ∈ ownM m g s2, x ≠ gr ∧ x ≠ gs ∧ x ∉ rowsOf rb ∧ ∀ c, c < 256 → x ∉ rowsOf (ss.getD c ⟨none, 0, 0⟩) := fun x hx => by
            rcases n2 x hx with q | q
            · exact hP x q
            · exact ⟨by omega, by omega, fun t => by have := lrb x t; omega, fun c hc t => by have := (sv1.rd c hc).lt x t; omega⟩
          obtain ⟨h3, out, v3, k3, e3⟩ := decr_loop hlen (f := f) (size := size) (rb := rb) (gr := gr) (gs := gs) (m := m) (g := g) hne hsg hR fu n (steps + 1) G.c.toNat G.p G.e _ _ _ s2 _ h2 (by omega) (by omega) (by omega) (by omega) g1
            (r1.keep k2 (fun hx => (hP _ hx).1 rfl) (fun x hx hy => (hP x hy).2.2.1 hx)) (sv1.keep k2 (fun c hc x hx hy => (hP x hy).2.2.2 c hc hx)) (k2.look hl1 (fun hx => (hP _ hx).2.1 rfl)) A2 (o.next ⟨g3, g4⟩) hP2
          rw [hd]
          refine ⟨h3, out, v3, k02.trans k3 (fun x hx => ?_), fun β K F1 F2 F6 => ?_⟩
          · rcases List.mem_cons.1 hx with q | q
            · exact .inl (by simp [q])
            · rcases n2 x q with q | q
              · exact .inl (by simp [q])
              · exact .inr (by omega)
          · rw [start, cG, bne_self_eq_false, condF, e2, cF, bne_self_eq_false, condF, i64w (by omega), show ((steps : Nat) : Int) + 1 = ((steps + 1 : Nat) : Int) by omega, show G.c = ((G.c.toNat : Nat) : Int) by omega]
            have := e3 β K F1 F2 F6
            rw [show G.c = ((G.c.toNat : Nat) : Int) by omega] at this
            simpa using this
        · have hd : decL bs f size L (fu + 1) steps last p 0 S V N told = ⟨(feedR f size S V N told G.c).e, 0, []⟩ := by
            rw [decL, hfull, if_neg (by decide), hG, if_neg (by simpa using cG), if_pos cF]
          rw [hd]
          refine ⟨h2, ⟨none, 0, 0⟩, Row.nil, k02, fun β K F1 F2 F6 => ?_⟩
          rw [start, cG, bne_self_eq_false, condF, e2, bne_iff_ne.2 cF, condT]
          rfl
      · have hd : decL bs f size L (fu + 1) steps last p 0 S V N told = ⟨G.err, 0, []⟩ := by
          rw [decL, hfull, if_neg (by decide), hG, if_pos cG]
        rw [hd]
        refine ⟨h1, ⟨none, 0, 0⟩, Row.nil, k1.mono (by simp), fun β K F1 F2 F6 => ?_⟩
        rw [start, bne_iff_ne.2 cG, condT]
        rfl
theorem dec_ref {h : GH} {a : Sl} {bs : List Int} (r : Rd h a bs) (hb : B8 bs) (hlen : bs.length ≤ 20000) {f size : Int} (hs : size ≤ 9223372036854775807) {R : Nat} (hR : 4000000 < R) :
    ∃ h' out, Rd h' out (dec bs f size).out ∧ Keep h h' [] ∧
      ∀ (β : Type) (K : Sl → Int → Int → GH → Option β), F_ref14_Decode R a f size h K = K out ((dec bs f size).n : Nat) (dec bs f size).err h' := by
  have hn := r.n
  cases hnew : newR f size with
  | false =>
    have hd : dec bs f size = ⟨2, 0, []⟩ := by rw [dec, if_pos hnew]
    rw [hd]
    refine ⟨h, ⟨none, 0, 0⟩, Row.nil, .refl _ _, fun β K => ?_⟩
    unfold F_ref14_Decode
    rw [F_ref14_Decode_gen, (new_not hnew _ _).2]
    rfl
  | true =>
    have hq := of_decide_eq_true hnew
    obtain ⟨h1, m, g, e1, M1, k1, n1⟩ := new_ref (R := R) hnew h
    by_cases c0 : size = 0
    · subst c0
      by_cases c1 : 0 < bs.length
      · have hd : dec bs f 0 = ⟨5, 0, []⟩ := by rw [dec, hnew, if_neg (by decide), if_pos rfl, if_pos c1]
        rw [hd]
        refine ⟨h1, ⟨none, 0, 0⟩, Row.nil, k1, fun β K => ?_⟩
        unfold F_ref14_Decode
        rw [F_ref14_Decode_gen, e1, bne_self_eq_false, condF, beq_self_eq_true, condT, decT (by omega), condT]
        rfl
      · have hd : dec bs f 0 = ⟨0, 0, []⟩ := by rw [dec, hnew, if_neg (by decide), if_pos rfl, if_neg c1]
        rw [hd]
        refine ⟨h1, ⟨none, 0, 0⟩, Row.nil, k1, fun β K => ?_⟩
        unfold F_ref14_Decode
        rw [F_ref14_Decode_gen, e1, bne_self_eq_false, condF, beq_self_eq_true, condT, decF (by omega), condF, condT]
        rfl
    · have b1 := k1.1
      have lM := M1.lt
      have k2 := keep_push h1 (.row ⟨[.slice a.a a.n a.c, .int .i64 0, .int .i64 0], 0, false⟩) []
      have ra1 := r.keep k1 (by simp)
      have ra2 := ra1.keep k2 (by simp)
      have r2 : Rrd (h1.push (.row ⟨[.slice a.a a.n a.c, .int .i64 0, .int .i64 0], 0, false⟩)) h1.next a bs 0 0 := ⟨look_push_new, ra2, fun hx => by have := ra1.lt _ hx; omega, hb, by omega, by omega⟩
      obtain ⟨h2, eh2⟩ : ∃ h2, h2 = h1.push (.row ⟨[.slice a.a a.n a.c, .int .i64 0, .int .i64 0], 0, false⟩) := ⟨_, rfl⟩
      have hx2 : h2.next = h1.next + 1 := by rw [eh2]; rfl
      rw [← eh2] at r2 k2
      obtain ⟨h3, gs, r3, k3, ok3, e3⟩ := getsets_ref r2 hR
      have b3 := k3.1
      have la := fun x hx => (r.lt x hx : x < h.next)
      have k03 : Keep h h3 [] := (k1.trans k2 (by simp)).trans k3 (fun x hx => .inr (by simp at hx; omega))
      have start : ∀ (β : Type) (K : Sl → Int → Int → GH → Option β), F_ref14_Decode R a f size h K = (bif (gotS bs).err != 0 then K ⟨none, 0, 0⟩ 0 (gotS bs).err h3 else F_ref14_Decode_l0 (F_ref13_New R) (F_ref12_GetSets R) (F_ref13_Machine_Full R) (F_ref12_Get R) (F_ref13_Machine_Feed R) (F_ref01_Reader_Left R) R R (some ⟨m, 0, none⟩) (some ⟨h1.next, 0, none⟩) (some ⟨gs, 0, none⟩) 0 0 h3 (fun w51 w52 w53 h54 => F_ref01_Reader_Left R w52 h54 fun r55 h56 => (bif decide (r55 ≥ 8) then K ⟨none, 0, 0⟩ 0 5 h56 else exA w51 fun g57 o58 => exP (h56.cell ⟨g57, o58 + 1, none⟩) fun x59 => exA x59 fun g60 o61 => exS (h56.cell ⟨g60, o61 + 3, none⟩) fun x62 => K x62 w53 0 h56)) (fun w63 w64 w65 h66 => K w63 w64 w65 h66)) := by
        intro β K
        unfold F_ref14_Decode
        rw [F_ref14_Decode_gen, e1, bne_self_eq_false, condF, beq_int, decF c0, condF, condF, gnew_eq rfl, ← eh2, e3]
      by_cases cE : (gotS bs).err = 0
      · obtain ⟨q1, ss, sv3, l3, hrows⟩ := ok3 cE
        have hd : dec bs f size = decL bs f size (gotS bs).L (8 * bs.length + 1) 0 0 (gotS bs).p (gotS bs).e 0 0 0 [] := by
          rw [dec, hnew, if_neg (by decide), if_neg c0, if_neg (by simpa using cE)]
        obtain ⟨h5, out, v5, k5, e5⟩ := decr_loop hlen (f := f) (size := size) (rb := a) (gr := h1.next) (gs := gs) (m := m) (g := g) (ss := ss) (L := (gotS bs).L) (by omega) (fun c hc x hx => by have := hrows c hc x hx; omega) hR (8 * bs.length + 1) R 0 0 (gotS bs).p (gotS bs).e 0 0 0 ⟨none, 0, 0⟩ [] h3 (by omega) (by omega) (by omega) (by omega) (getS_e bs 256 0 _ cE)
          r3 sv3 l3 ((M1.keep k2 (by simp)).keep k3 (fun x hx => by have := lM x hx; simp; omega))
          ⟨⟨hq.1, hq.2.1⟩, ⟨hq.2.2, hs⟩, .inl rfl, by omega, by omega, by omega, by simp; exact hq.2.2, by simp⟩
          (fun x hx => by
            have := lM x hx
            have := n1 x hx
            exact ⟨by omega, by omega, fun t => by have := la x t; omega, fun c hc t => by have := hrows c hc x t; omega⟩)
        rw [hd]
        refine ⟨h5, out, v5, k03.trans k5 (fun x hx => ?_), fun β K => ?_⟩
        · rcases List.mem_cons.1 hx with q | q
          · exact .inr (by omega)
          · exact .inr (n1 x q)
        · rw [start, cE, bne_self_eq_false, condF]
          exact e5 β K (F_ref13_New R) (F_ref12_GetSets R) (F_ref01_Reader_Left R)
      · have hd : dec bs f size = ⟨(gotS bs).err, 0, []⟩ := by
          rw [dec, hnew, if_neg (by decide), if_neg c0, if_pos cE]
        rw [hd]
        refine ⟨h3, ⟨none, 0, 0⟩, Row.nil, k03, fun β K => ?_⟩
        rw [start, bne_iff_ne.2 cE, condT]
        rfl
end Go.Proofs.Ytdmemmpkkibckaa.Gx

