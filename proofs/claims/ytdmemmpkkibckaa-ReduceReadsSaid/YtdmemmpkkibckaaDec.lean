/- What bits tell: the program's reduce.Decode. No condition. -/
import Derived.Test.YtdmemmpkkibckaaGet
import Derived.Test.YtdmemmpkkibckaaMcE
namespace Go.Proofs.Ytdmemmpkkibckaa.Gx
open Go Go.RowKit
set_option linter.unusedVariables false
set_option linter.unusedSimpArgs false
theorem bitsE_0 {bs : List Int} {p n : Nat} {e : Int} (h : bitsE bs p n e = 0) : e = 0 ∧ p + n ≤ 8 * bs.length ∧ bitsP bs p n e = p + n := by
  unfold bitsE at h
  by_cases he : e = 0
  · rw [if_pos he] at h
    by_cases hp : p + n ≤ 8 * bs.length
    · exact ⟨he, hp, by unfold bitsP; rw [if_pos ⟨he, hp⟩]⟩
    · rw [if_neg hp] at h; cases h
  · rw [if_neg he] at h; exact absurd h he
theorem getG_ok {bs l : List Int} {p : Nat} {e : Int} (hl : B8 l) (h : (getG bs l p e).err = 0) : (getG bs l p e).e = 0 ∧ p + 2 ≤ (getG bs l p e).p ∧ 0 ≤ (getG bs l p e).c ∧ (getG bs l p e).c ≤ 255 := by
  have h8 : ∀ p e, bitsV bs p 8 e < 256 := fun p e => by have := bitsV_lt bs p 8 e; rwa [show (2 : Nat) ^ 8 = 256 by decide] at this
  unfold getG at h ⊢
  by_cases c1 : l.length = 0
  · rw [if_pos c1] at h ⊢
    have q := bitsE_0 h
    have := h8 p e
    exact ⟨h, by show p + 2 ≤ bitsP bs p 8 e; omega, by show (0 : Int) ≤ (bitsV bs p 8 e : Nat); omega, by show ((bitsV bs p 8 e : Nat) : Int) ≤ 255; omega⟩
  · rw [if_neg c1] at h ⊢
    by_cases c2 : bitsV bs p 1 e = 1
    · rw [if_pos c2] at h ⊢
      have q := bitsE_0 h
      have q1 := bitsE_0 q.1
      have := h8 (bitsP bs p 1 e) (bitsE bs p 1 e)
      exact ⟨h, by show p + 2 ≤ bitsP bs (bitsP bs p 1 e) 8 (bitsE bs p 1 e); omega, by show (0 : Int) ≤ (bitsV bs (bitsP bs p 1 e) 8 (bitsE bs p 1 e) : Nat); omega, by show ((bitsV bs (bitsP bs p 1 e) 8 (bitsE bs p 1 e) : Nat) : Int) ≤ 255; omega⟩
    · rw [if_neg c2] at h ⊢
      have hw := Wd_le l.length
      by_cases c3 : bitsE bs (bitsP bs p 1 e) (Wd l.length) (bitsE bs p 1 e) = 0
      · rw [if_neg (by simpa using c3)] at h ⊢
        by_cases c4 : l.length ≤ bitsV bs (bitsP bs p 1 e) (Wd l.length) (bitsE bs p 1 e)
        · rw [if_pos c4] at h; cases h
        · rw [if_neg c4]
          have q := bitsE_0 c3
          have q1 := bitsE_0 q.1
          have hb := hl.get (i := bitsV bs (bitsP bs p 1 e) (Wd l.length) (bitsE bs p 1 e)) (by omega)
          exact ⟨c3, by show p + 2 ≤ bitsP bs (bitsP bs p 1 e) (Wd l.length) (bitsE bs p 1 e); omega, hb.1, hb.2⟩
      · rw [if_pos c3] at h; exact absurd h c3
structure DR where
  err : Int
  n : Nat
  out : List Int
def decL (bs : List Int) (f size : Int) (L : Nat → List Int) : Nat → Nat → Nat → Nat → Int → Int → Int → Int → List Int → DR
  | 0, _, _, _, _, _, _, _, _ => ⟨1, 0, []⟩
  | m + 1, steps, last, p, e, S, V, N, told =>
    if fullB S size told = true then (if p + 8 ≤ 8 * bs.length then ⟨5, 0, []⟩ else ⟨0, steps, told⟩)
    else if (getG bs ((L last).take 32) p e).err ≠ 0 then ⟨(getG bs ((L last).take 32) p e).err, 0, []⟩
    else if (feedR f size S V N told (getG bs ((L last).take 32) p e).c).e ≠ 0 then ⟨(feedR f size S V N told (getG bs ((L last).take 32) p e).c).e, 0, []⟩
    else decL bs f size L m (steps + 1) (getG bs ((L last).take 32) p e).c.toNat (getG bs ((L last).take 32) p e).p (getG bs ((L last).take 32) p e).e (feedR f size S V N told (getG bs ((L last).take 32) p e).c).S (feedR f size S V N told (getG bs ((L last).take 32) p e).c).V (feedR f size S V N told (getG bs ((L last).take 32) p e).c).N (feedR f size S V N told (getG bs ((L last).take 32) p e).c).bs
/-- what bits tell -/
def dec (bs : List Int) (f size : Int) : DR :=
  if newR f size = false then ⟨2, 0, []⟩
  else if size = 0 then (if 0 < bs.length then ⟨5, 0, []⟩ else ⟨0, 0, []⟩)
  else if (gotS bs).err ≠ 0 then ⟨(gotS bs).err, 0, []⟩
  else decL bs f size (gotS bs).L (8 * bs.length + 1) 0 0 (gotS bs).p (gotS bs).e 0 0 0 []
theorem left_eq {h : GH} {g : Nat} {rb : Sl} {bs : List Int} {p : Nat} (r : Rdr h g rb bs p 0) (R : Nat) {β : Type} (K : Int → GH → Option β) : F_bitio_Reader_Left R (some ⟨g, 0, none⟩) h K = K ((8 * bs.length - p : Nat) : Int) h := by
  have r0 := r
  obtain ⟨a, b, c, rs, hp⟩ := r
  have hn := rs.row.n
  have hle := rs.le
  have hn39 := rs.n39
  have hn8 := rs.n8
  have hsm := rs.small
  have cl := fun i => cell_of rs.look i
  unfold F_bitio_Reader_Left
  rw [F_bitio_Reader_Left_gen, err_eq r0, bne_self_eq_false, condF]
  simp only [exA_s, cl, Nat.zero_add, nth_s, nth_0, exI_s, exS_s']
  rw [hn, i64w (x := ((bs.length : Nat) : Int) - (a : Nat)) (by omega), i64w (x := 8 * _) (by omega), i64w (by omega)]
  congr 1
  omega
theorem dec_loop {bs : List Int} (hlen : bs.length ≤ 20000) {f size : Int} {rb : Sl} {gr gs m g : Nat} {ss : List Sl} {L : Nat → List Int} (hne : gr ≠ gs) (hsg : ∀ c, c < 256 → ∀ x ∈ rowsOf (ss.getD c ⟨none, 0, 0⟩), x ≠ gr) {R : Nat} (hR : 4000000 < R) :
    ∀ (fu n steps last p : Nat) (e S V N : Int) (s : Sl) (told : List Int) (h : GH), 8 * bs.length < p + fu → fu < n → 2 * steps ≤ p → last < 256 → e = 0 → Rdr h gr rb bs p e → SetV h ss L → h.look gs = some (.row ⟨ss.map slV, 0, false⟩) → Mach h m g f size S V N s told → Ok f size S V N told steps → (∀ x ∈ ownM m g s, x ≠ gr ∧ x ≠ gs ∧ x ∉ rowsOf rb ∧ ∀ c, c < 256 → x ∉ rowsOf (ss.getD c ⟨none, 0, 0⟩)) →
    ∃ h' out, Rd h' out (decL bs f size L fu steps last p e S V N told).out ∧ Keep h h' (gr :: ownM m g s) ∧ ((decL bs f size L fu steps last p e S V N told).err = 0 → (((decL bs f size L fu steps last p e S V N told).out.length : Nat) : Int) = size ∧ 2 * (decL bs f size L fu steps last p e S V N told).n ≤ 8 * bs.length) ∧ ((decL bs f size L fu steps last p e S V N told).err ≠ 0 → (decL bs f size L fu steps last p e S V N told).out = [] ∧ (decL bs f size L fu steps last p e S V N told).n = 0) ∧
      ∀ (β : Type) (K : Sl → Int → Int → GH → Option β) (F1 : Int → Int → GH → (Option Addr → Int → GH → Option β) → Option β) (F2 : Sl → GH → (Option Addr → GH → Option β) → Option β) (F3 : Option Addr → GH → (List Value → Int → GH → Option β) → Option β) (F7 : Option Addr → GH → (Int → GH → Option β) → Option β) (F8 : Option Addr → GH → (Sl → GH → Option β) → Option β),
      F_reduce_Decode_l0 F1 F2 F3 (F_dle_Machine_Full R) (F_follow_Get R) (F_dle_Machine_Feed R) F7 F8 R n (some ⟨m, 0, none⟩) (some ⟨gr, 0, none⟩) (some ⟨gs, 0, none⟩) (steps : Nat) (last : Nat) h (fun w36 w37 w38 h39 => F_bitio_Reader_Left R w37 h39 fun r40 h41 => (bif decide (r40 ≥ 8) then K ⟨none, 0, 0⟩ 0 5 h41 else F_dle_Machine_Bytes R w36 h41 fun r42 h43 => K r42 w38 0 h43)) (fun w44 w45 w46 h47 => K w44 w45 w46 h47) = K out ((decL bs f size L fu steps last p e S V N told).n : Nat) (decL bs f size L fu steps last p e S V N told).err h'
  | 0, n, steps, last, p, e, S, V, N, s, told, h, hfu, hn, hst, hlast, he, r, sv, hl, M, o, hP => by
    have := r.le; omega
  | fu + 1, n, steps, last, p, e, S, V, N, s, told, h, hfu, hn, hst, hlast, he, r, sv, hl, M, o, hP => by
    obtain ⟨n, rfl⟩ : ∃ n', n = n' + 1 := ⟨n - 1, by omega⟩
    have hpl := r.le
    subst he
    have hlen2 : told.length ≤ 100000000 := by have := o.lt; omega
    cases hfull : fullB S size told with
    | true =>
      have hsz : (told.length : Int) = size := by
        unfold fullB at hfull
        simp at hfull
        exact hfull.2
      by_cases c8 : p + 8 ≤ 8 * bs.length
      · have hd : decL bs f size L (fu + 1) steps last p 0 S V N told = ⟨5, 0, []⟩ := by rw [decL, if_pos hfull, if_pos c8]
        rw [hd]
        refine ⟨h, ⟨none, 0, 0⟩, Row.nil, .refl _ _, fun q => by simp at q, fun _ => ⟨rfl, rfl⟩, fun β K F1 F2 F3 F7 F8 => ?_⟩
        rw [F_reduce_Decode_l0_succ, dle_Machine_Full_mach M, hfull, notT, condF, left_eq r, decT (by omega), condT]
        rfl
      · have hd : decL bs f size L (fu + 1) steps last p 0 S V N told = ⟨0, steps, told⟩ := by rw [decL, if_pos hfull, if_neg c8]
        rw [hd]
        obtain ⟨h1, q, e1, b1, k1⟩ := dle_Machine_Bytes_mach (R := R) M (by omega)
        refine ⟨h1, q, ?_, k1.mono (by simp), fun _ => ⟨hsz, by show 2 * steps ≤ _; omega⟩, fun q => absurd rfl q, fun β K F1 F2 F3 F7 F8 => ?_⟩
        · refine ⟨by rw [u8s_length, b1.n, Nat.mul_one], by rw [b1.n, b1.c]; exact Nat.le_refl _, ?_⟩
          rcases b1.at_ with ⟨q1, q2⟩ | ⟨rr, q1, q2⟩
          · exact .inl ⟨q1, by rw [b1.n]; show told.length = 0; rw [q2]; rfl, by rw [b1.c]; show told.length = 0; rw [q2]; rfl⟩
          · exact .inr ⟨rr, 0, _, q1, q2, by simp, by simp⟩
        · rw [F_reduce_Decode_l0_succ, dle_Machine_Full_mach M, hfull, notT, condF, left_eq r, decF (by omega), condF, e1]
    | false =>
      obtain ⟨h1, r1, k1, e1⟩ := get_eq r sv hsg hlast hR
      have hl1 := k1.look hl (by simpa using hne.symm)
      have M1 := M.keep k1 (fun x hx => by simp; exact (hP x hx).1)
      have sv1 := sv.keep k1 (fun c hc x hx => by simp; exact hsg c hc x hx)
      have hslen : (ss.map slV).length = 256 := by rw [List.length_map]; exact sv.len
      have ns : nsub (ss.map slV) 0 256 = some (ss.map slV) := by have := nsub_all (ss.map slV); rwa [hslen] at this
      have hl8 : B8 ((L last).take 32) := fun x hx => sv.b8 last hlast x (List.mem_of_mem_take hx)
      have hok := getG_ok (bs := bs) (p := p) (e := 0) hl8
      have start : ∀ (β : Type) (K : Sl → Int → Int → GH → Option β) (F1 : Int → Int → GH → (Option Addr → Int → GH → Option β) → Option β) (F2 : Sl → GH → (Option Addr → GH → Option β) → Option β) (F3 : Option Addr → GH → (List Value → Int → GH → Option β) → Option β) (F7 : Option Addr → GH → (Int → GH → Option β) → Option β) (F8 : Option Addr → GH → (Sl → GH → Option β) → Option β) (K0 : Option Addr → Option Addr → Int → GH → Option β),
          F_reduce_Decode_l0 F1 F2 F3 (F_dle_Machine_Full R) (F_follow_Get R) (F_dle_Machine_Feed R) F7 F8 R (n + 1) (some ⟨m, 0, none⟩) (some ⟨gr, 0, none⟩) (some ⟨gs, 0, none⟩) (steps : Nat) (last : Nat) h K0 (fun w44 w45 w46 h47 => K w44 w45 w46 h47) = (bif (getG bs ((L last).take 32) p 0).err != 0 then K ⟨none, 0, 0⟩ 0 (getG bs ((L last).take 32) p 0).err h1 else F_dle_Machine_Feed R (some ⟨m, 0, none⟩) (getG bs ((L last).take 32) p 0).c h1 fun r34 h35 => (bif r34 != 0 then K ⟨none, 0, 0⟩ 0 r34 h35 else F_reduce_Decode_l0 F1 F2 F3 (F_dle_Machine_Full R) (F_follow_Get R) (F_dle_Machine_Feed R) F7 F8 R n (some ⟨m, 0, none⟩) (some ⟨gr, 0, none⟩) (some ⟨gs, 0, none⟩) (IntKind.wrap .i64 ((steps : Nat) + 1)) (getG bs ((L last).take 32) p 0).c h35 K0 (fun w44 w45 w46 h47 => K w44 w45 w46 h47))) := by
        intro β K F1 F2 F3 F7 F8 K0
        rw [F_reduce_Decode_l0_succ, dle_Machine_Full_mach M, hfull, notF, condT, exA_s, rowCells_of hl, ns, exL_s]
        exact e1 β _
      generalize hG : getG bs ((L last).take 32) p 0 = G at *
      by_cases cG : G.err = 0
      · obtain ⟨g1, g2, g3, g4⟩ := hok cG
        obtain ⟨h2, s2, e2, A2, k2, n2⟩ := feed_both (R := R) true M1 o (by omega) (by omega) ⟨g3, g4⟩
        have e2 : ∀ (β : Type) (K : Int → GH → Option β), F_dle_Machine_Feed R (some ⟨m, 0, none⟩) G.c h1 K = K (feedR f size S V N told G.c).e h2 := fun β K => (condT _ _).symm.trans (e2 β K)
        have b1 := k1.1
        have k02 : Keep h h2 (gr :: ownM m g s) := (k1.mono (o1 := gr :: ownM m g s) (by simp)).trans k2 (fun x hx => .inl (by simp [hx]))
        by_cases cF : (feedR f size S V N told G.c).e = 0
        · have hd : decL bs f size L (fu + 1) steps last p 0 S V N told = decL bs f size L fu (steps + 1) G.c.toNat G.p G.e (feedR f size S V N told G.c).S (feedR f size S V N told G.c).V (feedR f size S V N told G.c).N (feedR f size S V N told G.c).bs := by
            rw [decL, hfull, if_neg (by decide), hG, if_neg (by simpa using cG), if_neg (by simpa using cF)]
          obtain ⟨lgr, lrb, _⟩ := r1.lt
          have lgs := look_lt hl1
          have hP2 : ∀ x ∈ ownM m g s2, x ≠ gr ∧ x ≠ gs ∧ x ∉ rowsOf rb ∧ ∀ c, c < 256 → x ∉ rowsOf (ss.getD c ⟨none, 0, 0⟩) := fun x hx => by
            rcases n2 x hx with q | q
            · exact hP x q
            · exact ⟨by omega, by omega, fun t => by have := lrb x t; omega, fun c hc t => by have := (sv1.rd c hc).lt x t; omega⟩
          obtain ⟨h3, out, v3, k3, a3, b3, e3⟩ := dec_loop hlen (f := f) (size := size) (rb := rb) (gr := gr) (gs := gs) (m := m) (g := g) hne hsg hR fu n (steps + 1) G.c.toNat G.p G.e _ _ _ s2 _ h2 (by omega) (by omega) (by omega) (by omega) g1
            (r1.keep k2 (fun hx => (hP _ hx).1 rfl) (fun x hx hy => (hP x hy).2.2.1 hx)) (sv1.keep k2 (fun c hc x hx hy => (hP x hy).2.2.2 c hc hx)) (k2.look hl1 (fun hx => (hP _ hx).2.1 rfl)) A2 (o.next ⟨g3, g4⟩) hP2
          rw [hd]
          refine ⟨h3, out, v3, k02.trans k3 (fun x hx => ?_), a3, b3, fun β K F1 F2 F3 F7 F8 => ?_⟩
          · rcases List.mem_cons.1 hx with q | q
            · exact .inl (by simp [q])
            · rcases n2 x q with q | q
              · exact .inl (by simp [q])
              · exact .inr (by omega)
          · rw [start, cG, bne_self_eq_false, condF, e2, cF, bne_self_eq_false, condF, i64w (by omega), show ((steps : Nat) : Int) + 1 = ((steps + 1 : Nat) : Int) by omega, show G.c = ((G.c.toNat : Nat) : Int) by omega]
            have := e3 β K F1 F2 F3 F7 F8
            rw [show G.c = ((G.c.toNat : Nat) : Int) by omega] at this
            simpa using this
        · have hd : decL bs f size L (fu + 1) steps last p 0 S V N told = ⟨(feedR f size S V N told G.c).e, 0, []⟩ := by
            rw [decL, hfull, if_neg (by decide), hG, if_neg (by simpa using cG), if_pos cF]
          rw [hd]
          refine ⟨h2, ⟨none, 0, 0⟩, Row.nil, k02, fun q => absurd q cF, fun _ => ⟨rfl, rfl⟩, fun β K F1 F2 F3 F7 F8 => ?_⟩
          rw [start, cG, bne_self_eq_false, condF, e2, bne_iff_ne.2 cF, condT]
          rfl
      · have hd : decL bs f size L (fu + 1) steps last p 0 S V N told = ⟨G.err, 0, []⟩ := by
          rw [decL, hfull, if_neg (by decide), hG, if_pos cG]
        rw [hd]
        refine ⟨h1, ⟨none, 0, 0⟩, Row.nil, k1.mono (by simp), fun q => absurd q cG, fun _ => ⟨rfl, rfl⟩, fun β K F1 F2 F3 F7 F8 => ?_⟩
        rw [start, bne_iff_ne.2 cG, condT]
        rfl
theorem getS_e (bs : List Int) : ∀ (m p : Nat) (L : Nat → List Int), (getS bs m p 0 L).err = 0 → (getS bs m p 0 L).e = 0
  | 0, p, L, h => rfl
  | c + 1, p, L, h => by
    rw [getS] at h ⊢
    by_cases c1 : 32 < bitsV bs p 6 0
    · rw [if_pos c1] at h; cases h
    · rw [if_neg c1] at h ⊢
      by_cases c2 : (rdB bs (bitsV bs p 6 0) (bitsP bs p 6 0) (bitsE bs p 6 0)).2.2 = 0
      · rw [if_neg (by simpa using c2)] at h ⊢
        rw [c2] at h ⊢
        exact getS_e bs c _ _ h
      · rw [if_pos c2] at h; exact absurd h c2
theorem decode_eq {h : GH} {a : Sl} {bs : List Int} (r : Rd h a bs) (hb : B8 bs) (hlen : bs.length ≤ 20000) {f size : Int} (hs : size ≤ 9223372036854775807) {R : Nat} (hR : 4000000 < R) :
    ∃ h' out, Rd h' out (dec bs f size).out ∧ Keep h h' [] ∧ ((dec bs f size).err = 0 → (((dec bs f size).out.length : Nat) : Int) = size ∧ 2 * (dec bs f size).n ≤ 8 * bs.length ∧ 1 ≤ f ∧ f ≤ 4) ∧ ((dec bs f size).err ≠ 0 → (dec bs f size).out = [] ∧ (dec bs f size).n = 0) ∧
      ∀ (β : Type) (K : Sl → Int → Int → GH → Option β), F_reduce_Decode R a f size h K = K out ((dec bs f size).n : Nat) (dec bs f size).err h' := by
  have hn := r.n
  cases hnew : newR f size with
  | false =>
    have hd : dec bs f size = ⟨2, 0, []⟩ := by rw [dec, if_pos hnew]
    rw [hd]
    refine ⟨h, ⟨none, 0, 0⟩, Row.nil, .refl _ _, fun q => by simp at q, fun _ => ⟨rfl, rfl⟩, fun β K => ?_⟩
    unfold F_reduce_Decode
    rw [F_reduce_Decode_gen, (new_not hnew _ _).1]
    rfl
  | true =>
    have hq := of_decide_eq_true hnew
    obtain ⟨h1, m, g, e1, M1, k1, n1⟩ := new_own (R := R) hnew h
    by_cases c0 : size = 0
    · subst c0
      by_cases c1 : 0 < bs.length
      · have hd : dec bs f 0 = ⟨5, 0, []⟩ := by rw [dec, hnew, if_neg (by decide), if_pos rfl, if_pos c1]
        rw [hd]
        refine ⟨h1, ⟨none, 0, 0⟩, Row.nil, k1, fun q => by simp at q, fun _ => ⟨rfl, rfl⟩, fun β K => ?_⟩
        unfold F_reduce_Decode
        rw [F_reduce_Decode_gen, e1, bne_self_eq_false, condF, beq_self_eq_true, condT, decT (by omega), condT]
        rfl
      · have hd : dec bs f 0 = ⟨0, 0, []⟩ := by rw [dec, hnew, if_neg (by decide), if_pos rfl, if_neg c1]
        rw [hd]
        refine ⟨h1, ⟨none, 0, 0⟩, Row.nil, k1, fun _ => ⟨rfl, by simp, hq.1, hq.2.1⟩, fun q => absurd rfl q, fun β K => ?_⟩
        unfold F_reduce_Decode
        rw [F_reduce_Decode_gen, e1, bne_self_eq_false, condF, beq_self_eq_true, condT, decF (by omega), condF]
        rfl
    · have b1 := k1.1
      have lM := M1.lt
      obtain ⟨h2, gr, rb, r2, k2, n2, nr2, e2⟩ := open_eq (r.keep k1 (by simp)) hb (by omega) R
      have b2 := k2.1
      obtain ⟨lgr, lrb, _⟩ := r2.lt
      obtain ⟨h3, ss, sv3, r3, k3, hrows, e3⟩ := getsets_eq r2 hR
      have b3 := k3.1
      have hslen : (ss.map slV).length = 256 := by rw [List.length_map]; exact sv3.len
      have hn256 : (nil256.map slV).length = 256 := by rw [List.length_map, nil256, List.length_replicate]
      have kp := keep_push h3 (.row ⟨nil256.map slV, 0, false⟩) []
      have k4 := kp.trans (keep_put _ h3.next (some (.row ⟨ss.map slV, 0, false⟩))) (fun x hx => .inr (by simp at hx; omega))
      obtain ⟨h4, eh4⟩ : ∃ h4, h4 = (h3.push (.row ⟨nil256.map slV, 0, false⟩)).put h3.next (some (.row ⟨ss.map slV, 0, false⟩)) := ⟨_, rfl⟩
      rw [← eh4] at k4
      have l4 : h4.look h3.next = some (.row ⟨ss.map slV, 0, false⟩) := by rw [eh4]; exact look_put_same (by simp [next_push])
      have k04 : Keep h h4 [] := ((k1.trans k2 (by simp)).trans k3 (fun x hx => .inr (by simp at hx; omega))).trans k4 (by simp)
      have start : ∀ (β : Type) (K : Sl → Int → Int → GH → Option β), F_reduce_Decode R a f size h K = (bif (gotS bs).err != 0 then K ⟨none, 0, 0⟩ 0 (gotS bs).err h4 else F_reduce_Decode_l0 (F_dle_New R) (F_bitio_Open R) (F_follow_GetSets R) (F_dle_Machine_Full R) (F_follow_Get R) (F_dle_Machine_Feed R) (F_bitio_Reader_Left R) (F_dle_Machine_Bytes R) R R (some ⟨m, 0, none⟩) (some ⟨gr, 0, none⟩) (some ⟨h3.next, 0, none⟩) 0 0 h4 (fun w36 w37 w38 h39 => F_bitio_Reader_Left R w37 h39 fun r40 h41 => (bif decide (r40 ≥ 8) then K ⟨none, 0, 0⟩ 0 5 h41 else F_dle_Machine_Bytes R w36 h41 fun r42 h43 => K r42 w38 0 h43)) (fun w44 w45 w46 h47 => K w44 w45 w46 h47)) := by
        intro β K
        unfold F_reduce_Decode
        rw [F_reduce_Decode_gen, e1, bne_self_eq_false, condF, beq_int, decF c0, condF, e2, e3, Zs_eq, gnew_eq (allCells_slV _), hslen, beq_t, condT, gput_eq look_push_new (allCells_slV _) (by rw [hslen, hn256]; omega), nlay_all _ _ (by rw [hslen, hn256]), ← eh4]
      by_cases cE : (gotS bs).err = 0
      · have hd : dec bs f size = decL bs f size (gotS bs).L (8 * bs.length + 1) 0 0 (gotS bs).p (gotS bs).e 0 0 0 [] := by
          rw [dec, hnew, if_neg (by decide), if_neg c0, if_neg (by simpa using cE)]
        obtain ⟨h5, out, v5, k5, a5, b5, e5⟩ := dec_loop hlen (f := f) (size := size) (rb := rb) (gr := gr) (gs := h3.next) (m := m) (g := g) (ss := ss) (L := (gotS bs).L) (by omega) (fun c hc x hx => by have := hrows c hc x hx; omega) hR (8 * bs.length + 1) R 0 0 (gotS bs).p (gotS bs).e 0 0 0 ⟨none, 0, 0⟩ [] h4 (by omega) (by omega) (by omega) (by omega) (getS_e bs 256 0 _ cE)
          (r3.keep k4 (by simp) (by simp)) (sv3.keep k4 (by simp)) l4 (((M1.keep k2 (by simp)).keep k3 (fun x hx => by have := lM x hx; simp; omega)).keep k4 (by simp))
          ⟨⟨hq.1, hq.2.1⟩, ⟨hq.2.2, hs⟩, .inl rfl, by omega, by omega, by omega, by simp; exact hq.2.2, by simp⟩
          (fun x hx => by
            have := lM x hx
            exact ⟨by omega, by omega, fun t => by have := nr2 x t; omega, fun c hc t => by have := hrows c hc x t; omega⟩)
        rw [hd]
        refine ⟨h5, out, v5, k04.trans k5 (fun x hx => ?_), fun q => ⟨(a5 q).1, (a5 q).2, hq.1, hq.2.1⟩, b5, fun β K => ?_⟩
        · rcases List.mem_cons.1 hx with q | q
          · exact .inr (by omega)
          · exact .inr (n1 x q)
        · rw [start, cE, bne_self_eq_false, condF]
          exact e5 β K (F_dle_New R) (F_bitio_Open R) (F_follow_GetSets R) (F_bitio_Reader_Left R) (F_dle_Machine_Bytes R)
      · have hd : dec bs f size = ⟨(gotS bs).err, 0, []⟩ := by
          rw [dec, hnew, if_neg (by decide), if_neg c0, if_pos cE]
        rw [hd]
        refine ⟨h4, ⟨none, 0, 0⟩, Row.nil, k04, fun q => absurd q cE, fun _ => ⟨rfl, rfl⟩, fun β K => ?_⟩
        rw [start, bne_iff_ne.2 cE, condT]
        rfl
end Go.Proofs.Ytdmemmpkkibckaa.Gx

