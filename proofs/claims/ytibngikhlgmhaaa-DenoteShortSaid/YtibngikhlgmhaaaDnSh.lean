/- DenoteShort: it answers true. No condition. -/
import Derived.Test.YtibngikhlgmhaaaDnR
import Derived.Test.YtibngikhlgmhaaaDnSt
namespace Go.Proofs.Ytibngikhlgmhaaa.Gx
open Go Go.RowKit
set_option linter.unusedVariables false
set_option linter.unusedSimpArgs false
theorem findE_ok {bs : List Int} (h : 0 ≤ findE bs) : findE bs + 22 ≤ (bs.length : Nat) := by
  have := (lastEnd_is bs _ h).1
  have e : lastEnd bs (bs.length - 21) = findE bs := rfl
  rw [e] at this
  omega
theorem joinP_pos {l : List It} {cm : List Int} (h : (joinP l cm).1 = 0) : 22 ≤ (joinP l cm).2.length := by
  unfold joinP at h ⊢
  split at h
  · cases h
  · rename_i c
    rw [if_neg c]
    cases hj : jn l [] [] with
    | none => rw [hj] at h; cases h
    | some r =>
      rw [hj] at h
      simp only [jnE] at h ⊢
      cases hz : endW (enJ l.length r.2.length r.1.length cm) with
      | none => rw [hz] at h; cases h
      | some z =>
        rw [hz] at h
        simp only [] at h ⊢
        by_cases cf : findE (r.1 ++ r.2 ++ z) = ((r.1.length + r.2.length : Nat) : Int)
        · rw [if_pos cf]
          have := findE_ok (bs := r.1 ++ r.2 ++ z) (by rw [cf]; omega)
          show 22 ≤ (r.1 ++ r.2 ++ z).length
          omega
        · rw [if_neg cf] at h; cases h
/-- the law behind the cut: bs is what is left -/
theorem short_back {h : GH} {q : Sl} {bs : List Int} (rq : Rd h q bs) (h8 : B8 bs) (hm : bs.length ≤ 3000) {R : Nat} (hR : 4000000 < R) :
    ∃ h', ∀ (β : Type) (K : Bool → GH → Option β) (m : Nat) (b : Bool), m = bs.length → (F_denote_Scan R q h fun r19 r20 r21 h22 => (bif r21 != 0 then (bif (IntKind.wrap .i64 (((r19.n : Nat) : Int) + ((r20.n : Nat) : Int))) == 0 then F_law26_lives h22 fun r23 h24 => K r23 h24 else K false h22) else F_denote_Join R r19 r20 h22 fun r25 r26 h27 => F_record_FindEnd R q h27 fun r28 h29 => (bif r26 == 0 then F_ref01_Same R q r25 h29 fun r30 h31 => (bif r30 then (bif decide (r28 ≥ 0) then (bif b then F_law26_lives h31 fun r32 h33 => K r32 h33 else (bif decide ((IntKind.wrap .i64 (r28 + 22)) ≤ ((m : Nat) : Int)) then F_law26_lives h31 fun r34 h35 => K r34 h35 else K false h31)) else K false h31) else K false h31) else K false h29))) = K true h' := by
  obtain ⟨h2, k2, ok, no⟩ := scan_again rq h8 hm hR
  by_cases c : (scanP bs).err = 0
  · obtain ⟨y, cm, h3, d, k3, v3, hf, e3, e4⟩ := ok c
    have r3 := (rq.keep k2 (by simp)).keep k3 (by simp)
    have es := fun β K => rsameD (β := β) r3 v3.row (by omega) hR K
    have ef := fun β K => find_end r3 h8 (by omega) hR (β := β) K
    have hfo := findE_ok hf
    refine ⟨h3, fun β K m b em => ?_⟩
    subst em
    rw [e3, bne_self_eq_false, condF, e4, ef, beq_self_eq_true, condT, es, decT rfl, condT, decT hf, condT]
    cases b
    · rw [condF, i64w (by omega), decT hfo, condT, lives26']
    · rw [condT, lives26']
  · have e3 := no c
    refine ⟨h2, fun β K m b em => ?_⟩
    rw [e3, bne_iff_ne.2 c, condT, show (IntKind.wrap .i64 (((0 : Nat) : Int) + ((0 : Nat) : Int)) == 0) = true by rw [i64w (by omega)]; rfl, condT, lives26']
theorem within_eq26 {h : GH} {a : Int} {m : Nat} (hm : 1 ≤ m) (R : Nat) : ∃ n : Nat, 1 ≤ n ∧ n ≤ m ∧ ∀ (β : Type) (K : Int → GH → Option β), F_ref01_Within R a 1 ((m : Nat) : Int) h K = K ((n : Nat) : Int) h := by
  by_cases c1 : a < 1
  · refine ⟨1, Nat.le_refl _, hm, fun β K => ?_⟩
    unfold F_ref01_Within
    rw [F_ref01_Within_gen, decT c1, condT]; rfl
  · by_cases c2 : a > ((m : Nat) : Int)
    · refine ⟨m, hm, Nat.le_refl _, fun β K => ?_⟩
      unfold F_ref01_Within
      rw [F_ref01_Within_gen, decF c1, condF, decT c2, condT]
    · refine ⟨a.toNat, by omega, by omega, fun β K => ?_⟩
      unfold F_ref01_Within
      rw [F_ref01_Within_gen, decF c1, condF, decF c2, condF, Int.toNat_of_nonneg (by omega)]
/-- how long records are -/
def OLn (st : Option (List Int)) (n : Nat) : Prop := ∀ ys, st = some ys → ys.length = n
theorem OLn.u16 {st : Option (List Int)} {n : Nat} (h : OLn st n) (x : Int) : OLn (u16W st x) (n + 2) := by
  intro ys hy
  cases st with
  | none => cases hy
  | some zs =>
    rw [u16W_some] at hy
    split at hy
    · cases hy; rw [List.length_append, numI_len, h zs rfl]
    · cases hy
theorem OLn.u32 {st : Option (List Int)} {n : Nat} (h : OLn st n) (x : Int) : OLn (u32W st x) (n + 4) := by
  intro ys hy
  cases st with
  | none => cases hy
  | some zs => cases hy; rw [List.length_append, numI_len, h zs rfl]
theorem OLn.put {st : Option (List Int)} {n : Nat} (h : OLn st n) (bs : List Int) : OLn (putW st bs) (n + bs.length) := by
  intro ys hy
  cases st with
  | none => cases hy
  | some zs => cases hy; rw [List.length_append, h zs rfl]
theorem OLn.nil : OLn (some []) 0 := fun ys hy => by cases hy; rfl
theorem OLn.com {st : Option (List Int)} {n : Nat} (h : OLn st n) (a1 a2 a3 a4 a5 a6 a7 a8 : Int) (ln le : Nat) : OLn (comW st a1 a2 a3 a4 a5 a6 a7 a8 ln le) (n + 26) :=
  (((((((((h.u16 _).u16 _).u16 _).u16 _).u16 _).u32 _).u32 _).u32 _).u16 _).u16 _
theorem locW_len {x : Hd} {a : List Int} (h : locW x = some a) : a.length = 30 + x.nm.length + x.ex.length := by
  have := (((OLn.nil.u32 67324752).com x.a1 x.a2 x.a3 x.a4 x.a5 x.a6 x.a7 x.a8 x.nm.length x.ex.length).put x.nm).put x.ex a h
  omega
theorem cenW_len {x : Cn} {a : List Int} (h : cenW x = some a) : a.length = 46 + x.nm.length + x.ex.length + x.cm.length := by
  have := ((((((((((OLn.nil.u32 33639248).u16 x.a11).com x.a1 x.a2 x.a3 x.a4 x.a5 x.a6 x.a7 x.a8 x.nm.length x.ex.length).u16 (x.cm.length : Nat)).u16 x.a12).u16 x.a13).u32 x.a14).u32 x.a15).put x.nm).put x.ex).put x.cm a h
  omega
theorem endW_len {x : En} {a : List Int} (h : endW x = some a) : a.length = 22 + x.cm.length := by
  have := ((((((((OLn.nil.u32 101010256).u16 x.b1).u16 x.b2).u16 x.b3).u16 x.b4).u32 x.b5).u32 x.b6).u16 (x.cm.length : Nat)).put x.cm a h
  omega
theorem jn_len : ∀ (l : List It) {o t : List Int}, (∀ x ∈ l, Cs x) → ∀ r, jn l o t = some r → r.1.length ≤ o.length + l.length * 450 ∧ r.2.length ≤ t.length + l.length * 226
  | [], o, t, hs, r, hr => by
    rw [jn_nil] at hr
    cases hr
    simp
  | x :: l, o, t, hs, r, hr => by
    have s := hs x (.head _)
    obtain ⟨s1, s2, s3, s4, s5⟩ := s
    rw [jn_cons] at hr
    cases ha : locW (hdJ x) with
    | none => rw [jn1_no (.inl ha)] at hr; cases hr
    | some a =>
      cases hb : cenW (cnJ x o.length) with
      | none => rw [jn1_no (.inr hb)] at hr; cases hr
      | some b =>
        rw [jn1_some ha hb, Option.bind_some] at hr
        have ih := jn_len l (fun z hz => hs z (.tail _ hz)) r hr
        have la : a.length = 30 + x.c.nm.length + x.ex.length := locW_len (x := hdJ x) ha
        have lb : b.length = 46 + x.c.nm.length + x.c.ex.length + x.c.cm.length := cenW_len (x := cnJ x o.length) hb
        simp only [List.length_append, List.length_cons] at ih ⊢
        omega
theorem joinP_len {l : List It} {cm : List Int} (hs : ∀ x ∈ l, Cs x) (hc : cm.length ≤ 60) : (joinP l cm).2.length ≤ l.length * 676 + 82 := by
  unfold joinP
  split
  · simp
  · cases hj : jn l [] [] with
    | none => simp [jnE]
    | some r =>
      have hl := jn_len l hs r hj
      simp only [List.length_nil] at hl
      simp only [jnE]
      cases hz : endW (enJ l.length r.2.length r.1.length cm) with
      | none => simp
      | some z =>
        have lz : z.length = 22 + cm.length := endW_len hz
        simp only []
        split
        · simp only [List.length_append]; omega
        · simp
theorem short_true {h : GH} {y c : Sl} {l : List ItR} {cm : List Int} (r : Row h y 18 (itCells l)) (hi : ∀ x ∈ l, InIt h x) (rc : Rd h c cm) (hc8 : B8 cm) (n : Int) (b : Bool) {R : Nat} (hR : 4000000 < R) : ∃ h', ∀ (β : Type) (K : Bool → GH → Option β), F_law26_DenoteShort R y c n b h K = K true h' := by
  obtain ⟨h1, y1, l1, q, h2, y2, i1, sm, ll, k1, k2, rq, b8c, lc, i2, e1, e2, e3⟩ := law_start r hi rc hc8 (n := 4) (by omega) hR
  obtain ⟨h3, d, k3, n3, ok3, no3, b3, e4⟩ := join_prog i2 (rq.keep k2 (by simp)) b8c (by omega) (fun x hx => (sm x hx).1) (by omega) hR
  rw [show ((4 : Nat) : Int) = 4 from rfl] at e1
  rw [show ((60 : Nat) : Int) = 60 from rfl] at e2
  have hpos := @joinP_pos (l1.map ItR.it) (cm.take 60)
  have hlen := joinP_len (l := l1.map ItR.it) (cm := cm.take 60) (fun x hx => by obtain ⟨z, hz, rfl⟩ := List.mem_map.1 hx; exact (sm z hz).2.2) lc
  rw [List.length_map] at hlen
  obtain ⟨J, hJ⟩ : ∃ J, J = joinP (l1.map ItR.it) (cm.take 60) := ⟨_, rfl⟩
  rw [← hJ] at ok3 no3 b3 e4 hpos hlen
  by_cases cJ : J.1 = 0
  · have v := (ok3 cJ).1
    have hp := hpos cJ
    have hdn := v.n
    have hdc := v.c
    obtain ⟨k, kl, ku, ew⟩ := within_eq26 (h := h3) (a := n) (m := d.n) (by omega) R
    cases b with
    | true =>
      have rk := v.row.cut (lo := k) (hi := d.n) (mx := d.c) ku (by omega) (by omega) (Nat.le_refl _)
      obtain ⟨h', e'⟩ := short_back rk (fun x hx => b3 x (List.mem_of_mem_drop (List.mem_of_mem_take hx))) (by simp; omega) hR
      refine ⟨h', fun β K => ?_⟩
      unfold F_law26_DenoteShort
      rw [F_law26_DenoteShort_gen, e1, e2, e3, e4, cJ, bne_self_eq_false, condF, ew, condT, bnd_t (by omega) (by omega), Int.toNat_natCast]
      exact e' β K (d.n - k) true (by simp; omega)
    | false =>
      have rk := v.row.cut (lo := 0) (hi := d.n - k) (mx := d.c) (by omega) (by omega) (by omega) (Nat.le_refl _)
      obtain ⟨h', e'⟩ := short_back rk (fun x hx => b3 x (List.mem_of_mem_drop (List.mem_of_mem_take hx))) (by simp; omega) hR
      refine ⟨h', fun β K => ?_⟩
      unfold F_law26_DenoteShort
      rw [F_law26_DenoteShort_gen, e1, e2, e3, e4, cJ, bne_self_eq_false, condF, ew, condF, show IntKind.wrap .i64 (((d.n : Nat) : Int) - ((k : Nat) : Int)) = ((d.n - k : Nat) : Int) by rw [i64w (by omega)]; omega, bnd_t (by omega) (by omega), Int.toNat_natCast]
      exact e' β K (d.n - k - 0) false (by simp; omega)
  · refine ⟨h3, fun β K => ?_⟩
    unfold F_law26_DenoteShort
    rw [F_law26_DenoteShort_gen, e1, e2, e3, e4, bne_iff_ne.2 cJ, condT, lives26']
theorem short_any {W : World} {a c : Option Addr} {len cap clen ccap : Nat} {l : List RI} {zs : List Int} (ri : RIs W a len cap l) (hr : IsRow .u8 W c clen ccap zs) (n : Int) (b : Bool) : Calls Try.prog 7 #[.slice a len cap, .slice c clen ccap, .int .i64 n, .bool b] W fun e W' => e = .returned (.bool true) ∧ Below W.heap.size W W' := by
  let L : List Ar := ⟨a, len, cap, 18, itCells (itrs l 2)⟩ :: ⟨c, clen, ccap, 1, u8s (zs.take clen)⟩ :: riArs l
  have s : Stand L l 2 := fun k x hx => by rw [Nat.add_comm]; exact hx
  have o0 := ar_items ri s
  have o1 := ar_bytes hr (arInj L)
  have ok : ∀ x ∈ L, ArOk (arInj L) W x := fun x hx => by
    rcases List.mem_cons.1 hx with rfl | hx
    · exact o0
    · rcases List.mem_cons.1 hx with rfl | hx
      · exact o1
      · exact riArs_ok l ri.ok x hx
  obtain ⟨h', e⟩ := short_true (ar_row (l := L) (g := 0) rfl o0) (in_items s ri.ok) (ar_row (l := L) (g := 1) rfl o1) (IsRow.b8 hr) n b (R := rounds) (by unfold rounds; omega)
  obtain ⟨v, h1, hk, hc⟩ := F_law26_DenoteShort_sim (β := Value × GH) (r := (.bool true, h')) (K := fun v h => some (v, h)) (e _ _)
  cases hk
  exact ar_calls ok hc (.cons (ar_vr (l := L) (g := 0) rfl o0) (.cons (ar_vr (l := L) (g := 1) rfl o1) (.cons (.same _ rfl) (.cons (.same _ rfl) .nil))))
end Go.Proofs.Ytibngikhlgmhaaa.Gx

