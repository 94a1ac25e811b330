/- DleBack: it answers true, whatever came in. No condition. -/
import Derived.Test.YtplkdjbcdeakaaaMcF
import Derived.Test.YtplkdjbcdeakaaaFndC
import Derived.Test.YtplkdjbcdeakaaaCutR
namespace Go.Proofs.Ytplkdjbcdeakaaa.Gx
open Go Go.RowKit Fd
set_option linter.unusedVariables false
set_option linter.unusedSimpArgs false
theorem plainS_b8 {ps : List Int} (h : B8 ps) : B8 (plainS ps) := by
  intro c hc
  obtain ⟨p, hp, hc⟩ := List.mem_flatMap.1 hc
  have := h p hp
  unfold plainB at hc
  split at hc
  · simp at hc; omega
  · simp at hc; omega
theorem encL_b8 {f : Int} {low : Nat} (hf : FL f low) {bs : List Int} (hb : B8 bs) : ∀ (ts : List Tok) (i : Nat), Til bs 3 ((low - 1 + 258 : Nat) : Int) (256 * 2 ^ f.toNat) ts i → B8 (encL low bs ts i)
  | [], i, h => by intro c hc; simp [encL] at hc
  | t :: ts, i, h => by
    obtain ⟨hi, hcase⟩ := h
    have sub : ∀ st, B8 (plainS ((bs.drop i).take st)) := fun st => plainS_b8 (fun c hc => hb c (List.mem_of_mem_drop (List.mem_of_mem_take hc)))
    intro c hc
    rw [encL] at hc
    rcases hcase with ⟨e0, hT3⟩ | ⟨d, m, e0, hm3, hmx, hd1, hdi, hdw, him, hsame, hT3⟩
    · have ih := encL_b8 hf hb ts (i + 1) hT3
      rcases List.mem_append.1 hc with hc | hc
      · rw [encT, e0] at hc
        simp only [if_true] at hc
        exact sub 1 c hc
      · unfold Fd.stepT at hc
        rw [e0] at hc
        simp only [if_true] at hc
        exact ih c hc
    · have ih := encL_b8 hf hb ts (i + m) hT3
      rcases List.mem_append.1 hc with hc | hc
      · rw [encT, e0] at hc
        simp only [Int.toNat_natCast] at hc
        rw [if_neg (by omega)] at hc
        split at hc
        · exact sub m c hc
        · have hv := vOf_le (n := m) hf hd1 hdw
          have hlow := (shl_256 hf).2.2.2.2
          unfold encC at hc
          split at hc <;> simp at hc <;> omega
      · unfold Fd.stepT at hc
        rw [e0] at hc
        simp only [Int.toNat_natCast] at hc
        rw [if_neg (by omega)] at hc
        exact ih c hc
theorem Buf.row {h : GH} {s : Sl} {bs : List Int} (b : Buf h s bs) : Rd h s bs := by
  refine ⟨by rw [u8s_length, b.n, Nat.mul_one], by rw [b.n, b.c]; exact Nat.le_refl _, ?_⟩
  rcases b.at_ with ⟨h1, h2⟩ | ⟨r, h1, h2⟩
  · exact .inl ⟨h1, by rw [b.n, h2]; rfl, by rw [b.c, h2]; rfl⟩
  · exact .inr ⟨r, 0, _, h1, h2, by simp, by simp⟩
theorem same_loopR {h : GH} {a b : Sl} {bs : List Int} (ra : Rd h a bs) (rb : Rd h b bs) (hm : bs.length < 274877906944) (R : Nat) {β : Type} : ∀ (k n i : Nat), i + k = bs.length → k < n → ∀ (K0 : GH → Option β) (Kr : Bool → GH → Option β), F_ref01_Same_l0 R n a b (i : Nat) h K0 Kr = K0 h
  | 0, n, i, hi, hn, K0, Kr => by
    obtain ⟨n, rfl⟩ : ∃ k, n = k + 1 := ⟨n - 1, by omega⟩
    rw [F_ref01_Same_l0_succ, decF (by rw [ra.n]; omega), condF]
  | k + 1, n, i, hi, hn, K0, Kr => by
    obtain ⟨n, rfl⟩ : ∃ k, n = k + 1 := ⟨n - 1, by omega⟩
    rw [F_ref01_Same_l0_succ, decT (by rw [ra.n]; omega), condT, ra.byte (by omega) (by omega), rb.byte (by omega) (by omega)]
    rw [bne_self_eq_false, condF, i64w (by omega), show ((i : Nat) : Int) + 1 = ((i + 1 : Nat) : Int) by omega]
    exact same_loopR ra rb hm R k n (i + 1) (by omega) (by omega) K0 Kr
theorem same_R {h : GH} {a b : Sl} {bs : List Int} (ra : Rd h a bs) (rb : Rd h b bs) {R : Nat} (hR : bs.length < R) (hm : bs.length < 274877906944) {β : Type} (K : Bool → GH → Option β) : F_ref01_Same R a b h K = K true h := by
  unfold F_ref01_Same; rw [F_ref01_Same_gen, ra.n, rb.n, bne_self_eq_false, condF]
  exact same_loopR ra rb hm R bs.length R 0 (by omega) hR _ _
theorem back_loop {f size : Int} {y q : Sl} {zs : List Int} (hz : B8 zs) (hzl : zs.length ≤ 1000000) {R : Nat} (hR : 1000000 < R) {m g m' g' : Nat} {S2 V2 N2 : Int} {bs2 : List Int} :
    ∀ (cs : List Int) (k n : Nat) {h : GH} {S V N : Int} {s s' : Sl} {bs : List Int}, zs.drop k = cs → k ≤ zs.length → cs.length < n → Rd h y zs → Mach h m g f size S V N s bs → Mach h m' g' f size S V N s' bs → (∀ k ∈ ownM m g s, k ∉ ownM m' g' s') → (∀ x ∈ rowsOf y, x ∉ ownM m g s ∧ x ∉ ownM m' g' s') → Ok f size S V N bs → runF f size cs S V N bs = some (S2, V2, N2, bs2) →
    ∃ h' s2 s2', Mach h' m g f size S2 V2 N2 s2 bs2 ∧ Mach h' m' g' f size S2 V2 N2 s2' bs2 ∧ (∀ k ∈ ownM m g s2, k ∉ ownM m' g' s2') ∧ Keep h h' (ownM m g s ++ ownM m' g' s') ∧ ∀ (β : Type) (K0 : Sl → Option Addr → Option Addr → GH → Option β) (Kr : Bool → GH → Option β) (F1 : Sl → Int → GH → (Sl → GH → Option β) → Option β) (F2 : Int → Int → Int → GH → (Int → GH → Option β) → Option β) (F3 : Sl → Int → GH → (Sl → Int → GH → Option β) → Option β) (F4 F5 : Int → Int → GH → (Option Addr → Int → GH → Option β) → Option β) (F9 : Option Addr → GH → (Bool → GH → Option β) → Option β) (F10 : Option Addr → GH → (Sl → GH → Option β) → Option β) (F11 : Sl → Sl → GH → (Bool → GH → Option β) → Option β) (F12 : GH → (Bool → GH → Option β) → Option β),
      F_law13_DleBack_l0 F1 F2 F3 F4 F5 (F_dle_Machine_Full R) (F_dle_Machine_Feed R) (F_ref13_Machine_Feed R) F9 F10 F11 F12 R n q y (some ⟨m, 0, none⟩) (some ⟨m', 0, none⟩) (k : Nat) h K0 Kr = K0 q (some ⟨m, 0, none⟩) (some ⟨m', 0, none⟩) h'
  | [], k, n, h, S, V, N, s, s', bs, hd, hk, hn, r, M1, M2, hdis, hry, o, hrun => by
    obtain ⟨n, rfl⟩ : ∃ k, n = k + 1 := ⟨n - 1, by omega⟩
    have hkl : k = zs.length := by
      have := congrArg List.length hd
      simp at this; omega
    simp only [runF, Option.some.injEq, Prod.mk.injEq] at hrun
    obtain ⟨rfl, rfl, rfl, rfl⟩ := hrun
    refine ⟨h, s, s', M1, M2, hdis, .refl _ _, fun β K0 Kr F1 F2 F3 F4 F5 F9 F10 F11 F12 => ?_⟩
    rw [F_law13_DleBack_l0_succ, decF (by rw [r.n]; omega), condF]
  | c :: cs, k, n, h, S, V, N, s, s', bs, hd, hk, hn, r, M1, M2, hdis, hry, o, hrun => by
    obtain ⟨n, rfl⟩ : ∃ k, n = k + 1 := ⟨n - 1, by omega⟩
    have hkl : k < zs.length := by
      have := congrArg List.length hd
      simp at this; omega
    rw [List.drop_eq_getElem_cons hkl] at hd
    obtain ⟨hc0, hd2⟩ := List.cons.inj hd
    have hcb : 0 ≤ c ∧ c ≤ 255 := by rw [← hc0]; exact hz _ (List.getElem_mem hkl)
    have hget : zs.getD k 0 = c := by rw [List.getD_eq_getElem?_getD, List.getElem?_eq_getElem hkl, ← hc0]; rfl
    rw [runF] at hrun
    have hfull : fullB S size bs = false := by
      cases hq : fullB S size bs with
      | false => rfl
      | true => rw [hq, if_pos rfl] at hrun; cases hrun
    rw [hfull, if_neg (by decide)] at hrun
    have he : (feedR f size S V N bs c).e = 0 := by
      by_cases hq : (feedR f size S V N bs c).e = 0
      · exact hq
      · rw [if_neg hq] at hrun; cases hrun
    rw [if_pos he] at hrun
    obtain ⟨h1, s1, e1, A1, k1, n1⟩ := feed_both (R := R) true M1 o (by omega) hcb
    have e1 : ∀ (β : Type) (K : Int → GH → Option β), F_dle_Machine_Feed R (some ⟨m, 0, none⟩) c h K = K 0 h1 := fun β K => by have := (condT _ _).symm.trans (e1 β K); rwa [he] at this
    have B1 := M2.keep k1 fun x hx hm => hdis x hm hx
    have r1 := r.keep k1 fun x hx => (hry x hx).1
    obtain ⟨h2, s2, e2, B2, k2, n2⟩ := feed_both (R := R) false B1 o (by omega) hcb
    have e2 : ∀ (β : Type) (K : Int → GH → Option β), F_ref13_Machine_Feed R (some ⟨m', 0, none⟩) c h1 K = K 0 h2 := fun β K => by have := (condF _ _).symm.trans (e2 β K); rwa [he] at this
    have d1 : ∀ x ∈ ownM m g s1, x ∉ ownM m' g' s' := fun x hx hm => by
      rcases n1 x hx with h' | h'
      · exact hdis x h' hm
      · exact absurd (M2.lt x hm) (by omega)
    have A2 := A1.keep k2 d1
    have d2 : ∀ x ∈ ownM m g s1, x ∉ ownM m' g' s2 := fun x hx hm => by
      rcases n2 x hm with h' | h'
      · exact d1 x hx h'
      · exact absurd (A1.lt x hx) (by omega)
    have r2 := r1.keep k2 fun x hx => (hry x hx).2
    have hk1 := k1.1
    have hry2 : ∀ x ∈ rowsOf y, x ∉ ownM m g s1 ∧ x ∉ ownM m' g' s2 := fun x hx => by
      have hlt := r.lt x hx
      refine ⟨fun hm => ?_, fun hm => ?_⟩
      · rcases n1 x hm with t | t
        · exact (hry x hx).1 t
        · omega
      · rcases n2 x hm with t | t
        · exact (hry x hx).2 t
        · omega
    obtain ⟨h3, s3, s3', A3, B3, d3, k3, e3⟩ := back_loop hz hzl hR (y := y) (q := q) cs (k + 1) n hd2 (by omega) (by simp only [List.length_cons] at hn; omega) r2 A2 B2 d2 hry2 (o.next hcb) hrun
    refine ⟨h3, s3, s3', A3, B3, d3, ((k1.mono (o1 := ownM m g s ++ ownM m' g' s') (fun x hx => by simp [hx])).trans k2 (fun x hx => .inl (by simp [hx]))).trans k3 (fun x hx => ?_), fun β K0 Kr F1 F2 F3 F4 F5 F9 F10 F11 F12 => ?_⟩
    · rcases List.mem_append.1 hx with hx | hx
      · rcases n1 x hx with t | t
        · exact .inl (by simp [t])
        · exact .inr t
      · rcases n2 x hx with t | t
        · exact .inl (by simp [t])
        · exact .inr (by omega)
    · have q1 := fun K => r.byte (β := β) (i := ((k : Nat) : Int)) (by omega) (by omega) K
      have q2 := fun K => r1.byte (β := β) (i := ((k : Nat) : Int)) (by omega) (by omega) K
      rw [F_law13_DleBack_l0_succ, decT (by rw [r.n]; omega), condT, dle_Machine_Full_mach M1, hfull, condF, q1, Int.toNat_natCast, hget, e1, bne_self_eq_false, condF]
      rw [Int.toNat_natCast] at q2
      rw [q2, hget, e2, bne_self_eq_false, condF, i64w (by omega), show ((k : Nat) : Int) + 1 = ((k + 1 : Nat) : Int) by omega]
      exact e3 β K0 Kr F1 F2 F3 F4 F5 F9 F10 F11 F12
theorem lives13 {β : Type} (h : GH) (K : Bool → GH → Option β) : F_law13_lives h K = K true h := rfl
def w14 (f : Int) : Int := if f < 1 then 1 else if f > 4 then 4 else f
theorem within_14 (R : Nat) (f : Int) {β : Type} (h : GH) (K : Int → GH → Option β) : F_ref01_Within R f 1 4 h K = K (w14 f) h := by
  unfold F_ref01_Within w14; rw [F_ref01_Within_gen]; simp only [cond_dec]
  (repeat' split) <;> rfl
theorem back_true {h : GH} {b0 : Sl} {zs : List Int} (r : Rd h b0 zs) (hb : B8 zs) (f0 : Int) {R : Nat} (hR : 4000000 < R) : ∃ h', ∀ (β : Type) (K : Bool → GH → Option β), F_law13_DleBack R b0 f0 h K = K true h' := by
  obtain ⟨q, rq, nq, e1⟩ := ref_cut r R 2000
  obtain ⟨bs, hbs⟩ : ∃ bs, bs = zs.take 2000 := ⟨_, rfl⟩
  rw [← hbs] at rq
  have hb2 : B8 bs := fun x hx => hb x (by rw [hbs] at hx; exact List.mem_of_mem_take hx)
  have hm : bs.length ≤ 2000 := by rw [hbs]; simp; omega
  have hf14 : 1 ≤ w14 f0 ∧ w14 f0 ≤ 4 := by unfold w14; (repeat' split) <;> omega
  generalize hf : w14 f0 = f at hf14
  obtain ⟨low, hFL⟩ := FL_get hf14.1 hf14.2
  have htil : Til bs 3 ((low - 1 + 258 : Nat) : Int) (256 * 2 ^ f.toNat) (toks f low bs) 0 := findSpec_til (.inr rfl) (by have := (shl_256 hFL).2.2.2.2; omega)
  have hlen := encL_len2 bs low (toks f low bs) 0 htil
  obtain ⟨h1, out, v1, k1, n1, e2⟩ := encode_eq rq hFL (by omega) (R := R) (by omega)
  have hz8 := encL_b8 hFL hb2 (toks f low bs) 0 htil
  obtain ⟨V', N', hrun⟩ := enc_run hFL bs (toks f low bs) 0 0 0 htil
  rw [List.take_zero] at hrun
  generalize hzz : encL low bs (toks f low bs) 0 = cs at *
  have hn : newR f bs.length = true := decide_eq_true ⟨hf14.1, hf14.2, by omega⟩
  obtain ⟨h2, m, g, e3, M1, k2, n2⟩ := new_own (R := R) hn h1
  obtain ⟨h3, m', g', e4, M2, k3, n3⟩ := new_ref (R := R) hn h2
  have M1' := M1.keep k3 (by simp)
  have r3 := (v1.row.keep k2 (by simp)).keep k3 (by simp)
  have lo := v1.lt
  have lq := rq.lt
  have hk1 := k1.1
  have hk2 := k2.1
  have hdis : ∀ k ∈ ownM m g ⟨none, 0, 0⟩, k ∉ ownM m' g' ⟨none, 0, 0⟩ := fun x hx hm => by have := M1.lt x hx; have := n3 x hm; omega
  obtain ⟨h4, s4, s4', A4, B4, d4, k4, e5⟩ := back_loop (y := out) (q := q) hz8 (by omega) (by omega : 1000000 < R) cs 0 R (List.drop_zero) (Nat.zero_le _) (by omega) r3 M1' M2 hdis
    (fun x hx => ⟨fun t => by have := lo x hx; have := n2 x t; omega, fun t => by have := lo x hx; have := n3 x t; omega⟩)
    ⟨hf14, ⟨by omega, by omega⟩, .inl rfl, by omega, by omega, by omega, by simp, by simp⟩ hrun
  have hfull : fullB 0 ((bs.length : Nat) : Int) bs = true := by simp [fullB]
  have rq4 := ((((rq.keep k1 (by simp)).keep k2 (by simp)).keep k3 (by simp)).keep k4 (fun x hx t => by
    have := lq x hx
    rcases List.mem_append.1 t with t | t
    · have := n2 x t; omega
    · have := n3 x t; omega))
  obtain ⟨h5, rr, e6, b5, k5⟩ := dle_Machine_Bytes_mach (R := R) A4 (by omega)
  have rq5 := rq4.keep k5 (by simp)
  have B5 := B4.keep k5 (by simp)
  refine ⟨h5, fun β K => ?_⟩
  unfold F_law13_DleBack
  rw [F_law13_DleBack_gen]
  rw [show ((2000 : Nat) : Int) = 2000 from rfl] at e1
  rw [e1, within_14, hf, e2, rq.n, e3, e4, bne_self_eq_false, condF, condF, v1.n, i64w (by omega), decF (by omega), condF]
  have e5' := e5 β
  rw [show ((0 : Nat) : Int) = 0 from rfl] at e5'
  rw [e5', dle_Machine_Full_mach A4, hfull, condT, ref13_Machine_Full_mach B4, hfull, condT, e6, same_R b5.row rq5 (by omega) (by omega), condT]
  simp only [exA_s, B5.c1, exP_s]
  simp only [exA_s, B5.out.c3, exS_s]
  rw [same_R B5.out.buf.row rq5 (by omega) (by omega), condT, lives13]
theorem back_any {W : World} {a : Option Addr} {len cap : Nat} {bs : List Int} (hr : IsRow .u8 W a len cap bs) (f : Int) : Calls Try.prog 6 #[.slice a len cap, .int .i64 f] W fun e W' => e = .returned (.bool true) ∧ Below W.heap.size W W' := by
  let l : List Ar := [⟨a, len, cap, 1, u8s (bs.take len)⟩]
  have ok : ∀ x ∈ l, ArOk (arInj l) W x := fun x hx => by cases List.mem_singleton.1 hx; exact ar_bytes hr _
  obtain ⟨h', e⟩ := back_true (ar_row (l := l) (g := 0) rfl (ar_bytes hr (arInj l))) (IsRow.b8 hr) f (R := rounds) (by unfold rounds; omega)
  obtain ⟨v, h1, hk, hc⟩ := F_law13_DleBack_sim (β := Value × GH) (r := (.bool true, h')) (K := fun v h => some (v, h)) (e _ _)
  cases hk
  exact ar_calls ok hc (.cons (ar_vr (l := l) (g := 0) rfl (ar_bytes hr (arInj l))) (.cons (.same _ rfl) .nil))
end Go.Proofs.Ytplkdjbcdeakaaa.Gx

