/- Text as bits: the document's Encode; and ReduceWrites. No condition. -/
import Derived.Test.YtdmemmpkkibckaaPutR
import Derived.Test.YtdmemmpkkibckaaEnR
import Derived.Test.YtdmemmpkkibckaaRdL
import Derived.Test.YtdmemmpkkibckaaEncB
namespace Go.Proofs.Ytdmemmpkkibckaa.Gx
open Go Go.RowKit Fd
set_option linter.unusedVariables false
set_option linter.unusedSimpArgs false
theorem rputR_loop {R : Nat} (hR : 4000000 < R) {cs : List Int} (hb : B8 cs) (hm : cs.length ≤ 1000000) {y : Sl} {gs gw lo : Nat} {ss : List Sl} {L : Nat → List Int} (hgs : gs < lo) (hgw : gw < lo) (hne : gs ≠ gw) (hsg : ∀ c, c < 256 → ∀ x ∈ rowsOf (ss.getD c ⟨none, 0, 0⟩), x ≠ gw ∧ x < lo) (hyg : ∀ x ∈ rowsOf y, x ≠ gw ∧ x < lo) :
    ∀ (d i n : Nat) (last : Nat) (h : GH) (wb : Sl) (l : List (Nat × Nat)), i + d = cs.length → d < n → last < 256 → lo ≤ h.next → Rd h y cs → h.look gs = some (.row ⟨ss.map slV, 0, false⟩) → SetV h ss L → WrR h gw wb l → (∀ x ∈ rowsOf wb, lo ≤ x) → wl l + 9 * d ≤ 600000000 →
    ∃ h' wb', WrR h' gw wb' (l ++ putL L (cs.drop i) last) ∧ Keep h h' (gw :: rowsOf wb) ∧ (∀ x ∈ rowsOf wb', lo ≤ x) ∧ ∀ (β : Type) (K : Option Addr → GH → Option β) (F1 : Sl → Int → GH → (Sl → Int → GH → Option β) → Option β) (F2 : Sl → GH → (Option Addr → GH → Option β) → Option β) (F3 : Option Addr → Option Addr → GH → (GH → Option β) → Option β) (F5 : Option Addr → GH → (Sl → GH → Option β) → Option β),
      F_ref14_Encode_l0 F1 F2 F3 (F_ref12_Put R) F5 R n y (some ⟨gs, 0, none⟩) (some ⟨gw, 0, none⟩) ((last : Nat) : Int) (i : Nat) h K = K (some ⟨gw, 0, none⟩) h'
  | 0, i, n, last, h, wb, l, hd, hn, hlast, hlo, r, hl, sv, w, hw, hwl => by
    obtain ⟨n, rfl⟩ : ∃ n', n = n' + 1 := ⟨n - 1, by omega⟩
    have hyn := r.n
    refine ⟨h, wb, by rw [List.drop_eq_nil_of_le (by omega), putL, List.append_nil]; exact w, .refl _ _, hw, fun β K F1 F2 F3 F5 => ?_⟩
    rw [F_ref14_Encode_l0_succ, decF (by omega), condF]
  | d + 1, i, n, last, h, wb, l, hd, hn, hlast, hlo, r, hl, sv, w, hw, hwl => by
    obtain ⟨n, rfl⟩ : ∃ n', n = n' + 1 := ⟨n - 1, by omega⟩
    have hi : i < cs.length := by omega
    have hyn := r.n
    have hc : cs.drop i = cs.getD i 0 :: cs.drop (i + 1) := by
      rw [List.drop_eq_getElem_cons hi, List.getD_eq_getElem?_getD, List.getElem?_eq_getElem hi, Option.getD_some]
    have hcb : 0 ≤ cs.getD i 0 ∧ cs.getD i 0 ≤ 255 := by
      rw [List.getD_eq_getElem?_getD, List.getElem?_eq_getElem hi, Option.getD_some]; exact hb _ (List.getElem_mem hi)
    obtain ⟨c, hcN⟩ : ∃ c : Nat, cs.getD i 0 = (c : Int) := ⟨(cs.getD i 0).toNat, by omega⟩
    obtain ⟨h1, wb1, w1, k1, n1, e1⟩ := fputR_eq w sv hl (fun c hc x hx => ⟨(hsg c hc x hx).1, fun hm => by have := hw x hm; have := hsg c hc x hx; omega⟩) hlast hcb (by omega) hR
    have hk1 := k1.1
    have hfit := (fputL_fit (l := (L last).take 32) (by simp; omega) hcb).2
    have r1 := r.keep k1 (fun x hx hm => by have := hyg x hx; rcases List.mem_cons.1 hm with e | e; exact this.1 e; have := hw x e; omega)
    obtain ⟨h2, wb2, w2, k2, n2, e2⟩ := rputR_loop hR hb hm hgs hgw hne hsg hyg d (i + 1) n c h1 wb1 _ (by omega) (by omega) (by omega) (by omega) r1
      (k1.look hl (fun hm => by rcases List.mem_cons.1 hm with e | e; exact hne e; have := hw _ e; omega))
      (sv.keep k1 (fun c hc x hx hm => by have := hsg c hc x hx; rcases List.mem_cons.1 hm with e | e; exact this.1 e; have := hw x e; omega))
      w1 (fun x hx => by rcases n1 x hx with q | q; exact hw x q; omega) (by rw [wl_app]; omega)
    refine ⟨h2, wb2, ?_, k1.trans k2 (fun x hx => ?_), n2, fun β K F1 F2 F3 F5 => ?_⟩
    · rw [hc, putL, hcN, Int.toNat_natCast, ← List.append_assoc]; rw [hcN] at w2; exact w2
    · rcases List.mem_cons.1 hx with q | q
      · exact .inl (by simp [q])
      · exact (n1 x q).imp (fun q => by simp [q]) id
    · have q1 := fun K => r.byte (β := β) (i := ((i : Nat) : Int)) (by omega) (by omega) K
      have q2 := fun K => r1.byte (β := β) (i := ((i : Nat) : Int)) (by omega) (by omega) K
      rw [F_ref14_Encode_l0_succ, decT (by omega), condT, q1, Int.toNat_natCast]
      refine (e1 β _).trans ?_
      refine (q2 _).trans ?_
      rw [Int.toNat_natCast, i64w (by omega), show ((i : Nat) : Int) + 1 = ((i + 1 : Nat) : Int) by omega, hcN]
      exact e2 β K F1 F2 F3 F5
theorem rencR_eq {h : GH} {b : Sl} {bs : List Int} (r : Rd h b bs) (hb : B8 bs) {f : Int} {low : Nat} (hf : FL f low) (hm : bs.length ≤ 5000) (hcs : B8 (encL low bs (toks f low bs) 0)) (hcl : (encL low bs (toks f low bs) 0).length ≤ 10000) {R : Nat} (hR : 4000000 < R) :
    ∃ h' out, Rd h' out (redE (encL low bs (toks f low bs) 0)) ∧ Keep h h' [] ∧ ∀ (β : Type) (K : Sl → Int → GH → Option β), F_ref14_Encode R b f h K = K out 0 h' := by
  obtain ⟨h1, o1, v1, k1, n1, e1⟩ := encodeR_eq r hf (by omega) (R := R) (by omega) (by omega)
  generalize hC : encL low bs (toks f low bs) 0 = cs at *
  have hn1 := v1.n
  by_cases c0 : cs.length = 0
  · refine ⟨h1, ⟨none, 0, 0⟩, ?_, k1, fun β K => ?_⟩
    · rw [redE, if_pos c0]; exact Row.nil
    · unfold F_ref14_Encode
      rw [F_ref14_Encode_gen]
      refine (e1 β _).trans ?_
      rw [bne_self_eq_false, condF, beq_int, decT (by omega), condT]
  · have b1 := k1.1
    have lo1 := v1.lt
    obtain ⟨h2, g2, ss, s2, n2, k2, e2⟩ := best_ref v1.row hcs (by omega) hR
    have hb2n := k2.1
    have lg2 := look_lt s2.look
    have k3 := keep_push h2 (.row ⟨[.slice none 0 0], 0, false⟩) []
    obtain ⟨h3, eh3⟩ : ∃ h3, h3 = h2.push (.row ⟨[.slice none 0 0], 0, false⟩) := ⟨_, rfl⟩
    rw [← eh3] at k3
    have n3 : h3.next = h2.next + 1 := by rw [eh3, next_push]
    have l3 : h3.look h2.next = some (.row ⟨[.slice none 0 0], 0, false⟩) := by rw [eh3]; exact look_push_new
    have wA : WrR h3 h2.next ⟨none, 0, 0⟩ [] := ⟨l3, Vec.nil, by simp [rowsOf], fun p hp => by cases hp⟩
    have sv2 : SetV h2 ss (bestC cs) := ⟨s2.len, fun c hc => (s2.rd c hc).1, fun c hc x hx => by
      have := (bestP_sub (behL cs cs.length ((c : Nat) : Int))).2.1 x hx; omega⟩
    have lss : ∀ c, c < 256 → ∀ x ∈ rowsOf (ss.getD c ⟨none, 0, 0⟩), x < h2.next := fun c hc => (s2.rd c hc).1.lt
    have sv3 := sv2.keep k3 (by simp)
    have ls3 := k3.look s2.look (by simp)
    obtain ⟨h6, w6, wr6, k6, n6, e6⟩ := putsetsR_eq hR wA sv3 ls3 (by omega) (by simp [rowsOf]) (fun c hc x hx => ⟨by have := lss c hc x hx; omega, by simp [rowsOf]⟩) (by simp [wl])
    rw [List.nil_append] at wr6
    have b6 := k6.1
    have n6' : ∀ x ∈ rowsOf w6, h3.next ≤ x := fun x hx => by
      rcases n6 x hx with t | t
      · simp [rowsOf] at t
      · exact t
    have sv6 := sv3.keep k6 (fun c hc x hx hm => by simp [rowsOf] at hm; have := lss c hc x hx; omega)
    have l6 := k6.look ls3 (by simp [rowsOf]; omega)
    have ry := ((v1.row.keep k2 (by simp)).keep k3 (by simp)).keep k6 (fun x hx hm => by simp [rowsOf] at hm; have := lo1 x hx; omega)
    have hs2 := wl_setsL (bestC cs) 256
    obtain ⟨h7, w7, wr7, k7, n7, e7⟩ := rputR_loop hR hcs (by omega) (y := o1) (gs := g2) (gw := h2.next) (lo := h3.next) (ss := ss) (L := bestC cs) (by omega) (by omega) (by omega) (fun c hc x hx => ⟨by have := lss c hc x hx; omega, by have := lss c hc x hx; omega⟩) (fun x hx => ⟨by have := lo1 x hx; omega, by have := lo1 x hx; omega⟩)
      cs.length 0 R 0 h6 w6 _ (by omega) (by omega) (by omega) (by omega) ry l6 sv6 wr6 n6' (by omega)
    rw [List.drop_zero] at wr7
    have hwp := wl_putL (bestC cs) cs 0 hcs
    obtain ⟨h8, o8, v8, k8, n8, e8⟩ := rbytes_eq wr7 (by rw [wl_app]; omega) hR
    have b7 := k7.1
    refine ⟨h8, o8, ?_, ((((k1.trans k2 (by simp)).trans k3 (by simp)).trans k6 (fun x hx => ?_)).trans k7 (fun x hx => ?_)).trans k8 (by simp), fun β K => ?_⟩
    · rw [redE, if_neg c0]; exact v8.row
    · simp [rowsOf] at hx; exact .inr (by omega)
    · rcases List.mem_cons.1 hx with q | q
      · exact .inr (by omega)
      · exact .inr (by have := n6' x q; omega)
    · unfold F_ref14_Encode
      rw [F_ref14_Encode_gen]
      refine (e1 β _).trans ?_
      rw [bne_self_eq_false, condF, beq_int, decF (by omega), condF, e2, gnew_eq rfl, ← eh3]
      refine (e6 β _).trans ?_
      have e7' := e7 β (fun w24 h25 => F_ref01_Writer_Bytes R w24 h25 fun r26 h27 => K r26 0 h27) (F_ref13_Encode R) (F_ref12_Best R) (F_ref12_PutSets R) (F_ref01_Writer_Bytes R)
      rw [show ((0 : Nat) : Int) = 0 from rfl] at e7'
      refine e7'.trans ?_
      exact e8 β _
/-! ### factors that no shape has -/
theorem enc_not {f : Int} (hf : ¬ (1 ≤ f ∧ f ≤ 4)) (h : GH) (b : Sl) (R : Nat) {β : Type} (K : Sl → Int → GH → Option β) : F_reduce_Encode R b f h K = K ⟨none, 0, 0⟩ 2 h ∧ F_ref14_Encode R b f h K = K ⟨none, 0, 0⟩ 2 h := by
  have e1 : ∀ (K : Sl → Int → GH → Option β), F_dle_Encode R b f h K = K ⟨none, 0, 0⟩ 2 h := fun K => by
    unfold F_dle_Encode
    rw [F_dle_Encode_gen]
    unfold F_dle_right
    rw [F_dle_right_gen]
    by_cases h1 : f ≥ 1
    · rw [decT h1, condT, decF (by omega), notF, condT]
    · rw [decF h1, condF, notF, condT]
  have e2 : ∀ (K : Sl → Int → GH → Option β), F_ref13_Encode R b f h K = K ⟨none, 0, 0⟩ 2 h := fun K => by
    unfold F_ref13_Encode
    rw [F_ref13_Encode_gen]
    by_cases h1 : f < 1
    · rw [decT h1, condT]
    · rw [decF h1, condF, decT (by omega), condT]
  constructor
  · unfold F_reduce_Encode
    rw [F_reduce_Encode_gen, e1, bne_iff_ne.2 (by omega), condT]
  · unfold F_ref14_Encode
    rw [F_ref14_Encode_gen, e2, bne_iff_ne.2 (by omega), condT]
theorem copy_w14 {h : GH} {a : Sl} {bs : List Int} (r : Rd h a bs) (R : Nat) (hm : bs.length ≤ 2000000) : ∃ h' q, Keep h h' [] ∧ Bv h' q bs ∧ (∀ k ∈ rowsOf q, h.next ≤ k) ∧ ∀ (β : Type) (K : Sl → GH → Option β), F_ref01_Copy R a h K = K q h' := by
  have v0 : Bv h ⟨none, 0, 0⟩ [] := Vec.nil
  obtain ⟨h', q, e, v, k, n⟩ := app_bytes v0 r (by simp; omega)
  refine ⟨h', q, by simpa [rowsOf] using k, by simpa using v, fun x hx => by simpa [rowsOf] using n x hx, fun β K => ?_⟩
  unfold F_ref01_Copy; rw [F_ref01_Copy_gen]; exact e β K
theorem redE_len2 {cs : List Int} (hb : B8 cs) : (redE cs).length ≤ 8385 + 9 * cs.length := by
  have h1 := wl_setsL (bestC cs) 256
  have h2 := wl_putL (bestC cs) cs 0 hb
  unfold redE
  split
  · simp
  · rw [bytesN_length, rencL, wl_app]; omega
theorem writes_true {h : GH} {b0 : Sl} {zs : List Int} (r : Rd h b0 zs) (hb : B8 zs) (f : Int) {R : Nat} (hR : 4000000 < R) : ∃ h', ∀ (β : Type) (K : Bool → GH → Option β), F_law14_ReduceWrites R b0 f h K = K true h' := by
  obtain ⟨q, rq, nq, e1⟩ := ref_cut r R 200
  obtain ⟨bs, hbs⟩ : ∃ bs, bs = zs.take 200 := ⟨_, rfl⟩
  rw [← hbs] at rq
  have hb2 : B8 bs := fun x hx => hb x (by rw [hbs] at hx; exact List.mem_of_mem_take hx)
  have hm : bs.length ≤ 200 := by rw [hbs]; simp; omega
  obtain ⟨h1, mine, k1, v1, n1, e2⟩ := copy_w14 rq R (by omega)
  rw [show ((200 : Nat) : Int) = 200 from rfl] at e1
  have rq1 := rq.keep k1 (by simp)
  by_cases hf : 1 ≤ f ∧ f ≤ 4
  · obtain ⟨low, hFL⟩ := FL_get hf.1 hf.2
    have htil : Til bs 3 ((low - 1 + 258 : Nat) : Int) (256 * 2 ^ f.toNat) (toks f low bs) 0 := findSpec_til (.inr rfl) (by have := (shl_256 hFL).2.2.2.2; omega)
    have hlen := encL_len2 bs low (toks f low bs) 0 htil
    have hz8 := encL_b8 hFL hb2 (toks f low bs) 0 htil
    obtain ⟨h2, out2, v2, k2, n2, e3⟩ := rencode_eq v1.row hb2 hFL (by omega) hz8 (by omega) hR
    obtain ⟨h3, out3, v3, k3, e4⟩ := rencR_eq (rq1.keep k2 (by simp)) hb2 hFL (by omega) hz8 (by omega) hR
    have hrl := redE_len2 hz8
    generalize encL low bs (toks f low bs) 0 = cs at *
    obtain ⟨h4, k4, e5⟩ := lives14 hR h3
    refine ⟨h4, fun β K => ?_⟩
    unfold F_law14_ReduceWrites
    rw [F_law14_ReduceWrites_gen, e1, e2, e3, e4, same_R (v2.keep k3 (by simp)) v3 (by omega) (by omega), condT, beq_self_eq_true, condT, same_R ((v1.row.keep k2 (by simp)).keep k3 (by simp)) ((rq1.keep k2 (by simp)).keep k3 (by simp)) (by omega) (by omega), condT, e5]
  · obtain ⟨h4, k4, e5⟩ := lives14 hR h1
    refine ⟨h4, fun β K => ?_⟩
    have hnil : Rd h1 ⟨none, 0, 0⟩ [] := Row.nil
    unfold F_law14_ReduceWrites
    rw [F_law14_ReduceWrites_gen, e1, e2, (enc_not hf h1 mine R _).1, (enc_not hf h1 q R _).2, same_R hnil hnil (by simp; omega) (by simp), condT, beq_self_eq_true, condT, same_R v1.row rq1 (by omega) (by omega), condT, e5]
theorem writes14_any {W : World} {a : Option Addr} {len cap : Nat} {bs : List Int} (hr : IsRow .u8 W a len cap bs) (f : Int) : Calls Try.prog 3 #[.slice a len cap, .int .i64 f] W fun e W' => e = .returned (.bool true) ∧ Below W.heap.size W W' := by
  let l : List Ar := [⟨a, len, cap, 1, u8s (bs.take len)⟩]
  have ok : ∀ x ∈ l, ArOk (arInj l) W x := fun x hx => by cases List.mem_singleton.1 hx; exact ar_bytes hr _
  obtain ⟨h', e⟩ := writes_true (ar_row (l := l) (g := 0) rfl (ar_bytes hr (arInj l))) (IsRow.b8 hr) f (R := rounds) (by unfold rounds; omega)
  obtain ⟨v, h1, hk, hc⟩ := F_law14_ReduceWrites_sim (β := Value × GH) (r := (.bool true, h')) (K := fun v h => some (v, h)) (e _ _)
  cases hk
  exact ar_calls ok hc (.cons (ar_vr (l := l) (g := 0) rfl (ar_bytes hr (arInj l))) (.cons (.same _ rfl) .nil))
end Go.Proofs.Ytdmemmpkkibckaa.Gx

