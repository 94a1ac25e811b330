/- Text as bits: the program's reduce.Encode. No condition. -/
import Derived.Test.YtdmemmpkkibckaaFewerP
import Derived.Test.YtdmemmpkkibckaaWriteB
import Derived.Test.YtdmemmpkkibckaaFndC
namespace Go.Proofs.Ytdmemmpkkibckaa.Gx
open Go Go.RowKit Fd
set_option linter.unusedVariables false
set_option linter.unusedSimpArgs false
def putL (L : Nat → List Int) : List Int → Nat → List (Nat × Nat)
  | [], _ => []
  | c :: cs, last => fputL ((L last).take 32) c ++ putL L cs c.toNat
theorem wl_putL (L : Nat → List Int) : ∀ (cs : List Int) (last : Nat), B8 cs → wl (putL L cs last) ≤ 9 * cs.length
  | [], _, _ => by simp [putL, wl]
  | c :: cs, last, hb => by
    have h1 := (fputL_fit (l := (L last).take 32) (by simp; omega) (hb c (by simp))).2
    have h2 := wl_putL L cs c.toNat (fun x hx => hb x (by simp [hx]))
    rw [putL, wl_app, List.length_cons]; omega
theorem rput_loop {R : Nat} (hR : 4000000 < R) {cs : List Int} (hb : B8 cs) (hm : cs.length ≤ 1000000) {y : Sl} {gs gw lo : Nat} {ss : List Sl} {L : Nat → List Int} (hgs : gs < lo) (hgw : gw < lo) (hne : gs ≠ gw) (hsg : ∀ c, c < 256 → ∀ x ∈ rowsOf (ss.getD c ⟨none, 0, 0⟩), x ≠ gw ∧ x < lo) (hyg : ∀ x ∈ rowsOf y, x ≠ gw ∧ x < lo) :
    ∀ (d i n : Nat) (last : Nat) (h : GH) (wb : Sl) (l : List (Nat × Nat)), i + d = cs.length → d < n → last < 256 → lo ≤ h.next → Rd h y cs → h.look gs = some (.row ⟨ss.map slV, 0, false⟩) → SetV h ss L → Wrs h gw wb l → (∀ x ∈ rowsOf wb, lo ≤ x) → wl l + 9 * d ≤ 600000000 →
    ∃ h' wb', Wrs h' gw wb' (l ++ putL L (cs.drop i) last) ∧ Keep h h' (gw :: rowsOf wb) ∧ ∀ (β : Type) (K : Option Addr → GH → Option β) (F1 : Sl → Int → GH → (Sl → Int → GH → Option β) → Option β) (F2 : Sl → GH → (List Value → GH → Option β) → Option β) (F3 : GH → (Option Addr → GH → Option β) → Option β) (F4 : Option Addr → List Value → GH → (GH → Option β) → Option β) (F6 : Option Addr → GH → (Sl → GH → Option β) → Option β),
      F_reduce_Encode_l0 F1 F2 F3 F4 (F_follow_Put R) F6 R n (some ⟨gs, 0, none⟩) (some ⟨gw, 0, none⟩) ((last : Nat) : Int) y ((cs.length : Nat) : Int) (i : Nat) h K = K (some ⟨gw, 0, none⟩) h'
  | 0, i, n, last, h, wb, l, hd, hn, hlast, hlo, r, hl, sv, w, hw, hwl => by
    obtain ⟨n, rfl⟩ : ∃ n', n = n' + 1 := ⟨n - 1, by omega⟩
    refine ⟨h, wb, by rw [List.drop_eq_nil_of_le (by omega), putL, List.append_nil]; exact w, .refl _ _, fun β K F1 F2 F3 F4 F6 => ?_⟩
    rw [F_reduce_Encode_l0_succ, decF (by omega), condF]
  | d + 1, i, n, last, h, wb, l, hd, hn, hlast, hlo, r, hl, sv, w, hw, hwl => by
    obtain ⟨n, rfl⟩ : ∃ n', n = n' + 1 := ⟨n - 1, by omega⟩
    have hi : i < cs.length := by omega
    have hc : cs.drop i = cs.getD i 0 :: cs.drop (i + 1) := by
      rw [List.drop_eq_getElem_cons hi, List.getD_eq_getElem?_getD, List.getElem?_eq_getElem hi, Option.getD_some]
    have hcb : 0 ≤ cs.getD i 0 ∧ cs.getD i 0 ≤ 255 := by
      rw [List.getD_eq_getElem?_getD, List.getElem?_eq_getElem hi, Option.getD_some]; exact hb _ (List.getElem_mem hi)
    obtain ⟨c, hcN⟩ : ∃ c : Nat, cs.getD i 0 = (c : Int) := ⟨(cs.getD i 0).toNat, by omega⟩
    obtain ⟨h1, wb1, w1, k1, n1, e1⟩ := fput_eq w sv (fun c hc x hx => ⟨(hsg c hc x hx).1, fun hm => by have := hw x hm; have := hsg c hc x hx; omega⟩) hlast hcb (by omega) hR
    have hk1 := k1.1
    have hfit := (fputL_fit (l := (L last).take 32) (by simp; omega) hcb).2
    obtain ⟨h2, wb2, w2, k2, e2⟩ := rput_loop hR hb hm hgs hgw hne hsg hyg d (i + 1) n c h1 wb1 _ (by omega) (by omega) (by omega) (by omega)
      (r.keep k1 (fun x hx hm => by have := hyg x hx; rcases List.mem_cons.1 hm with e | e; exact this.1 e; have := hw x e; omega))
      (k1.look hl (fun hm => by rcases List.mem_cons.1 hm with e | e; exact hne e; have := hw _ e; omega))
      (sv.keep k1 (fun c hc x hx hm => by have := hsg c hc x hx; rcases List.mem_cons.1 hm with e | e; exact this.1 e; have := hw x e; omega))
      w1 (fun x hx => by rcases n1 x hx with q | q; exact hw x q; omega) (by rw [wl_app]; omega)
    refine ⟨h2, wb2, ?_, k1.trans k2 (fun x hx => ?_), fun β K F1 F2 F3 F4 F6 => ?_⟩
    · rw [hc, putL, hcN, Int.toNat_natCast, ← List.append_assoc]; rw [hcN] at w2; exact w2
    · rcases List.mem_cons.1 hx with q | q
      · exact .inl (by simp [q])
      · exact (n1 x q).imp (fun q => by simp [q]) id
    · have q1 := fun K => r.byte (β := β) (i := ((i : Nat) : Int)) (by omega) (by omega) K
      have hlen : (ss.map slV).length = 256 := by rw [List.length_map]; exact sv.len
      have ns : nsub (ss.map slV) 0 256 = some (ss.map slV) := by have := nsub_all (ss.map slV); rwa [hlen] at this
      rw [F_reduce_Encode_l0_succ, decT (by omega), condT, q1, Int.toNat_natCast, exA_s, rowCells_of hl, ns, exL_s]
      refine (e1 β _).trans ?_
      rw [i64w (by omega), show ((i : Nat) : Int) + 1 = ((i + 1 : Nat) : Int) by omega, hcN]
      exact e2 β K F1 F2 F3 F4 F6
/-- the numbers that bytes become -/
def rencL (cs : List Int) : List (Nat × Nat) := setsL (bestC cs) 256 ++ putL (bestC cs) cs 0
def redE (cs : List Int) : List Int := if cs.length = 0 then [] else bytesN ((wl (rencL cs) + 7) / 8) (wv (rencL cs))
theorem rencode_eq {h : GH} {b : Sl} {bs : List Int} (r : Rd h b bs) (hb : B8 bs) {f : Int} {low : Nat} (hf : FL f low) (hm : bs.length ≤ 5000) (hcs : B8 (encL low bs (toks f low bs) 0)) (hcl : (encL low bs (toks f low bs) 0).length ≤ 10000) {R : Nat} (hR : 4000000 < R) :
    ∃ h' out, Rd h' out (redE (encL low bs (toks f low bs) 0)) ∧ Keep h h' [] ∧ (∀ x ∈ rowsOf out, h.next ≤ x) ∧ ∀ (β : Type) (K : Sl → Int → GH → Option β), F_reduce_Encode R b f h K = K out 0 h' := by
  obtain ⟨h1, o1, v1, k1, n1, e1⟩ := encode_eq r hf (by omega) (R := R) (by omega)
  generalize hC : encL low bs (toks f low bs) 0 = cs at *
  have hn1 := v1.n
  by_cases c0 : cs.length = 0
  · refine ⟨h1, ⟨none, 0, 0⟩, ?_, k1, by simp [rowsOf], fun β K => ?_⟩
    · rw [redE, if_pos c0]; exact Row.nil
    · unfold F_reduce_Encode
      rw [F_reduce_Encode_gen]
      refine (e1 β _).trans ?_
      rw [bne_self_eq_false, condF, beq_int, decT (by omega), condT]
  · have b1 := k1.1
    have lo1 := v1.lt
    obtain ⟨h2, g2, ss, s2, n2, k2, e2⟩ := best_prog v1.row hcs (by omega) hR
    have hb2n := k2.1
    obtain ⟨h3, eh3⟩ : ∃ h3, h3 = h2.push (.row ⟨(List.replicate 256 (⟨none, 0, 0⟩ : Sl)).map slV, 0, false⟩) := ⟨_, rfl⟩
    obtain ⟨h4, eh4⟩ : ∃ h4, h4 = h3.put h2.next (some (.row ⟨ss.map slV, 0, false⟩)) := ⟨_, rfl⟩
    have n3 : h3.next = h2.next + 1 := by rw [eh3, next_push]
    have n4 : h4.next = h2.next + 1 := by rw [eh4]; exact n3
    have l3 : h3.look h2.next = some (.row ⟨(List.replicate 256 (⟨none, 0, 0⟩ : Sl)).map slV, 0, false⟩) := by rw [eh3]; exact look_push_new
    have l4 : h4.look h2.next = some (.row ⟨ss.map slV, 0, false⟩) := by rw [eh4]; exact look_put_same (by omega)
    have k24 : Keep h2 h4 [] := by
      rw [eh4]
      refine Keep.trans (by rw [eh3]; exact keep_push _ _ []) (keep_put _ _ _) (fun x hx => ?_)
      simp at hx; subst hx; exact .inr (Nat.le_refl _)
    have sv4 : SetV h4 ss (bestC cs) := ⟨s2.len, fun c hc => (s2.rd c hc).1.keep k24 (by simp), fun c hc x hx => by
      have := (bestP_sub (behL cs cs.length ((c : Nat) : Int))).2.1 x hx; omega⟩
    have lss : ∀ c, c < 256 → ∀ x ∈ rowsOf (ss.getD c ⟨none, 0, 0⟩), x < h2.next := fun c hc => (s2.rd c hc).1.lt
    obtain ⟨h5, gA, wA, kA, nA, eA⟩ := new_writer h4
    have b5 := kA.1
    have wA0 : Wrs h5 gA ⟨none, 0, 0⟩ [] := ⟨wA, look_lt wA.look⟩
    have sv5 := sv4.keep kA (by simp)
    have l5 := kA.look l4 (by simp)
    obtain ⟨h6, w6, wr6, k6, n6, e6⟩ := putsets_eq hR wA0 sv5 (fun c hc x hx => ⟨by have := lss c hc x hx; omega, by simp [rowsOf]⟩) (by simp [wl])
    rw [List.nil_append] at wr6
    have b6 := k6.1
    have n6' : ∀ x ∈ rowsOf w6, h5.next ≤ x := fun x hx => by
      rcases n6 x hx with t | t
      · simp [rowsOf] at t
      · exact t
    have hAn := wA0.2
    have sv6 := sv5.keep k6 (fun c hc x hx hm => by simp [rowsOf] at hm; have := lss c hc x hx; omega)
    have l6 := k6.look l5 (by simp [rowsOf]; omega)
    have ry := (((v1.row.keep k2 (by simp)).keep k24 (by simp)).keep kA (by simp)).keep k6 (fun x hx hm => by simp [rowsOf] at hm; have := lo1 x hx; omega)
    have hs2 := wl_setsL (bestC cs) 256
    obtain ⟨h7, w7, wr7, k7, e7⟩ := rput_loop hR hcs (by omega) (y := o1) (gs := h2.next) (gw := gA) (lo := h5.next) (ss := ss) (L := bestC cs) (by omega) (by omega) (by omega) (fun c hc x hx => ⟨by have := lss c hc x hx; omega, by have := lss c hc x hx; omega⟩) (fun x hx => ⟨by have := lo1 x hx; omega, by have := lo1 x hx; omega⟩)
      cs.length 0 R 0 h6 w6 _ (by omega) (by omega) (by omega) (by omega) ry l6 sv6 wr6 n6' (by omega)
    rw [List.drop_zero] at wr7
    have hwp := wl_putL (bestC cs) cs 0 hcs
    obtain ⟨h8, o8, v8, k8, n8, e8⟩ := wbytes_eq wr7.1 (by rw [wl_app]; omega) R
    have b7 := k7.1
    refine ⟨h8, o8, ?_, ((((((k1.trans k2 (by simp)).trans k24 (by simp)).trans kA (by simp)).trans k6 (fun x hx => ?_)).trans k7 (fun x hx => ?_)).trans k8 (by simp)), fun x hx => ?_, fun β K => ?_⟩
    · rw [redE, if_neg c0]; exact v8.row
    · simp [rowsOf] at hx; exact .inr (by omega)
    · rcases List.mem_cons.1 hx with q | q
      · exact .inr (by omega)
      · exact .inr (by have := n6' x q; omega)
    · have := n8 x hx; omega
    · have hlen : (ss.map slV).length = 256 := by rw [List.length_map]; exact s2.len
      have hrep : ((List.replicate 256 (⟨none, 0, 0⟩ : Sl)).map slV).length = 256 := by rw [List.length_map, List.length_replicate]
      have ns : nsub (ss.map slV) 0 256 = some (ss.map slV) := by have := nsub_all (ss.map slV); rwa [hlen] at this
      unfold F_reduce_Encode
      rw [F_reduce_Encode_gen]
      refine (e1 β _).trans ?_
      rw [bne_self_eq_false, condF, beq_int, decF (by omega), condF, e2, Z28_eq, gnew_eq (allCells_slV _), ← eh3, hlen, beq_t, condT, gput_eq l3 (allCells_slV _) (by rw [hlen, hrep]; omega), nlay_all _ _ (by rw [hlen, hrep]), ← eh4, eA, rowCells_of l5, ns, exL_s]
      refine (e6 β _).trans ?_
      rw [hn1]
      have e7' := e7 β (fun w29 h30 => F_bitio_Writer_Bytes R w29 h30 fun r31 h32 => K r31 0 h32) (F_dle_Encode R) (F_follow_Best R) (F_bitio_New R) (F_follow_PutSets R) (F_bitio_Writer_Bytes R)
      rw [show ((0 : Nat) : Int) = 0 from rfl] at e7'
      refine e7'.trans ?_
      exact e8 β _
end Go.Proofs.Ytdmemmpkkibckaa.Gx

