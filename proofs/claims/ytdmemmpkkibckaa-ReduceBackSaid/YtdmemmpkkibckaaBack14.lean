/- ReduceBack: it answers true, whatever came in. No condition. -/
import Derived.Test.YtdmemmpkkibckaaBkP
import Derived.Test.YtdmemmpkkibckaaDecR
import Derived.Test.YtdmemmpkkibckaaRdL
namespace Go.Proofs.Ytdmemmpkkibckaa.Gx
open Go Go.RowKit Fd
set_option linter.unusedVariables false
set_option linter.unusedSimpArgs false
theorem puts_put (L : Nat → List Int) (b : List Int) : ∀ i, i ≤ b.length → putsL L b i ++ putL L (b.drop i) (lastB b i).toNat = putL L b 0
  | 0, _ => by rw [putsL, List.nil_append, List.drop_zero]; rfl
  | i + 1, hi => by
    have hc : b.drop i = b.getD i 0 :: b.drop (i + 1) := by
      rw [List.drop_eq_getElem_cons (by omega), List.getD_eq_getElem?_getD, List.getElem?_eq_getElem (by omega), Option.getD_some]
    rw [← puts_put L b i (by omega), hc, putL, putsL, lastB_succ, List.append_assoc]
theorem redE_short {cs : List Int} (hb : B8 cs) : (redE cs).length ≤ cs.length + 192 := by
  have h1 := fewer_law hb
  have h2 := puts_put (bestC cs) cs cs.length (Nat.le_refl _)
  rw [List.drop_length, putL, List.append_nil] at h2
  rw [h2] at h1
  unfold redE
  split
  · simp
  · rw [bytesN_length, rencL, wl_app]; omega
theorem back_true {h : GH} {b0 : Sl} {zs : List Int} (r : Rd h b0 zs) (hb : B8 zs) (f0 : Int) {R : Nat} (hR : 4000000 < R) : ∃ h', ∀ (β : Type) (K : Bool → GH → Option β), F_law14_ReduceBack R b0 f0 h K = K true h' := by
  obtain ⟨q, rq, nq, e1⟩ := ref_cut r R 1500
  obtain ⟨bs, hbs⟩ : ∃ bs, bs = zs.take 1500 := ⟨_, rfl⟩
  rw [← hbs] at rq
  have hb2 : B8 bs := fun x hx => hb x (by rw [hbs] at hx; exact List.mem_of_mem_take hx)
  have hm : bs.length ≤ 1500 := by rw [hbs]; simp; omega
  have hf14 : 1 ≤ w14 f0 ∧ w14 f0 ≤ 4 := by unfold w14; (repeat' split) <;> omega
  generalize hf : w14 f0 = f at hf14
  obtain ⟨low, hFL⟩ := FL_get hf14.1 hf14.2
  have htil : Til bs 3 ((low - 1 + 258 : Nat) : Int) (256 * 2 ^ f.toNat) (toks f low bs) 0 := findSpec_til (.inr rfl) (by have := (shl_256 hFL).2.2.2.2; omega)
  have hlen := encL_len2 bs low (toks f low bs) 0 htil
  have hz8 := encL_b8 hFL hb2 (toks f low bs) 0 htil
  have hback := dec_back hFL hb2
  obtain ⟨h1, out, v1, k1, n1, e2⟩ := rencode_eq rq hb2 hFL (by omega) hz8 (by omega) hR
  have hrl := redE_short hz8
  generalize encL low bs (toks f low bs) 0 = cs at *
  obtain ⟨h2, out2, v2, k2, a1, b1, e3⟩ := decode_eq v1 (redE_b8 cs) (by omega) (f := f) (size := ((bs.length : Nat) : Int)) (by omega) hR
  have v12 := v1.keep k2 (by simp)
  obtain ⟨h3, out3, v3, k3, e4⟩ := dec_ref v12 (redE_b8 cs) (by omega) (f := f) (size := ((bs.length : Nat) : Int)) (by omega) hR
  obtain ⟨h4, k4, e5⟩ := lives14 hR h3
  have rq3 := ((rq.keep k1 (by simp)).keep k2 (by simp)).keep k3 (by simp)
  have v23 := v2.keep k3 (by simp)
  have hon := v1.n
  have hqn := rq.n
  rw [hback] at a1 v23 v3 e3 e4
  replace v23 : Rd h3 out2 bs := v23
  replace v3 : Rd h3 out3 bs := v3
  replace e3 : ∀ (β : Type) (K : Sl → Int → Int → GH → Option β), F_reduce_Decode R out f ((bs.length : Nat) : Int) h1 K = K out2 ((cs.length : Nat) : Int) 0 h2 := e3
  replace e4 : ∀ (β : Type) (K : Sl → Int → Int → GH → Option β), F_ref14_Decode R out f ((bs.length : Nat) : Int) h2 K = K out3 ((cs.length : Nat) : Int) 0 h3 := e4
  obtain ⟨_, a2, _⟩ := a1 rfl
  replace a2 : 2 * cs.length ≤ 8 * (redE cs).length := a2
  rw [show ((1500 : Nat) : Int) = 1500 from rfl] at e1
  refine ⟨h4, fun β K => ?_⟩
  unfold F_law14_ReduceBack
  rw [F_law14_ReduceBack_gen, e1, within_14, hf, e2, bne_self_eq_false, condF, hqn, hon, i64w (x := 2 * ((bs.length : Nat) : Int)) (by omega), i64w (x := 2 * ((bs.length : Nat) : Int) + 192) (by omega), decF (by omega), condF, e3, e4, beq_self_eq_true, condT, condT, same_R v23 rq3 (by omega) (by omega), condT, same_R v3 rq3 (by omega) (by omega), condT, beq_self_eq_true, condT, i64w (by omega), decT (by omega), condT, e5]
theorem back14_any {W : World} {a : Option Addr} {len cap : Nat} {bs : List Int} (hr : IsRow .u8 W a len cap bs) (f : Int) : Calls Try.prog 5 #[.slice a len cap, .int .i64 f] W fun e W' => e = .returned (.bool true) ∧ Below W.heap.size W W' := by
  let l : List Ar := [⟨a, len, cap, 1, u8s (bs.take len)⟩]
  have ok : ∀ x ∈ l, ArOk (arInj l) W x := fun x hx => by cases List.mem_singleton.1 hx; exact ar_bytes hr _
  obtain ⟨h', e⟩ := back_true (ar_row (l := l) (g := 0) rfl (ar_bytes hr (arInj l))) (IsRow.b8 hr) f (R := rounds) (by unfold rounds; omega)
  obtain ⟨v, h1, hk, hc⟩ := F_law14_ReduceBack_sim (β := Value × GH) (r := (.bool true, h')) (K := fun v h => some (v, h)) (e _ _)
  cases hk
  exact ar_calls ok hc (.cons (ar_vr (l := l) (g := 0) rfl (ar_bytes hr (arInj l))) (.cons (.same _ rfl) .nil))
end Go.Proofs.Ytdmemmpkkibckaa.Gx

