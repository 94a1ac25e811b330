/- ReduceOther: it answers true, whatever came in. No condition. -/
import Derived.Test.YtdmemmpkkibckaaBkP
import Derived.Test.YtdmemmpkkibckaaBnd
namespace Go.Proofs.Ytdmemmpkkibckaa.Gx
open Go Go.RowKit Fd
set_option linter.unusedVariables false
set_option linter.unusedSimpArgs false
theorem redE_b8 (cs : List Int) : B8 (redE cs) := by
  unfold redE
  split
  · intro x hx; cases hx
  · exact bytesN_b8 _ _
theorem redE_len {cs : List Int} (hb : B8 cs) : (redE cs).length ≤ 8385 + 9 * cs.length := by
  have h1 := wl_setsL (bestC cs) 256
  have h2 := wl_putL (bestC cs) cs 0 hb
  unfold redE
  split
  · simp
  · rw [bytesN_length, rencL, wl_app]; omega
theorem other_true {h : GH} {b0 : Sl} {zs : List Int} (r : Rd h b0 zs) (hb : B8 zs) (f0 size : Int) (hs : size ≤ 9223372036854775807) {R : Nat} (hR : 4000000 < R) : ∃ h', ∀ (β : Type) (K : Bool → GH → Option β), F_law14_ReduceOther R b0 f0 size h K = K true h' := by
  obtain ⟨q, rq, nq, e1⟩ := ref_cut r R 300
  obtain ⟨bs, hbs⟩ : ∃ bs, bs = zs.take 300 := ⟨_, rfl⟩
  rw [← hbs] at rq
  have hb2 : B8 bs := fun x hx => hb x (by rw [hbs] at hx; exact List.mem_of_mem_take hx)
  have hm : bs.length ≤ 300 := by rw [hbs]; simp; omega
  have hf14 : 1 ≤ w14 f0 ∧ w14 f0 ≤ 4 := by unfold w14; (repeat' split) <;> omega
  generalize hf : w14 f0 = f at hf14
  obtain ⟨low, hFL⟩ := FL_get hf14.1 hf14.2
  have htil : Til bs 3 ((low - 1 + 258 : Nat) : Int) (256 * 2 ^ f.toNat) (toks f low bs) 0 := findSpec_til (.inr rfl) (by have := (shl_256 hFL).2.2.2.2; omega)
  have hlen := encL_len2 bs low (toks f low bs) 0 htil
  have hz8 := encL_b8 hFL hb2 (toks f low bs) 0 htil
  have hback := dec_back hFL hb2
  obtain ⟨h1, out, v1, k1, n1, e2⟩ := rencode_eq rq hb2 hFL (by omega) hz8 (by omega) hR
  have hrl := redE_len hz8
  generalize encL low bs (toks f low bs) 0 = cs at *
  obtain ⟨h2, out2, v2, k2, a1, b1, e3⟩ := decode_eq v1 (redE_b8 cs) (by omega) (f := f) hs hR
  obtain ⟨h3, k3, e4⟩ := lives14 hR h2
  have rq2 := (rq.keep k1 (by simp)).keep k2 (by simp)
  have hon := v2.n
  have hqn := rq.n
  rw [show ((300 : Nat) : Int) = 300 from rfl] at e1
  refine ⟨h3, fun β K => ?_⟩
  unfold F_law14_ReduceOther
  rw [F_law14_ReduceOther_gen, e1, within_14, hf, e2, e3, bne_self_eq_false, condF]
  by_cases cE : (dec (redE cs) f size).err = 0
  · obtain ⟨x1, x2, x3, x4⟩ := a1 cE
    rw [cE, bne_self_eq_false, condF, beq_self_eq_true, condT, beq_int, decT (by omega), condT]
    by_cases cs0 : size = ((bs.length : Nat) : Int)
    · rw [cs0, hback] at v2
      replace v2 : Rd h2 out2 bs := v2
      rw [same_R v2 rq2 (by omega) (by omega), hqn, cs0, beq_self_eq_true, beq_self_eq_true, condT, bne_self_eq_false, condF, condT, e4]
    · rw [same_no v2 rq2 (by omega) R, hqn, beq_eq_false_iff_ne.2 cs0, beq_self_eq_true, condT, bne_iff_ne.2 cs0, condT, e4]
  · obtain ⟨x1, x2⟩ := b1 cE
    have cs0 : size ≠ ((bs.length : Nat) : Int) := fun q => cE (by rw [q, hback])
    rw [x1] at hon
    rw [bne_iff_ne.2 cE, condT, beq_int, decT (by rw [hon]; rfl), condT, hqn, bne_iff_ne.2 cs0, condT, e4]
theorem other_any {W : World} {a : Option Addr} {len cap : Nat} {bs : List Int} (hr : IsRow .u8 W a len cap bs) (f size : Int) (hs : size ≤ 9223372036854775807) : Calls Try.prog 7 #[.slice a len cap, .int .i64 f, .int .i64 size] W fun e W' => e = .returned (.bool true) ∧ Below W.heap.size W W' := by
  let l : List Ar := [⟨a, len, cap, 1, u8s (bs.take len)⟩]
  have ok : ∀ x ∈ l, ArOk (arInj l) W x := fun x hx => by cases List.mem_singleton.1 hx; exact ar_bytes hr _
  obtain ⟨h', e⟩ := other_true (ar_row (l := l) (g := 0) rfl (ar_bytes hr (arInj l))) (IsRow.b8 hr) f size hs (R := rounds) (by unfold rounds; omega)
  obtain ⟨v, h1, hk, hc⟩ := F_law14_ReduceOther_sim (β := Value × GH) (r := (.bool true, h')) (K := fun v h => some (v, h)) (e _ _)
  cases hk
  exact ar_calls ok hc (.cons (ar_vr (l := l) (g := 0) rfl (ar_bytes hr (arInj l))) (.cons (.same _ rfl) (.cons (.same _ rfl) .nil)))
end Go.Proofs.Ytdmemmpkkibckaa.Gx

