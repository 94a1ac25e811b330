/- ReduceBounds: it answers true, whatever came in. No condition. -/
import Derived.Test.YtdmemmpkkibckaaDec
import Derived.Test.YtdmemmpkkibckaaRdL
import Derived.Test.YtdmemmpkkibckaaCutR
namespace Go.Proofs.Ytdmemmpkkibckaa.Gx
open Go Go.RowKit
set_option linter.unusedVariables false
set_option linter.unusedSimpArgs false
theorem i64_topR {n : Int} (h : (Lit.int .i64 n).wf = true) : n ≤ 9223372036854775807 := by
  have h1 : IntKind.i64.max = 9223372036854775807 := by decide +kernel
  simp [Lit.wf, h1] at h
  omega
theorem bounds_true {h : GH} {b0 : Sl} {zs : List Int} (r : Rd h b0 zs) (hb : B8 zs) (f size : Int) (hs : size ≤ 9223372036854775807) {R : Nat} (hR : 4000000 < R) : ∃ h', ∀ (β : Type) (K : Bool → GH → Option β), F_law14_ReduceBounds R b0 f size h K = K true h' := by
  obtain ⟨q, rq, nq, e1⟩ := ref_cut r R 600
  obtain ⟨bs, hbs⟩ : ∃ bs, bs = zs.take 600 := ⟨_, rfl⟩
  rw [← hbs] at rq
  have hb2 : B8 bs := fun x hx => hb x (by rw [hbs] at hx; exact List.mem_of_mem_take hx)
  have hm : bs.length ≤ 600 := by rw [hbs]; simp; omega
  obtain ⟨h1, out, v1, k1, a1, b1, e2⟩ := decode_eq rq hb2 (by omega) (f := f) hs hR
  obtain ⟨h2, k2, e3⟩ := lives14 hR h1
  have hon := v1.n
  rw [show ((600 : Nat) : Int) = 600 from rfl] at e1
  refine ⟨h2, fun β K => ?_⟩
  unfold F_law14_ReduceBounds
  rw [F_law14_ReduceBounds_gen, e1, e2]
  by_cases cE : (dec bs f size).err = 0
  · obtain ⟨x1, x2, x3, x4⟩ := a1 cE
    rw [cE, bne_self_eq_false, condF, beq_int, decT (by omega), condT, rq.n, i64w (by omega), decT (by omega), condT, decT (by omega), condT, decT (by omega), condT, e3]
  · obtain ⟨x1, x2⟩ := b1 cE
    rw [x1] at hon
    rw [bne_iff_ne.2 cE, condT, beq_int, decT (by rw [hon]; rfl), condT, x2, beq_int, decT (by simp), condT, e3]
theorem bounds_any {W : World} {a : Option Addr} {len cap : Nat} {bs : List Int} (hr : IsRow .u8 W a len cap bs) (f size : Int) (hs : size ≤ 9223372036854775807) : Calls Try.prog 6 #[.slice a len cap, .int .i64 f, .int .i64 size] W fun e W' => e = .returned (.bool true) ∧ Below W.heap.size W W' := by
  let l : List Ar := [⟨a, len, cap, 1, u8s (bs.take len)⟩]
  have ok : ∀ x ∈ l, ArOk (arInj l) W x := fun x hx => by cases List.mem_singleton.1 hx; exact ar_bytes hr _
  obtain ⟨h', e⟩ := bounds_true (ar_row (l := l) (g := 0) rfl (ar_bytes hr (arInj l))) (IsRow.b8 hr) f size hs (R := rounds) (by unfold rounds; omega)
  obtain ⟨v, h1, hk, hc⟩ := F_law14_ReduceBounds_sim (β := Value × GH) (r := (.bool true, h')) (K := fun v h => some (v, h)) (e _ _)
  cases hk
  exact ar_calls ok hc (.cons (ar_vr (l := l) (g := 0) rfl (ar_bytes hr (arInj l))) (.cons (.same _ rfl) (.cons (.same _ rfl) .nil)))
end Go.Proofs.Ytdmemmpkkibckaa.Gx

