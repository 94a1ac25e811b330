/- ReduceReads: it answers true, whatever came in. No condition. -/
import Derived.Test.YtdmemmpkkibckaaDecR
import Derived.Test.YtdmemmpkkibckaaRdL
namespace Go.Proofs.Ytdmemmpkkibckaa.Gx
open Go Go.RowKit Fd
set_option linter.unusedVariables false
set_option linter.unusedSimpArgs false
theorem copy_14 {h : GH} {a : Sl} {bs : List Int} (r : Rd h a bs) (R : Nat) (hm : bs.length ≤ 2000000) : ∃ h' q, Keep h h' [] ∧ Bv h' q bs ∧ (∀ k ∈ rowsOf q, h.next ≤ k) ∧ ∀ (β : Type) (K : Sl → GH → Option β), F_ref01_Copy R a h K = K q h' := by
  have v0 : Bv h ⟨none, 0, 0⟩ [] := Vec.nil
  obtain ⟨h', q, e, v, k, n⟩ := app_bytes v0 r (by simp; omega)
  refine ⟨h', q, by simpa [rowsOf] using k, by simpa using v, fun x hx => by simpa [rowsOf] using n x hx, fun β K => ?_⟩
  unfold F_ref01_Copy; rw [F_ref01_Copy_gen]; exact e β K
theorem getS_b8 (bs : List Int) : ∀ (m p : Nat) (e : Int) (L : Nat → List Int), (∀ c, B8 (L c)) → ∀ c, B8 ((getS bs m p e L).L c)
  | 0, p, e, L, h => h
  | m + 1, p, e, L, h => fun c => by
    rw [getS]
    split
    · intro x hx; cases hx
    · split
      · intro x hx; cases hx
      · refine getS_b8 bs m _ _ _ (fun x => ?_) c
        split
        · exact rdB_b8 _ _ _ _
        · exact h x
theorem decL_len {bs : List Int} {f size : Int} {L : Nat → List Int} (hL : ∀ c, B8 (L c)) : ∀ (fu steps last p : Nat) (e S V N : Int) (told : List Int), Ok f size S V N told steps → (decL bs f size L fu steps last p e S V N told).out.length ≤ 400 * (steps + fu)
  | 0, steps, last, p, e, S, V, N, told, o => by rw [decL]; exact Nat.zero_le _
  | fu + 1, steps, last, p, e, S, V, N, told, o => by
    have hl := o.lt
    rw [decL]
    split
    · split
      · exact Nat.zero_le _
      · show told.length ≤ _; omega
    · split
      · exact Nat.zero_le _
      · rename_i cG
        split
        · exact Nat.zero_le _
        · obtain ⟨_, _, g3, g4⟩ := getG_ok (bs := bs) (l := (L last).take 32) (p := p) (e := e) (fun x hx => hL last x (List.mem_of_mem_take hx)) (Decidable.not_not.1 cG)
          have := decL_len (bs := bs) hL fu (steps + 1) (getG bs ((L last).take 32) p e).c.toNat (getG bs ((L last).take 32) p e).p (getG bs ((L last).take 32) p e).e _ _ _ _ (o.next ⟨g3, g4⟩)
          omega
theorem dec_len (bs : List Int) (f size : Int) (hs : size ≤ 9223372036854775807) : (dec bs f size).out.length ≤ 400 * (8 * bs.length + 1) := by
  unfold dec
  split
  · exact Nat.zero_le _
  · rename_i hq
    have hq := of_decide_eq_true (show newR f size = true by simpa using hq)
    split
    · split <;> exact Nat.zero_le _
    · split
      · exact Nat.zero_le _
      · have := decL_len (bs := bs) (f := f) (size := size) (L := (gotS bs).L) (getS_b8 bs 256 0 0 _ (fun c x hx => by cases hx)) (8 * bs.length + 1) 0 0 (gotS bs).p (gotS bs).e 0 0 0 [] ⟨⟨hq.1, hq.2.1⟩, ⟨hq.2.2, hs⟩, .inl rfl, by omega, by omega, by omega, by simp; exact hq.2.2, by simp⟩
        omega
theorem i64_topD {n : Int} (h : (Lit.int .i64 n).wf = true) : n ≤ 9223372036854775807 := by
  have h1 : IntKind.i64.max = 9223372036854775807 := by decide +kernel
  simp [Lit.wf, h1] at h
  omega
theorem reads_true {h : GH} {b0 : Sl} {zs : List Int} (r : Rd h b0 zs) (hb : B8 zs) (f size : Int) (hs : size ≤ 9223372036854775807) {R : Nat} (hR : 4000000 < R) : ∃ h', ∀ (β : Type) (K : Bool → GH → Option β), F_law14_ReduceReads R b0 f size h K = K true h' := by
  obtain ⟨q, rq, nq, e1⟩ := ref_cut r R 600
  obtain ⟨bs, hbs⟩ : ∃ bs, bs = zs.take 600 := ⟨_, rfl⟩
  rw [← hbs] at rq
  have hb2 : B8 bs := fun x hx => hb x (by rw [hbs] at hx; exact List.mem_of_mem_take hx)
  have hm : bs.length ≤ 600 := by rw [hbs]; simp; omega
  obtain ⟨h1, mine, k1, v1, n1, e2⟩ := copy_14 rq R (by omega)
  obtain ⟨h2, out2, v2, k2, a1, b1, e3⟩ := decode_eq v1.row hb2 (by omega) (f := f) hs hR
  have rq2 := (rq.keep k1 (by simp)).keep k2 (by simp)
  obtain ⟨h3, out3, v3, k3, e4⟩ := dec_ref rq2 hb2 (by omega) (f := f) hs hR
  obtain ⟨h4, k4, e5⟩ := lives14 hR h3
  have hl := dec_len bs f size hs
  rw [show ((600 : Nat) : Int) = 600 from rfl] at e1
  refine ⟨h4, fun β K => ?_⟩
  unfold F_law14_ReduceReads
  rw [F_law14_ReduceReads_gen, e1, e2, e3, e4, same_R (v2.keep k3 (by simp)) v3 (by omega) (by omega), condT, beq_self_eq_true, condT, beq_self_eq_true, condT, same_R ((v1.row.keep k2 (by simp)).keep k3 (by simp)) (rq2.keep k3 (by simp)) (by omega) (by omega), condT, e5]
theorem reads14_any {W : World} {a : Option Addr} {len cap : Nat} {bs : List Int} (hr : IsRow .u8 W a len cap bs) (f size : Int) (hs : size ≤ 9223372036854775807) : Calls Try.prog 4 #[.slice a len cap, .int .i64 f, .int .i64 size] W fun e W' => e = .returned (.bool true) ∧ Below W.heap.size W W' := by
  let l : List Ar := [⟨a, len, cap, 1, u8s (bs.take len)⟩]
  have ok : ∀ x ∈ l, ArOk (arInj l) W x := fun x hx => by cases List.mem_singleton.1 hx; exact ar_bytes hr _
  obtain ⟨h', e⟩ := reads_true (ar_row (l := l) (g := 0) rfl (ar_bytes hr (arInj l))) (IsRow.b8 hr) f size hs (R := rounds) (by unfold rounds; omega)
  obtain ⟨v, h1, hk, hc⟩ := F_law14_ReduceReads_sim (β := Value × GH) (r := (.bool true, h')) (K := fun v h => some (v, h)) (e _ _)
  cases hk
  exact ar_calls ok hc (.cons (ar_vr (l := l) (g := 0) rfl (ar_bytes hr (arInj l))) (.cons (.same _ rfl) (.cons (.same _ rfl) .nil)))
end Go.Proofs.Ytdmemmpkkibckaa.Gx

