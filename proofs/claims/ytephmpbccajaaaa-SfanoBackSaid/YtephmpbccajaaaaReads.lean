/- Which symbols any bits are: the law. No condition. -/
import Derived.Test.YtephmpbccajaaaaNext
import Derived.Test.YtephmpbccajaaaaWords
import Derived.Test.YtephmpbccajaaaaCutR
namespace Go.Proofs.Ytephmpbccajaaaa.Gx
open Go Go.RowKit
set_option linter.unusedVariables false
set_option linter.unusedSimpArgs false
theorem read_eq {h : GH} {g : Nat} {rb : Sl} {bs : List Int} {p : Nat} {e : Int} (r : Rdr h g rb bs p e) (R : Nat) {β : Type} (K : Int → GH → Option β) : F_bitio_Reader_Read R (some ⟨g, 0, none⟩) h K = K (p : Nat) h := by
  obtain ⟨a, b, c, r, q⟩ := r
  have h1 := r.le
  have h2 := r.small
  have h3 := r.n8
  unfold F_bitio_Reader_Read
  rw [F_bitio_Reader_Read_gen, isNone_s, condF, exA_s, cell_of r.look, show nth [Value.slice rb.a rb.n rb.c, .int .i64 (a : Nat), .int .u64 (b : Nat), .int .i64 (c : Nat), .int .i64 e, .bool true] (0 + 1) = some (.int .i64 (a : Nat)) from rfl, exI_s, exA_s, cell_of r.look, show nth [Value.slice rb.a rb.n rb.c, .int .i64 (a : Nat), .int .u64 (b : Nat), .int .i64 (c : Nat), .int .i64 e, .bool true] (0 + 3) = some (.int .i64 (c : Nat)) from rfl, exI_s]
  rw [i64w (x := 8 * ((a : Nat) : Int)) (by omega), i64w (by omega), q, show 8 * ((a : Nat) : Int) - ((c : Nat) : Int) = ((8 * a - c : Nat) : Int) by omega]
theorem reads_loop {zs : List Int} (c0 : checkE zs = 0) {R : Nat} (hR : 4000000 < R) {T : List (Int × Int)} {ps : List (Nat × Nat)} (t : Tree zs T ps zs.length) {bs : List Int} {gd gt g g2 : Nat} {rb rb2 s : Sl} (a1 : gd ≠ g) (a2 : gt ≠ g) (a3 : gd ≠ g2) (a4 : gt ≠ g2) (a5 : g ≠ g2) (a6 : g ∉ rowsOf rb2) (a7 : g2 ∉ rowsOf rb) (a8 : g ∉ rowsOf s) (a9 : g2 ∉ rowsOf s) :
    ∀ (f i p : Nat) {h : GH}, 400 < f + i → i ≤ 400 → Dec h gd gt T → Row h s 2 (codesV (wordsP zs)) → Rdr h g rb bs p 0 → Rrd h g2 rb2 bs p 0 →
      ∃ h', ∀ (β : Type) (F1 : Sl → Int → GH → (Sl → GH → Option β) → Option β) (F2 : Sl → Int → GH → (Sl → GH → Option β) → Option β) (F3 : Sl → GH → (Option Addr → Int → GH → Option β) → Option β) (F4 : Sl → GH → (Sl → Int → GH → Option β) → Option β) (F5 : Sl → GH → (Option Addr → GH → Option β) → Option β) (F6 : GH → (Bool → GH → Option β) → Option β) (K0 : GH → Option β) (Kr : Bool → GH → Option β),
        F_law06_SfanoReads_l0 F1 F2 F3 F4 F5 (F_sfano_Decoder_Next R) (F_ref06_Next R) (F_bitio_Reader_Read R) F6 R f (some ⟨gd, 0, none⟩) s 0 (some ⟨g, 0, none⟩) (some ⟨g2, 0, none⟩) (i : Nat) h K0 Kr = K0 h' := by
  intro f
  obtain ⟨hx, hw, hl1, hl2⟩ := checkE_0 c0
  induction f with
  | zero =>
    intro i p h h1 h2 d rs r r2
    omega
  | succ f ih =>
    intro i p h h1 h2 d rs r r2
    by_cases hi : i < 400
    · obtain ⟨hA, rA, kA, eA⟩ := next_prog hx hw hR t a1 a2 d r
      obtain ⟨hB, rB, kB, eB⟩ := next_ref hx hw c0 hR a9 (rs.keep kA (fun x hx hm => by simp at hm; subst hm; exact a8 hx)) (r2.keep kA (by simpa using a5.symm) (fun x hx hm => by simp at hm; subst hm; exact a6 hx))
      have rA' := rA.keep kB (by simpa using a5) (fun x hx hm => by simp at hm; subst hm; exact a7 hx)
      have eR := fun (β : Type) (K : Int → GH → Option β) => read_eq rA' R K
      have cAt : hB.cell ⟨g2, 0 + 1, none⟩ = some (.int .i64 ((nextG zs bs p 16 0 0).2.2 : Nat)) := by rw [cell_of rB.look]; rfl
      by_cases he : (nextG zs bs p 16 0 0).2.1 = 0
      · have hz : nextE (nextG zs bs p 16 0 0).2.1 = 0 := by rw [he]; rfl
        rw [hz] at rA' rB
        have kAB : Keep h hB [g, g2] := (kA.mono (by simp)).trans (kB.mono (o1 := [g, g2]) (by simp)) (fun q hq => .inl hq)
        obtain ⟨h', e'⟩ := ih (i + 1) (nextG zs bs p 16 0 0).2.2 (by omega) (by omega) (d.keep kAB (by simp; omega) (by simp; omega)) (rs.keep kAB (fun x hx hm => by simp at hm; rcases hm with rfl | rfl; exact a8 hx; exact a9 hx)) rA' rB
        refine ⟨h', fun β F1 F2 F3 F4 F5 F6 K0 Kr => ?_⟩
        rw [F_law06_SfanoReads_l0_succ, decT (by omega), condT, beq_self_eq_true, condT, eA, eB, bne_self_eq_false, condF, bne_self_eq_false, condF, eR, exA_s, cAt, exI_s, sameAt_1, cAt, veqO_i, condT, bne_self_eq_false, condF, he, bne_self_eq_false, condF, i64w (by omega)]
        exact e' β F1 F2 F3 F4 F5 F6 K0 Kr
      · refine ⟨hB, fun β F1 F2 F3 F4 F5 F6 K0 Kr => ?_⟩
        rw [F_law06_SfanoReads_l0_succ, decT (by omega), condT, beq_self_eq_true, condT, eA, eB, bne_self_eq_false, condF, bne_self_eq_false, condF, eR, exA_s, cAt, exI_s, sameAt_1, cAt, veqO_i, condT, bne_self_eq_false, condF, bne_int, decT he, condT]
    · refine ⟨h, fun β F1 F2 F3 F4 F5 F6 K0 Kr => ?_⟩
      rw [F_law06_SfanoReads_l0_succ, decF (by omega), condF]
theorem reads_true {h : GH} {a b : Sl} {zs bs : List Int} (r : Rdi h a zs) (rb : Rd h b bs) (hb : B8 bs) {R : Nat} (hR : 4000000 < R) : ∃ h', ∀ (β : Type) (K : Bool → GH → Option β), F_law06_SfanoReads R a b h K = K true h' := by
  obtain ⟨q, rq, _, e1⟩ := ref_ints r R 80
  obtain ⟨q2, rq2, _, e2⟩ := ref_cut rb R 40
  have hb40 : B8 (bs.take 40) := fun x hx => hb x (List.mem_of_mem_take hx)
  have hm : (zs.take 80).length ≤ 1000000 := by simp; omega
  obtain ⟨h3, p3, k3, c3, e3⟩ := prog_new rq hm hR
  obtain ⟨h4, s4, k4, r4, n4, e4⟩ := ref_words (rq.keep k3 (by simp)) hm hR
  obtain ⟨h5, g, rb5, r5, k5, n5, m5, e5⟩ := open_eq ((rq2.keep k3 (by simp)).keep k4 (by simp)) hb40 (by simp; omega) R
  have k6 := keep_push h5 (.row ⟨[.slice q2.a q2.n q2.c, .int .i64 0, .int .i64 0], 0, false⟩) []
  have l2 := rq2.lt
  have l4 := r4.lt
  have l5 := r5.lt
  have b3 := k3.1
  have b4 := k4.1
  have b5 := k5.1
  have rr : Rrd (h5.push (.row ⟨[.slice q2.a q2.n q2.c, .int .i64 0, .int .i64 0], 0, false⟩)) h5.next q2 (bs.take 40) 0 0 := ⟨look_push_new, (((rq2.keep k3 (by simp)).keep k4 (by simp)).keep k5 (by simp)).keep k6 (by simp), fun q => by have := l2 _ q; omega, hb40, by simp; omega, by omega⟩
  rw [show ((80 : Nat) : Int) = 80 from rfl] at e1
  rw [show ((40 : Nat) : Int) = 40 from rfl] at e2
  rcases c3 with ⟨c, rfl⟩ | ⟨c, gd, gt, T, ps, rfl, n1, n2, d, t⟩
  · refine ⟨h5.push (.row ⟨[.slice q2.a q2.n q2.c, .int .i64 0, .int .i64 0], 0, false⟩), fun β K => ?_⟩
    obtain ⟨R', hR'⟩ : ∃ q, R = q + 1 := ⟨R - 1, by omega⟩
    unfold F_law06_SfanoReads
    rw [F_law06_SfanoReads_gen, e1, e2, e3, e4, bne_self_eq_false, condF, e5, gnew_eq rfl]
    rw [hR', F_law06_SfanoReads_l0_succ, decT (by omega), condT, beq_int, decF c, condF, lives06]
  · have lt3 := d.ptr
    have l3a := look_lt d.ptr
    have l3b := look_lt d.tree
    obtain ⟨h', e'⟩ := reads_loop c hR t (bs := bs.take 40) (gd := gd) (gt := gt) (g := g) (g2 := h5.next) (rb := rb5) (rb2 := q2) (s := s4) (by omega) (by omega) (by omega) (by omega) (by omega) (fun q => by have := l2 _ q; omega) (fun q => by have := l5.2.1 _ q; omega) (fun q => by have := l4 _ q; omega) (fun q => by have := l4 _ q; omega) R 0 0 (by omega) (by omega) (((d.keep k4 (by simp) (by simp)).keep k5 (by simp) (by simp)).keep k6 (by simp) (by simp)) ((r4.keep k5 (by simp)).keep k6 (by simp)) (r5.keep k6 (by simp) (by simp)) rr
    refine ⟨h', fun β K => ?_⟩
    unfold F_law06_SfanoReads
    rw [F_law06_SfanoReads_gen, e1, e2, e3, e4, bne_self_eq_false, condF, e5, gnew_eq rfl, c]
    refine Eq.trans (e' β _ _ _ _ _ _ _ _) ?_
    rw [lives06]
theorem reads_any {W : World} {a b : Option Addr} {len cap len2 cap2 : Nat} {zs bs : List Int} (hr : IsRow .i64 W a len cap zs) (hr2 : IsRow .u8 W b len2 cap2 bs) : Calls Try.prog 6 #[.slice a len cap, .slice b len2 cap2] W fun e W' => e = .returned (.bool true) ∧ Below W.heap.size W W' := by
  let l : List Ar := [⟨a, len, cap, 1, i64s (zs.take len)⟩, ⟨b, len2, cap2, 1, u8s (bs.take len2)⟩]
  have ok : ∀ x ∈ l, ArOk (arInj l) W x := fun x hx => by
    rcases List.mem_cons.1 hx with e | hx
    · subst e; exact ar_ints hr _
    · cases List.mem_singleton.1 hx; exact ar_bytes hr2 _
  obtain ⟨h', e⟩ := reads_true (ar_row (l := l) (g := 0) rfl (ar_ints hr (arInj l))) (ar_row (l := l) (g := 1) rfl (ar_bytes hr2 (arInj l))) (IsRow.b8 hr2) (R := rounds) (by unfold rounds; omega)
  obtain ⟨v, h1, hk, hc⟩ := F_law06_SfanoReads_sim (β := Value × GH) (r := (.bool true, h')) (K := fun v h => some (v, h)) (e _ _)
  cases hk
  exact ar_calls ok hc (.cons (ar_vr (l := l) (g := 0) rfl (ar_ints hr (arInj l))) (.cons (ar_vr (l := l) (g := 1) rfl (ar_bytes hr2 (arInj l))) .nil))
end Go.Proofs.Ytephmpbccajaaaa.Gx

