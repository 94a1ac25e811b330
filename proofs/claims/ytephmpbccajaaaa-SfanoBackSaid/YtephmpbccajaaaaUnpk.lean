/- Lengths read from bytes: the program's Unpack; what was packed is unpacked. No condition. -/
import Derived.Test.YtephmpbccajaaaaReadR
import Derived.Test.YtephmpbccajaaaaPckC
namespace Go.Proofs.Ytephmpbccajaaaa.Gx
open Go Go.RowKit
set_option linter.unusedVariables false
set_option linter.unusedSimpArgs false
def repL (x : Nat) : List Int := List.replicate (x / 16 + 1) ((x % 16 + 1 : Nat) : Int)
def upkL (bs : List Int) : Nat → Nat → Int → List Int → Nat × Int × List Int
  | 0, p, e, out => (p, e, out)
  | k + 1, p, e, out => if e = 0 then upkL bs k (bitsP bs p 8 e) (bitsE bs p 8 e) (out ++ repL (bitsV bs p 8 e)) else (p, e, out)
theorem repL_length (x : Nat) : (repL x).length = x / 16 + 1 := by simp [repL]
theorem app_int {h : GH} {s : Sl} {zs : List Int} (v : Vci h s zs) (x : Int) (hm : zs.length ≤ 1000000) : ∃ h' s', (∀ (β : Type) (K : Sl → GH → Option β), (gnew [Value.int .i64 x] 1 h fun g h1 => gappS 1 8 s ⟨(some ⟨g, 0, none⟩), 1, 1⟩ h1 K) = K s' h') ∧ Vci h' s' (zs ++ [x]) ∧ Keep h h' (rowsOf s) ∧ (∀ k ∈ rowsOf s', k ∈ rowsOf s ∨ h.next ≤ k) := by
  obtain ⟨h', s', e, v', k, n, _⟩ := app_one' (by_ := 8) v [Value.int .i64 x] rfl Nat.one_pos rfl (by rw [v.row.ni]; simp [most]; omega)
  exact ⟨h', s', e, by unfold Vci; rw [i64s_app]; exact v', k, n⟩
theorem and15 {x : Nat} (hx : x ≤ 255) : IntKind.wrap .i64 (IntKind.wrap .i64 ((BitVec.ofInt (IntKind.bits .i64) ((x : Nat) : Int) &&& BitVec.ofInt (IntKind.bits .i64) 15).toNat : Int) + 1) = ((x % 16 + 1 : Nat) : Int) := by
  have h : IntKind.wrap .i64 ((BitVec.ofInt (IntKind.bits .i64) ((x : Nat) : Int) &&& BitVec.ofInt (IntKind.bits .i64) 15).toNat : Int) = ((x : Nat) : Int) % (2 ^ 4 : Nat) := and_mask (x := ((x : Nat) : Int)) 4 (by omega) (by omega)
  rw [h, i64w (by omega)]; omega
theorem upk_l1 (R : Nat) (gr : Option Addr) (n rows i : Int) {x : Nat} (hx : x ≤ 255) : ∀ (f k : Nat) {h : GH} {out : Sl} {zs : List Int}, k ≤ x / 16 + 1 → x / 16 + 1 < f + k → Vci h out zs → zs.length + (x / 16 + 1 - k) ≤ 100000 →
    ∃ h' q, Vci h' q (zs ++ List.replicate (x / 16 + 1 - k) ((x % 16 + 1 : Nat) : Int)) ∧ Keep h h' (rowsOf out) ∧ (∀ k ∈ rowsOf q, k ∈ rowsOf out ∨ h.next ≤ k) ∧ ∀ (β : Type) (F1 : Option Addr → Int → GH → (Int → GH → Option β) → Option β) (F2 : Option Addr → GH → (Int → GH → Option β) → Option β) (K2 : Option Addr → Int → Int → Sl → Int → GH → Option β),
      F_sfano_Unpack_l1 F1 F2 R f gr n rows out i ((x : Nat) : Int) ((x / 16 + 1 : Nat) : Int) ((k : Nat) : Int) h K2 = K2 gr n rows q i h' := by
  intro f
  induction f with
  | zero => intro k h out zs h1 h2; omega
  | succ f ih =>
    intro k h out zs h1 h2 v hz
    by_cases c : k < x / 16 + 1
    · obtain ⟨h3, s3, e3, v3, k3, n3⟩ := app_int v (((x % 16 + 1 : Nat) : Int)) (by omega)
      obtain ⟨h4, q, v4, k4, n4, e4⟩ := ih (k + 1) (by omega) (by omega) v3 (by rw [List.length_append, List.length_singleton]; omega)
      refine ⟨h4, q, ?_, k3.trans k4 (fun y hy => n3 y hy), fun y hy => ?_, fun β F1 F2 K2 => ?_⟩
      · rw [show x / 16 + 1 - k = (x / 16 + 1 - (k + 1)) + 1 by omega, List.replicate_succ]
        rw [List.append_assoc] at v4
        exact v4
      · rcases n4 y hy with q1 | q1
        · exact n3 y q1
        · have := k3.1; exact .inr (by omega)
      · rw [F_sfano_Unpack_l1_succ, decT (by omega), condT, and15 hx]
        refine Eq.trans (e3 β _) ?_
        rw [i64w (by omega), show ((k : Nat) : Int) + 1 = ((k + 1 : Nat) : Int) from rfl]
        exact e4 β F1 F2 K2
    · refine ⟨h, out, ?_, .refl _ _, fun y hy => .inl hy, fun β F1 F2 K2 => ?_⟩
      · rw [show x / 16 + 1 - k = 0 by omega, List.replicate_zero, List.append_nil]; exact v
      · rw [F_sfano_Unpack_l1_succ, decF (by omega), condF]
theorem bitsV_lt (bs : List Int) (p n : Nat) (e : Int) : bitsV bs p n e < 2 ^ n := by
  unfold bitsV; split
  · exact rdV_lt _ _ _
  · exact Nat.pow_pos (by omega)
theorem upk_l0 {R : Nat} (hR : 4000000 < R) {bs : List Int} {g : Nat} {rb : Sl} (n : Int) {rows : Nat} : ∀ (f i : Nat) {h : GH} {p : Nat} {e : Int} {out : Sl} {zs : List Int}, i ≤ rows → rows < f + i → rows ≤ 256 → Rdr h g rb bs p e → Vci h out zs → g ∉ rowsOf out → (∀ x ∈ rowsOf out, x ∉ rowsOf rb) → zs.length ≤ 16 * i →
    ∃ h' q, Rdr h' g rb bs (upkL bs (rows - i) p e zs).1 (upkL bs (rows - i) p e zs).2.1 ∧ Vci h' q (upkL bs (rows - i) p e zs).2.2 ∧ Keep h h' (g :: rowsOf out) ∧ (∀ k ∈ rowsOf q, k ∈ rowsOf out ∨ h.next ≤ k) ∧ (upkL bs (rows - i) p e zs).2.2.length ≤ 16 * rows ∧ ∀ (β : Type) (K0 : Option Addr → Int → Sl → GH → Option β),
      F_sfano_Unpack_l0 (F_bitio_Reader_Bits R) (F_bitio_Reader_Err R) R f (some ⟨g, 0, none⟩) n ((rows : Nat) : Int) out ((i : Nat) : Int) h K0 = K0 (some ⟨g, 0, none⟩) n q h' := by
  intro f
  induction f with
  | zero => intro i h p e out zs h1 h2; omega
  | succ f ih =>
    intro i h p e out zs h1 h2 h3 r v hg hd hz
    by_cases c : i < rows
    · by_cases he : e = 0
      · subst he
        obtain ⟨hB, rB, kB, eB⟩ := bits_prog r (n := 8) (by omega) hR
        have hx := bitsV_lt bs p 8 0
        rw [show (2 : Nat) ^ 8 = 256 by decide] at hx
        have vB := v.keep kB (fun x hx hm => by simp at hm; subst hm; exact hg hx)
        obtain ⟨hC, s3, vC, kC, nC, eC⟩ := upk_l1 R (some ⟨g, 0, none⟩) n ((rows : Nat) : Int) ((i : Nat) : Int) (x := bitsV bs p 8 0) (by omega) R 0 (by omega) (by omega) vB (by omega)
        have hlt := r.lt
        have g3 : g ∉ rowsOf s3 := fun q => by
          rcases nC g q with q1 | q1
          · exact hg q1
          · have := kB.1; omega
        have d3 : ∀ x ∈ rowsOf s3, x ∉ rowsOf rb := fun x hx q => by
          rcases nC x hx with q1 | q1
          · exact hd x q1 q
          · have := hlt.2.1 x q; have := kB.1; omega
        rw [Nat.sub_zero] at vC
        obtain ⟨hD, q, rD, vD, kD, nD, lD, eD⟩ := ih (i + 1) (by omega) (by omega) h3 (rB.keep kC hg (fun x hx hm => hd x hm hx)) vC g3 d3 (by rw [List.length_append, List.length_replicate]; omega)
        have eu : upkL bs (rows - i) p 0 zs = upkL bs (rows - (i + 1)) (bitsP bs p 8 0) (bitsE bs p 8 0) (zs ++ repL (bitsV bs p 8 0)) := by rw [show rows - i = (rows - (i + 1)) + 1 by omega, upkL, if_pos rfl]
        rw [eu]
        have kBC : Keep h hC (g :: rowsOf out) := (kB.mono (by simp)).trans (kC.mono (o1 := g :: rowsOf out) (fun x hx => by simp [hx])) (fun x hx => .inl hx)
        refine ⟨hD, q, rD, vD, kBC.trans kD (fun x hx => ?_), fun x hx => ?_, lD, fun β K0 => ?_⟩
        · rcases List.mem_cons.1 hx with e | e
          · subst e; exact .inl (by simp)
          · rcases nC x e with q1 | q1
            · exact .inl (by simp [q1])
            · have := kB.1; exact .inr (by omega)
        · rcases nD x hx with q1 | q1
          · rcases nC x q1 with q2 | q2
            · exact .inl q2
            · have := kB.1; exact .inr (by omega)
          · have := kBC.1; exact .inr (by omega)
        · rw [F_sfano_Unpack_l0_succ, decT (by omega), condT, err_eq r, beq_self_eq_true, condT]
          have eB' := eB β
          rw [show ((8 : Nat) : Int) = 8 from rfl] at eB'
          rw [eB', i64w (x := ((bitsV bs p 8 0 : Nat) : Int)) (by omega), show shrI .i64 ((bitsV bs p 8 0 : Nat) : Int) 4 = ((bitsV bs p 8 0 / 16 : Nat) : Int) by rw [show (4 : Int) = ((4 : Nat) : Int) from rfl, shr_nat .i64 _ 4 (by decide), Nat.shiftRight_eq_div_pow], i64w (by omega), show ((bitsV bs p 8 0 / 16 : Nat) : Int) + 1 = ((bitsV bs p 8 0 / 16 + 1 : Nat) : Int) from rfl]
          have eC' := eC β (F_bitio_Reader_Bits R) (F_bitio_Reader_Err R)
          rw [show ((0 : Nat) : Int) = 0 from rfl] at eC'
          refine Eq.trans (eC' _) ?_
          rw [i64w (by omega), show ((i : Nat) : Int) + 1 = ((i + 1 : Nat) : Int) from rfl]
          exact eD β K0
      · have eu : upkL bs (rows - i) p e zs = (p, e, zs) := by rw [show rows - i = (rows - (i + 1)) + 1 by omega, upkL, if_neg he]
        rw [eu]
        refine ⟨h, out, r, v, .refl _ _, fun x hx => .inl hx, by simp only; omega, fun β K0 => ?_⟩
        rw [F_sfano_Unpack_l0_succ, decT (by omega), condT, err_eq r, beq_int, decF he, condF]
    · have eu : upkL bs (rows - i) p e zs = (p, e, zs) := by rw [show rows - i = 0 by omega]; rfl
      rw [eu]
      refine ⟨h, out, r, v, .refl _ _, fun x hx => .inl hx, by simp only; omega, fun β K0 => ?_⟩
      rw [F_sfano_Unpack_l0_succ, decF (by omega), condF]
/-- what Unpack finds -/
def upkR (bs : List Int) (p : Nat) : Nat × Int × List Int := upkL bs (bitsV bs p 8 0 + 1) (bitsP bs p 8 0) (bitsE bs p 8 0) []
def upkE (bs : List Int) (p n : Nat) : Int := if (upkR bs p).2.1 ≠ 0 then (upkR bs p).2.1 else if (upkR bs p).2.2.length ≠ n then 6 else 0
def upkO (bs : List Int) (p n : Nat) : List Int := if upkE bs p n = 0 then (upkR bs p).2.2 else []
theorem unpack_prog {R : Nat} (hR : 4000000 < R) {bs : List Int} {g p n : Nat} {rb : Sl} {h : GH} (r : Rdr h g rb bs p 0) (h1 : 1 ≤ n) (h2 : n ≤ 256) :
    ∃ h' q, Rdr h' g rb bs (upkR bs p).1 (upkR bs p).2.1 ∧ Rdi h' q (upkO bs p n) ∧ Keep h h' [g] ∧ (∀ k ∈ rowsOf q, h.next ≤ k) ∧ ∀ (β : Type) (K : Sl → Int → GH → Option β), F_sfano_Unpack R (some ⟨g, 0, none⟩) ((n : Nat) : Int) h K = K q (upkE bs p n) h' := by
  obtain ⟨hB, rB, kB, eB⟩ := bits_prog r (n := 8) (by omega) hR
  have hx := bitsV_lt bs p 8 0
  rw [show (2 : Nat) ^ 8 = 256 by decide] at hx
  obtain ⟨hC, q, rC, vC, kC, nC, lC, eC⟩ := upk_l0 hR ((n : Nat) : Int) (rows := bitsV bs p 8 0 + 1) R 0 (by omega) (by omega) (by omega) (out := ⟨none, 0, 0⟩) (zs := []) rB (Vec.nil (h := hB) (z := 1)) (by simp [rowsOf]) (by simp [rowsOf]) (by simp)
  rw [Nat.sub_zero] at rC vC lC
  have kk : Keep h hC [g] := (kB.mono (by simp)).trans kC (fun x hx => by simp [rowsOf] at hx; subst hx; exact .inl (by simp))
  have hstart : ∀ (β : Type) (K : Sl → Int → GH → Option β), F_sfano_Unpack R (some ⟨g, 0, none⟩) ((n : Nat) : Int) h K = (bif (upkR bs p).2.1 != 0 then K ⟨none, 0, 0⟩ (upkR bs p).2.1 hC else (bif ((q.n : Nat) : Int) != ((n : Nat) : Int) then K ⟨none, 0, 0⟩ 6 hC else K q 0 hC)) := fun β K => by
    unfold F_sfano_Unpack
    have eB' := eB β
    rw [show ((8 : Nat) : Int) = 8 from rfl] at eB'
    rw [F_sfano_Unpack_gen, decF (by omega), condF, decF (by omega), condF, eB', i64w (x := ((bitsV bs p 8 0 : Nat) : Int)) (by omega), i64w (by omega), show ((bitsV bs p 8 0 : Nat) : Int) + 1 = ((bitsV bs p 8 0 + 1 : Nat) : Int) from rfl]
    have eC' := eC β
    rw [show ((0 : Nat) : Int) = 0 from rfl] at eC'
    refine Eq.trans (eC' _) ?_
    rw [err_eq rC, err_eq rC]; rfl
  have hqn := vC.row.ni
  by_cases c1 : (upkR bs p).2.1 = 0
  · by_cases c2 : (upkR bs p).2.2.length = n
    · have ce : upkE bs p n = 0 := by rw [upkE, if_neg (by simp [c1]), if_neg (by simp [c2])]
      refine ⟨hC, q, rC, by rw [upkO, if_pos ce]; exact vC.row, kk, fun k hk => ?_, fun β K => ?_⟩
      · rcases nC k hk with q1 | q1
        · simp [rowsOf] at q1
        · have := kB.1; omega
      · rw [hstart, c1, ce, bne_self_eq_false, condF, show q.n = n from by rw [← c2]; exact hqn, bne_self_eq_false, condF]
    · have ce : upkE bs p n = 6 := by rw [upkE, if_neg (by simp [c1]), if_pos c2]
      refine ⟨hC, ⟨none, 0, 0⟩, rC, by rw [upkO, if_neg (by rw [ce]; decide)]; exact Row.nil, kk, by simp [rowsOf], fun β K => ?_⟩
      rw [hstart, c1, ce, bne_self_eq_false, condF, bne_int, decT (by intro t; exact c2 (by rw [← Int.ofNat.inj t]; exact hqn.symm)), condT]
  · have ce : upkE bs p n = (upkR bs p).2.1 := by rw [upkE, if_pos c1]
    refine ⟨hC, ⟨none, 0, 0⟩, rC, by rw [upkO, if_neg (by rw [ce]; exact c1)]; exact Row.nil, kk, by simp [rowsOf], fun β K => ?_⟩
    rw [hstart, ce, bne_int, decT c1, condT]
/-! ### what was packed -/
def expP : List Int → List Int
  | [] => []
  | b :: r => repL b.toNat ++ expP r
theorem rd_byte {bs : List Int} (hb : B8 bs) {j : Nat} (hj : j < bs.length) : bitsV bs (8 * j) 8 0 = (bs.getD j 0).toNat ∧ bitsP bs (8 * j) 8 0 = 8 * (j + 1) ∧ bitsE bs (8 * j) 8 0 = 0 := by
  have c : (0 : Int) = 0 ∧ 8 * j + 8 ≤ 8 * bs.length := ⟨rfl, by omega⟩
  refine ⟨?_, ?_, ?_⟩
  · rw [bitsV, if_pos c]; unfold rdV; rw [show (2 : Nat) ^ 8 = 256 by decide, numN_byte hb hj]
  · rw [bitsP, if_pos c]; omega
  · rw [bitsE, if_pos rfl, if_pos c.2]
theorem upkL_rows {bs : List Int} (hb : B8 bs) : ∀ (k j : Nat) (out : List Int), j + k ≤ bs.length → upkL bs k (8 * j) 0 out = (8 * (j + k), 0, out ++ expP ((bs.drop j).take k))
  | 0, j, out, h => by simp [upkL, expP]
  | k + 1, j, out, h => by
    obtain ⟨e1, e2, e3⟩ := rd_byte hb (show j < bs.length by omega)
    rw [upkL, if_pos rfl, e1, e2, e3, upkL_rows hb k (j + 1) _ (by omega), getD_drop (show j < bs.length by omega), List.take_succ_cons, expP, List.append_assoc, show j + 1 + k = j + (k + 1) by omega]
theorem rep_row {n : Nat} {x : Int} (hn : 1 ≤ n ∧ n ≤ 16) (hx : lenP x) : repL (rowB ((n : Nat) : Int) x).toNat = List.replicate n x := by
  unfold lenP at hx
  unfold repL rowB
  have h1 : ((((n : Nat) : Int) - 1) * 16 + x - 1).toNat = (n - 1) * 16 + (x.toNat - 1) := by omega
  rw [h1, show ((n - 1) * 16 + (x.toNat - 1)) / 16 + 1 = n by omega, show ((((n - 1) * 16 + (x.toNat - 1)) % 16 + 1 : Nat) : Int) = x by omega]
theorem rep_snoc (n : Nat) (x : Int) (r : List Int) : List.replicate n x ++ x :: r = List.replicate (n + 1) x ++ r := by
  rw [List.replicate_succ', List.append_assoc]; rfl
theorem exp_goP : ∀ (r : List Int) (x : Int) (n : Nat), 1 ≤ n → n ≤ 16 → (∀ y ∈ x :: r, lenP y) → expP (goP ((n : Nat) : Int) (x :: r)) = List.replicate (n - 1) x ++ x :: r
  | [], x, n, h1, h2, h => by
    rw [goP, expP, expP, List.append_nil, rep_row ⟨h1, h2⟩ (h x (by simp)), rep_snoc, List.append_nil, show n - 1 + 1 = n by omega]
  | y :: r, x, n, h1, h2, h => by
    unfold goP
    by_cases c : y = x ∧ ((n : Nat) : Int) < 16
    · rw [if_pos c, show ((n : Nat) : Int) + 1 = ((n + 1 : Nat) : Int) from rfl, exp_goP r y (n + 1) (by omega) (by omega) (fun z hz => h z (by simp at hz ⊢; exact .inr hz)), c.1, rep_snoc, rep_snoc, show n + 1 - 1 + 1 = n - 1 + 1 + 1 by omega, List.replicate_succ' (n := n - 1 + 1), List.append_assoc]; rfl
    · rw [if_neg c, expP, show (1 : Int) = ((1 : Nat) : Int) from rfl, exp_goP r y 1 (by omega) (by omega) (fun z hz => h z (by simp at hz ⊢; exact .inr hz)), rep_row ⟨h1, h2⟩ (h x (by simp)), Nat.sub_self, List.replicate_zero, List.nil_append, rep_snoc, show n - 1 + 1 = n by omega]
theorem goP_b8 : ∀ (r : List Int) (x n : Int), 1 ≤ n → n ≤ 16 → (∀ y ∈ x :: r, lenP y) → B8 (goP n (x :: r))
  | [], x, n, h1, h2, h => fun b hb => by
    rw [goP] at hb
    rw [List.mem_singleton.1 hb]
    have := h x (by simp)
    unfold lenP at this; unfold rowB; omega
  | y :: r, x, n, h1, h2, h => fun b hb => by
    have hx := h x (by simp)
    unfold lenP at hx
    unfold goP at hb
    by_cases c : y = x ∧ n < 16
    · rw [if_pos c] at hb
      exact goP_b8 r y (n + 1) (by omega) (by omega) (fun z hz => h z (by simp at hz ⊢; exact .inr hz)) b hb
    · rw [if_neg c] at hb
      rcases List.mem_cons.1 hb with e | e
      · subst e; unfold rowB; omega
      · exact goP_b8 r y 1 (by omega) (by omega) (fun z hz => h z (by simp at hz ⊢; exact .inr hz)) b e
theorem goP_pos : ∀ (r : List Int) (x n : Int), 1 ≤ (goP n (x :: r)).length
  | [], x, n => by simp [goP]
  | y :: r, x, n => by
    unfold goP; split
    · exact goP_pos r y (n + 1)
    · simp
theorem pack_back {zs : List Int} (hr : rightP zs = true) : B8 (packP zs) ∧ upkE (packP zs) 0 zs.length = 0 ∧ upkO (packP zs) 0 zs.length = zs ∧ (packP zs).length ≤ zs.length + 1 := by
  obtain ⟨h1, h2, h3⟩ := of_decide_eq_true hr
  obtain ⟨x, r, rfl⟩ : ∃ x r, zs = x :: r := by
    cases zs with
    | nil => simp at h1
    | cons x r => exact ⟨x, r, rfl⟩
  have hl := goP_len (x :: r) 1
  have hp := goP_pos r x 1
  have hb := goP_b8 r x 1 (by omega) (by omega) h3
  obtain ⟨G, hG⟩ : ∃ G, G = goP 1 (x :: r) := ⟨_, rfl⟩
  have ex := exp_goP r x 1 (by omega) (by omega) h3
  rw [show ((1 : Nat) : Int) = 1 from rfl, ← hG, Nat.sub_self, List.replicate_zero, List.nil_append] at ex
  rw [← hG] at hl hp hb
  have epk : packP (x :: r) = ((G.length - 1 : Nat) : Int) :: G := by
    rw [packP, if_pos hr, ← hG, u8w (by omega)]; congr 1; omega
  have hb2 : B8 (packP (x :: r)) := by
    rw [epk]
    intro b hbm
    rcases List.mem_cons.1 hbm with e | e
    · subst e; omega
    · exact hb b e
  obtain ⟨e1, e2, e3⟩ := rd_byte hb2 (j := 0) (by rw [epk]; simp)
  rw [Nat.mul_zero] at e1 e2 e3
  have hfirst : bitsV (packP (x :: r)) 0 8 0 + 1 = G.length := by rw [e1, epk, List.getD_cons_zero, Int.toNat_natCast]; omega
  have hR : upkR (packP (x :: r)) 0 = (8 * (1 + G.length), 0, x :: r) := by
    have := upkL_rows hb2 G.length 1 [] (by rw [epk, List.length_cons]; omega)
    rw [upkR, hfirst, e2, e3, show 8 * (0 + 1) = 8 * 1 by omega, this, epk, List.drop_succ_cons, List.drop_zero, List.take_length, ex, List.nil_append]
  have hE : upkE (packP (x :: r)) 0 (x :: r).length = 0 := by rw [upkE, hR]; simp
  refine ⟨hb2, hE, by rw [upkO, if_pos hE, hR], by rw [epk, List.length_cons]; omega⟩
end Go.Proofs.Ytephmpbccajaaaa.Gx

