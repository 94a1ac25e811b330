/- The document's best followers of one byte: behind, One. No condition. -/
import Derived.Test.YtdmemmpkkibckaaBstC
import Derived.Test.YtdmemmpkkibckaaBstR
namespace Go.Proofs.Ytdmemmpkkibckaa.Gx
open Go Go.RowKit
set_option linter.unusedVariables false
set_option linter.unusedSimpArgs false
/-! ### the document's -/
theorem Z40_eq : Z92 = i64s (List.replicate 256 0) := chkZ_eq _ _ (by kernel_rfl)
theorem behind_loop {s : Sl} {b : List Int} (hb : B8 b) (hm : b.length ≤ 100000) (R : Nat) {c : Int} {p : Option Addr} {g : Nat} (hg : g ∉ rowsOf s) : ∀ (f i : Nat) {h : GH}, i ≤ b.length → b.length < f + i → Rd h s b → h.look g = some (.row ⟨i64s (behL b i c), 0, false⟩) →
    ∃ h', h'.look g = some (.row ⟨i64s (behL b b.length c), 0, false⟩) ∧ Keep h h' [g] ∧ ∀ (β : Type) (K0 : Option Addr → Option Addr → GH → Option β), F_ref12_behind_l0 R f s c p (some ⟨g, 0, none⟩) (lastB b i) ((i : Nat) : Int) h K0 = K0 p (some ⟨g, 0, none⟩) h' := by
  intro f
  induction f with
  | zero => intro i h h1 h2; omega
  | succ f ih =>
    intro i h h1 h2 r hl
    by_cases hi : i < b.length
    · have hx : 0 ≤ b.getD i 0 ∧ b.getD i 0 ≤ 255 := by rw [List.getD_eq_getElem?_getD, List.getElem?_eq_getElem hi]; exact hb _ (List.getElem_mem hi)
      have hst := behL_step b hb i hi c
      have hby : ∀ {β : Type} (h : GH), Rd h s b → ∀ K : Int → Option β, (exA s.a fun g o => within ((i : Nat) : Int) b.length (exI .u8 (h.cell ⟨g, o + ((i : Nat) : Int).toNat * 1, none⟩) K)) = K (b.getD i 0) := fun h r K => by
        have := r.byte (i := ((i : Nat) : Int)) (by omega) (by omega) K
        rw [r.n] at this; exact this
      have ei : IntKind.wrap .i64 (((i : Nat) : Int) + 1) = ((i + 1 : Nat) : Int) := by rw [i64w (by omega)]; rfl
      by_cases c1 : lastB b i = c
      · rw [if_pos c1] at hst
        have hf := behF_le b i c (b.getD i 0)
        have hgd : (behL b i c).getD (b.getD i 0).toNat 0 = ((behF b i c (b.getD i 0) : Nat) : Int) := by rw [behL_getD b i c (by omega), Int.toNat_of_nonneg hx.1]
        have hp := fun (β : Type) (K : GH → Option β) => i64_put hl (i := (b.getD i 0).toNat) (by rw [behL_length]; omega) ((behL b i c).getD (b.getD i 0).toNat 0 + 1) K
        rw [← hst] at hp
        have k0 := keep_put h g (some (.row ⟨i64s (behL b (i + 1) c), 0, false⟩))
        have r2 := r.keep k0 (fun x hx hm => by simp at hm; subst hm; exact hg hx)
        obtain ⟨h', l', k', e'⟩ := ih (i + 1) (by omega) (by omega) r2 (look_put_same (look_lt hl))
        refine ⟨h', l', k0.trans k' (fun q hq => .inl hq), fun β K0 => ?_⟩
        rw [F_ref12_behind_l0_succ, r.n, decT (by omega), condT, beq_int, decT c1, condT, hby h r, hby h r, exA_s, within_t (by omega) (by omega), Nat.zero_add, Nat.mul_one, i64_cell hl (by rw [behL_length]; omega), exI_s, exA_s, within_t (by omega) (by omega), Nat.zero_add, i64w (x := (behL b i c).getD (b.getD i 0).toNat 0 + 1) (by rw [hgd]; omega), hp β, hby _ r2, ei, ← lastB_succ b i]
        exact e' β K0
      · rw [if_neg c1] at hst
        obtain ⟨h', l', k', e'⟩ := ih (i + 1) (by omega) (by omega) r (by rw [hst]; exact hl)
        refine ⟨h', l', k', fun β K0 => ?_⟩
        rw [F_ref12_behind_l0_succ, r.n, decT (by omega), condT, beq_int, decF c1, condF, hby h r, ei, ← lastB_succ b i]
        exact e' β K0
    · have : i = b.length := by omega
      subst this
      refine ⟨h, hl, .refl _ _, fun β K0 => ?_⟩
      rw [F_ref12_behind_l0_succ, r.n, decF (by omega), condF]
theorem behind_eq {h : GH} {s : Sl} {b : List Int} (r : Rd h s b) (hb : B8 b) (hm : b.length ≤ 100000) {R : Nat} (hR : 4000000 < R) (c : Int) : ∃ h', Keep h h' [] ∧ ∀ (β : Type) (K : List Value → GH → Option β), F_ref12_behind R s c h K = K (i64s (behL b b.length c)) h' := by
  have k0 := keep_push h (.row ⟨i64s (List.replicate 256 0), 0, false⟩) []
  have k1 := keep_push (h.push (.row ⟨i64s (List.replicate 256 0), 0, false⟩)) (.row ⟨i64s (List.replicate 256 0), 0, false⟩) []
  have k01 := k0.trans k1 (by simp)
  have lt := r.lt
  obtain ⟨h1, l1, kk, e1⟩ := behind_loop (s := s) hb hm R (c := c) (p := some ⟨h.next, 0, none⟩) (g := h.next + 1) (fun q => by have := lt _ q; omega) R 0 (by omega) (by omega) (r.keep k01 (by simp)) (by rw [behL_0]; exact look_push_new)
  have k1' : Keep h h1 [] := k01.trans kk (fun q hq => by simp at hq; subst hq; exact .inr (by omega))
  have lo1 : h1.look h.next = some (.row ⟨i64s (List.replicate 256 0), 0, false⟩) := by
    refine kk.look ?_ (by simp)
    rw [look_push_old (by rw [next_push]; omega)]; exact look_push_new
  have hlen : (i64s (behL b b.length c)).length = 256 := by rw [i64s_length, behL_length]
  have k2 := keep_put h1 h.next (some (.row ⟨i64s (behL b b.length c), 0, false⟩))
  refine ⟨_, k1'.trans k2 (fun q hq => by simp at hq; subst hq; exact .inr (Nat.le_refl _)), fun β K => ?_⟩
  unfold F_ref12_behind
  rw [F_ref12_behind_gen, Z40_eq, gnew_eq (allCells_i64s _), gnew_eq (allCells_i64s _)]
  have e1' := e1 β
  rw [show ((0 : Nat) : Int) = 0 from rfl, show lastB b 0 = 0 from rfl] at e1'
  refine Eq.trans (e1' _) ?_
  have ns : nsub (i64s (behL b b.length c)) 0 256 = some (i64s (behL b b.length c)) := by have := nsub_all (i64s (behL b b.length c)); rwa [hlen] at this
  rw [exA_s, rowCells_of l1, ns, exL_s, hlen, beq_t, condT, exA_s, gput_eq lo1 (allCells_i64s _) (by rw [hlen, i64s_length, List.length_replicate]; omega), nlay_all _ _ (by rw [hlen, i64s_length, List.length_replicate])]
  rw [exA_s, rowCells_of (look_put_same (look_lt lo1)), ns, exL_s, hlen, beq_t, condT]
theorem one_l2 {N l : List Int} (hN : N.length = 256) (hpos : ∀ x ∈ N, 0 ≤ x ∧ x ≤ 1000000) (hnd : l.Nodup) (hmem : ∀ x ∈ l, 0 ≤ x ∧ x < 256) (hl32 : l.length ≤ 32) {R : Nat} (hR : 4000000 < R) {g : Nat} {s : Sl} : ∀ (f i : Nat) {h : GH}, i ≤ l.length → l.length < f + i → Rd h s l → h.look g = some (.row ⟨i64s N, 0, false⟩) →
    ∃ h', Keep h h' [] ∧ ∀ (β : Type) (F1 : Sl → Int → GH → (List Value → GH → Option β) → Option β) (F2 : Sl → Int → GH → (Int → GH → Option β) → Option β) (K4 : Sl → Int → GH → Option β), F_ref12_One_l2 F1 F2 (F_ref12_Cost R) R f (some ⟨g, 0, none⟩) s ((pickN (costK N l) i : Nat) : Int) ((i + 1 : Nat) : Int) h K4 = K4 s ((pickN (costK N l) l.length : Nat) : Int) h' := by
  intro f
  induction f with
  | zero => intro i h h1 h2; omega
  | succ f ih =>
    intro i h h1 h2 r hl
    have hn := r.n
    have hcap := r.cap
    by_cases hi : i < l.length
    · have hpk := pickN_le (costK N l) i
      have cost : ∀ {h : GH} (r : Rd h s l) (k : Nat), k ≤ l.length → ∃ h', Keep h h' [] ∧ ∀ (β : Type) (K : Int → GH → Option β), F_ref12_Cost R (i64s N) ⟨addO s.a (0 * 1), k - 0, s.c - 0⟩ h K = K (costK N l k) h' := fun {h} r k hk => by
        obtain ⟨h', k', e'⟩ := cost_eq hN hpos (cut_cap r hk) (by rw [List.length_take]; omega) hR
        refine ⟨h', k', fun β K => ?_⟩
        rw [e', costTo_eq hN (hnd.sublist (List.take_sublist k l)) (fun x hx => hmem x (List.mem_of_mem_take hx)), costK, List.length_take, Nat.min_eq_left hk]
      obtain ⟨hA, kA, eA⟩ := cost r (i + 1) (by omega)
      obtain ⟨hB, kB, eB⟩ := cost (r.keep kA (by simp)) (pickN (costK N l) i) (by omega)
      have kAB := kA.trans kB (by simp)
      obtain ⟨h', k', e'⟩ := ih (i + 1) (by omega) (by omega) (r.keep kAB (by simp)) (kAB.look hl (by simp))
      have ns : nsub (i64s N) 0 256 = some (i64s N) := by have := nsub_all (i64s N); rwa [i64s_length, hN] at this
      have hlA := kA.look hl (by simp)
      refine ⟨h', kAB.trans k' (by simp), fun β F1 F2 K4 => ?_⟩
      rw [F_ref12_One_l2_succ, hn, decT (by omega), condT, exA_s, rowCells_of hl, ns, exL_s, bnd_t (by omega) (by omega), Int.toNat_natCast, eA, exA_s, rowCells_of hlA, ns, exL_s, bnd_t (by omega) (by omega), Int.toNat_natCast, eB, exA_s, sameAt_i64 hl hlA 256 0 (by omega), condT]
      have e'' := e' β F1 F2 K4
      rw [show pickN (costK N l) (i + 1) = if costK N l (i + 1) < costK N l (pickN (costK N l) i) then i + 1 else pickN (costK N l) i from rfl] at e''
      rw [i64w (x := ((i + 1 : Nat) : Int) + 1) (by omega)]
      by_cases c : costK N l (i + 1) < costK N l (pickN (costK N l) i)
      · rw [if_pos c] at e''
        rw [decT c, condT]; exact e''
      · rw [if_neg c] at e''
        rw [decF c, condF]; exact e''
    · have : i = l.length := by omega
      subst this
      refine ⟨h, .refl _ _, fun β F1 F2 K4 => ?_⟩
      rw [F_ref12_One_l2_succ, hn, decF (by omega), condF]
theorem one_eq {h : GH} {s : Sl} {b : List Int} (r : Rd h s b) (hb : B8 b) (hm : b.length ≤ 100000) {R : Nat} (hR : 4000000 < R) (c : Int) : ∃ h' q, Rd h' q (bestP (behL b b.length c)) ∧ Keep h h' [] ∧ (∀ k ∈ rowsOf q, h.next ≤ k) ∧ ∀ (β : Type) (K : Sl → GH → Option β), F_ref12_One R s c h K = K q h' := by
  obtain ⟨h1, k1, e1⟩ := behind_eq r hb hm hR c
  obtain ⟨N, hNN⟩ : ∃ N, N = behL b b.length c := ⟨_, rfl⟩
  have hN : N.length = 256 := by rw [hNN, behL_length]
  have hpos : ∀ x ∈ N, 0 ≤ x ∧ x ≤ 1000000 := by rw [hNN]; exact behL_pos b (by omega) c
  rw [← hNN] at e1 ⊢
  have k2 := keep_push h1 (.row ⟨i64s (List.replicate 256 0), 0, false⟩) []
  obtain ⟨h2, eh2⟩ : ∃ h2, h2 = (h1.push (.row ⟨i64s (List.replicate 256 0), 0, false⟩)).put h1.next (some (.row ⟨i64s N, 0, false⟩)) := ⟨_, rfl⟩
  have l2 : h2.look h1.next = some (.row ⟨i64s N, 0, false⟩) := by rw [eh2]; exact look_put_same (by rw [next_push]; omega)
  have k12 : Keep h1 h2 [] := k2.trans (by rw [eh2]; exact keep_put _ _ _) (fun q hq => by simp at hq; subst hq; exact .inr (Nat.le_refl _))
  have c2 : Cnt h2 (some ⟨h1.next, 0, none⟩) N := ⟨row_of_block l2 (by rw [i64s_length, hN]), hpos⟩
  obtain ⟨h3, s3, v3, k3, n3, e3⟩ := one_l0 (a := some ⟨h1.next, 0, none⟩) hR R 0 (h := h2) (s := ⟨none, 0, 0⟩) (by omega) (by omega) c2 (by rw [List.take_zero]; exact Vec.nil) (by simp [rowsOf])
  have l3 := k3.look l2 (by simp [rowsOf])
  have hnd : ((ordZ N).take 32).Nodup := (ordZ_nodup N).sublist (List.take_sublist 32 _)
  have hmem : ∀ x ∈ (ordZ N).take 32, 0 ≤ x ∧ x < 256 := fun x hx => by have := ordZ_mem (List.mem_of_mem_take hx); omega
  have hl32 : ((ordZ N).take 32).length ≤ 32 := by simp; omega
  obtain ⟨h4, k4, e4⟩ := one_l2 hN hpos hnd hmem hl32 hR (g := h1.next) (s := s3) R 0 (by omega) (by omega) v3.row l3
  have r4 := v3.row.keep k4 (by simp)
  have hpk := pickN_le (costK N ((ordZ N).take 32)) ((ordZ N).take 32).length
  have hn3 := v3.n
  have hcap := v3.row.cap
  refine ⟨h4, _, cut_cap r4 hpk, (k1.trans k12 (by simp)).trans ((k3.trans k4 (by simp)).mono (o1 := []) (by simp [rowsOf])) (by simp), fun k hk => ?_, fun β K => ?_⟩
  · have hk3 : k ∈ rowsOf s3 := by
      cases ha : s3.a with
      | none => simp [rowsOf, addO, ha] at hk
      | some x => simpa [rowsOf, addO, ha] using hk
    rcases n3 k hk3 with q | q
    · simp [rowsOf] at q
    · have := k1.1; have := k12.1; omega
  · unfold F_ref12_One
    have hz : (i64s N).length = 256 := by rw [i64s_length, hN]
    rw [F_ref12_One_gen, e1, Z40_eq, gnew_eq (allCells_i64s _), hz, beq_t, condT, gput_eq look_push_new (allCells_i64s _) (by rw [hz, i64s_length, List.length_replicate]; omega), nlay_all _ _ (by rw [hz, i64s_length, List.length_replicate]), ← eh2]
    have e3' := e3 β (F_ref12_behind R) (F_ref12_Cost R)
    rw [show ((0 : Nat) : Int) = 0 from rfl] at e3'
    refine Eq.trans (e3' _) ?_
    have e4' := e4 β (F_ref12_behind R) (F_ref12_at R)
    rw [show pickN (costK N ((ordZ N).take 32)) 0 = 0 from rfl, show ((0 : Nat) : Int) = 0 from rfl, show ((0 + 1 : Nat) : Int) = 1 from rfl] at e4'
    refine Eq.trans (e4' _) ?_
    rw [bnd_t (by omega) (by omega), Int.toNat_natCast]
end Go.Proofs.Ytdmemmpkkibckaa.Gx

