/- Sets and bytes behind bytes are read by the document: ref12.GetSets, ref12.Get. No condition. -/
import Derived.Test.YtdmemmpkkibckaaGet
import Derived.Test.YtdmemmpkkibckaaReadR
import Derived.Test.YtdmemmpkkibckaaCutR
namespace Go.Proofs.Ytdmemmpkkibckaa.Gx
open Go Go.RowKit
set_option linter.unusedVariables false
set_option linter.unusedSimpArgs false
theorem Rrd.lt {h : GH} {g : Nat} {rb : Sl} {bs : List Int} {p : Nat} {e : Int} (r : Rrd h g rb bs p e) : g < h.next ∧ (∀ k ∈ rowsOf rb, k < h.next) ∧ g ∉ rowsOf rb := ⟨look_lt r.look, r.row.lt, r.sep⟩
theorem Rrd.err {h : GH} {g : Nat} {rb : Sl} {bs : List Int} {p : Nat} {e : Int} (r : Rrd h g rb bs p e) : h.cell ⟨g, 2, none⟩ = some (.int .i64 e) := by rw [cell_of r.look]; rfl
theorem gsr_inner {bs : List Int} {rb : Sl} {gr lo N : Nat} {y : Option Addr} {c : Int} (hgr : gr < lo) (hrb : ∀ x ∈ rowsOf rb, x < lo) (hN : N ≤ 64) {R : Nat} (hR : 4000000 < R) :
    ∀ (k i n : Nat) (h : GH) (s : Sl) (cs : List Int) (p : Nat) (e : Int), i + k = N → k < n → lo ≤ h.next → Bv h s cs → cs.length = i → (∀ x ∈ rowsOf s, lo ≤ x) → Rrd h gr rb bs p e →
    ∃ h' s', Bv h' s' (cs ++ (rdB bs k p e).1) ∧ Rrd h' gr rb bs (rdB bs k p e).2.1 (rdB bs k p e).2.2 ∧ (∀ x ∈ rowsOf s', lo ≤ x) ∧ Keep h h' (gr :: rowsOf s) ∧ ∀ (β : Type) (K : Option Addr → Option Addr → Int → Sl → GH → Option β),
      F_ref12_GetSets_l1 (F_ref01_Reader_Bits R) R n (some ⟨gr, 0, none⟩) y c (N : Nat) s (i : Nat) h K = K (some ⟨gr, 0, none⟩) y c s' h'
  | 0, i, n, h, s, cs, p, e, hi, hn, hlo, v, hcs, hs, r => by
    obtain ⟨n, rfl⟩ : ∃ n', n = n' + 1 := ⟨n - 1, by omega⟩
    refine ⟨h, s, by rw [rdB, List.append_nil]; exact v, r, hs, .refl _ _, fun β K => ?_⟩
    rw [F_ref12_GetSets_l1_succ, decF (by omega), condF]
  | k + 1, i, n, h, s, cs, p, e, hi, hn, hlo, v, hcs, hs, r => by
    obtain ⟨n, rfl⟩ : ∃ n', n = n' + 1 := ⟨n - 1, by omega⟩
    obtain ⟨h1, r1, k1, e1⟩ := bits_ref r (n := 8) (by omega) hR
    have hv8 := bitsV_lt bs p 8 e
    rw [show (2 : Nat) ^ 8 = 256 by decide] at hv8
    have v1 := v.keep k1 (by intro x hx hm; simp at hm; have := hs x hx; omega)
    have hsn := v.n
    obtain ⟨h2, s2, e2, v2, k2, n2, _⟩ := app_one' (by_ := 1) v1 [Value.int .u8 ((bitsV bs p 8 e : Nat) : Int)] rfl Nat.one_pos rfl (by rw [hsn]; simp only [most]; omega)
    have b1 := k1.1
    have b2 := k2.1
    have r2 := r1.keep k2 (fun hx => by have := hs _ hx; omega) (fun x hx hy => by have := hs _ hy; have := hrb x hx; omega)
    have hs2 : ∀ x ∈ rowsOf s2, lo ≤ x := fun x hx => by rcases n2 x hx with q | q; exact hs x q; omega
    have v3 : Bv h2 s2 (cs ++ [((bitsV bs p 8 e : Nat) : Int)]) := by unfold Bv; rw [u8s_app]; exact v2
    obtain ⟨h4, s4, v4, r4, n4, k4, e4⟩ := gsr_inner (y := y) (c := c) hgr hrb hN hR k (i + 1) n _ s2 _ (bitsP bs p 8 e) (bitsE bs p 8 e) (by omega) (by omega) (by omega) v3 (by simp; omega) hs2 r2
    refine ⟨h4, s4, ?_, r4, n4, ?_, fun β K => ?_⟩
    · rw [rdB]; simpa using v4
    · refine ((k1.mono (o1 := gr :: rowsOf s) (by simp)).trans k2 (fun x hx => .inl (by simp [hx]))).trans k4 (fun x hx => ?_)
      rcases List.mem_cons.1 hx with h | h
      · exact .inl (by simp [h])
      · rcases n2 x h with q | q
        · exact .inl (by simp [q])
        · exact .inr (by omega)
    · have e1' := e1 β
      rw [show ((8 : Nat) : Int) = 8 from rfl] at e1'
      rw [F_ref12_GetSets_l1_succ, decT (by omega), condT, e1', IntWalk.u8_in _ (by omega)]
      refine (e2 β _).trans ?_
      rw [i64w (by omega), show ((i : Nat) : Int) + 1 = ((i + 1 : Nat) : Int) by omega]
      exact e4 β K
theorem new_nils (l : List Value) (hc : chkN l 256 = true) (h : GH) {β : Type} (K : Nat → GH → Option β) : gnew l 0 h K = K h.next (h.push (.row ⟨nil256.map slV, 0, false⟩)) := by
  have : l = nil256.map slV := chkN_eq l 256 hc
  rw [this, gnew_eq (allCells_slV _)]
theorem gsr_outer {bs : List Int} {rb : Sl} {gr g2 lo : Nat} (hgr : gr < lo) (hg2 : g2 < lo) (hne : gr ≠ g2) (hrb : ∀ x ∈ rowsOf rb, x < lo ∧ x ≠ g2) {R : Nat} (hR : 4000000 < R) :
    ∀ (m n : Nat) (h : GH) (ss : List Sl) (L : Nat → List Int) (p : Nat) (e : Int), m ≤ 256 → m < n → lo ≤ h.next → SetV h ss L → (∀ c, c < 256 → ∀ x ∈ rowsOf (ss.getD c ⟨none, 0, 0⟩), lo ≤ x) → h.look g2 = some (.row ⟨ss.map slV, 0, false⟩) → Rrd h gr rb bs p e →
    ∃ h', Rrd h' gr rb bs (getS bs m p e L).p (getS bs m p e L).e ∧ Keep h h' [gr, g2] ∧
      ((getS bs m p e L).err = 0 → ∃ ss', SetV h' ss' (getS bs m p e L).L ∧ h'.look g2 = some (.row ⟨ss'.map slV, 0, false⟩) ∧ (∀ c, c < 256 → ∀ x ∈ rowsOf (ss'.getD c ⟨none, 0, 0⟩), lo ≤ x) ∧ ∀ (β : Type) (K0 : Option Addr → GH → Option β) (Kr : Option Addr → Int → GH → Option β), F_ref12_GetSets_l0 (F_ref01_Reader_Bits R) R n (some ⟨gr, 0, none⟩) (some ⟨g2, 0, none⟩) ((m : Int) - 1) h K0 Kr = K0 (some ⟨g2, 0, none⟩) h') ∧
      ((getS bs m p e L).err ≠ 0 → ∃ g', ∀ (β : Type) (K0 : Option Addr → GH → Option β) (Kr : Option Addr → Int → GH → Option β), F_ref12_GetSets_l0 (F_ref01_Reader_Bits R) R n (some ⟨gr, 0, none⟩) (some ⟨g2, 0, none⟩) ((m : Int) - 1) h K0 Kr = Kr (some ⟨g', 0, none⟩) (getS bs m p e L).err h')
  | 0, n, h, ss, L, p, e, hm, hn, hlo, sv, hrows, hl2, r => by
    obtain ⟨n, rfl⟩ : ∃ n', n = n' + 1 := ⟨n - 1, by omega⟩
    refine ⟨h, r, .refl _ _, fun _ => ⟨ss, sv, hl2, hrows, fun β K0 Kr => ?_⟩, fun q => absurd rfl q⟩
    rw [F_ref12_GetSets_l0_succ, decF (by omega), condF]
  | c + 1, n, h, ss, L, p, e, hm, hn, hlo, sv, hrows, hl2, r => by
    obtain ⟨n, rfl⟩ : ∃ n', n = n' + 1 := ⟨n - 1, by omega⟩
    obtain ⟨h1, r1, k1, e1⟩ := bits_ref r (n := 6) (by omega) hR
    have e1' : ∀ (β : Type) (K : Int → GH → Option β), F_ref01_Reader_Bits R (some ⟨gr, 0, none⟩) 6 h K = K (bitsV bs p 6 e : Nat) h1 := e1
    have hv6 := bitsV_lt bs p 6 e
    rw [show (2 : Nat) ^ 6 = 64 by decide] at hv6
    have hw6 : IntKind.wrap .i64 ((bitsV bs p 6 e : Nat) : Int) = (bitsV bs p 6 e : Nat) := i64w (by omega)
    have l21 := k1.look hl2 (by simpa using Ne.symm hne)
    have b1 := k1.1
    have hx1 : (((c + 1 : Nat) : Int) - 1) = ((c : Nat) : Int) := by omega
    by_cases c32 : 32 < bitsV bs p 6 e
    · have hg : getS bs (c + 1) p e L = ⟨fun _ => [], 4, bitsP bs p 6 e, bitsE bs p 6 e⟩ := by rw [getS, if_pos c32]
      have k2 := keep_push h1 (.row ⟨nil256.map slV, 0, false⟩) []
      rw [hg]
      refine ⟨_, r1.keep k2 (by simp) (by simp), (k1.mono (o1 := [gr, g2]) (by simp)).trans k2 (by simp), fun q => by simp at q, fun _ => ⟨h1.next, fun β K0 Kr => ?_⟩⟩
      rw [F_ref12_GetSets_l0_succ, decT (by omega), condT, e1', hw6, decT (by omega), condT]
      exact new_nils _ (by kernel_rfl) _ _
    · generalize hN : bitsV bs p 6 e = N at *
      obtain ⟨h2, s2, v2, r2, n2, k2, e2⟩ := gsr_inner (y := some ⟨g2, 0, none⟩) (c := ((c : Nat) : Int)) (N := N) (lo := h1.next) (by omega) (fun x hx => by have := hrb x hx; omega) (by omega) hR N 0 R h1 ⟨none, 0, 0⟩ [] (bitsP bs p 6 e) (bitsE bs p 6 e) (by omega) (by omega) (Nat.le_refl _) Vec.nil rfl (by simp [rowsOf]) r1
      rw [List.nil_append] at v2
      have b2 := k2.1
      have l22 := k2.look l21 (by simpa [rowsOf] using Ne.symm hne)
      have e2' := fun β => e2 β
      rw [show ((0 : Nat) : Int) = 0 from rfl] at e2'
      generalize hrd : rdB bs N (bitsP bs p 6 e) (bitsE bs p 6 e) = rd at *
      have k02 : Keep h h2 [gr] := k1.trans k2 (by simp [rowsOf])
      by_cases hE : rd.2.2 = 0
      · have hg : getS bs (c + 1) p e L = getS bs c rd.2.1 rd.2.2 (fun x => if x = c then rd.1 else L x) := by
          rw [getS, hN, if_neg c32, hrd, if_neg (by simpa using hE)]
        have k3 := keep_put h2 g2 (some (.row ⟨(ss.set c s2).map slV, 0, false⟩))
        have sv2 : SetV (h2.put g2 (some (.row ⟨(ss.set c s2).map slV, 0, false⟩))) (ss.set c s2) (fun x => if x = c then rd.1 else L x) := by
          refine ⟨by rw [List.length_set]; exact sv.len, fun x hx => ?_, fun x hx => ?_⟩
          · by_cases hxc : x = c
            · subst hxc
              rw [getD_set_eq _ (by have := sv.len; omega), if_pos rfl]
              exact v2.row.keep k3 (fun y hy hm => by have := n2 y hy; simp at hm; omega)
            · rw [getD_set_ne _ hxc, if_neg hxc]
              exact ((sv.rd x hx).keep k02 (fun y hy hm => by have := hrows x hx y hy; simp at hm; omega)).keep k3 (fun y hy hm => by have := hrows x hx y hy; simp at hm; omega)
          · by_cases hxc : x = c
            · rw [if_pos hxc, ← hrd]; exact rdB_b8 _ _ _ _
            · rw [if_neg hxc]; exact sv.b8 x hx
        obtain ⟨h4, r4, k4, ok4, no4⟩ := gsr_outer hgr hg2 hne hrb hR c n _ (ss.set c s2) _ rd.2.1 rd.2.2 (by omega) (by omega) (by show lo ≤ h2.next; omega) sv2
          (fun x hx y hy => by
            by_cases hxc : x = c
            · subst hxc
              rw [getD_set_eq _ (by have := sv.len; omega)] at hy
              have := n2 y hy; omega
            · rw [getD_set_ne _ hxc] at hy
              exact hrows x hx y hy) (look_put_same (look_lt l22)) (r2.keep k3 (by simpa using hne) (fun x hx => by have := hrb x hx; simp; omega))
        have start : ∀ (β : Type) (K0 : Option Addr → GH → Option β) (Kr : Option Addr → Int → GH → Option β), F_ref12_GetSets_l0 (F_ref01_Reader_Bits R) R (n + 1) (some ⟨gr, 0, none⟩) (some ⟨g2, 0, none⟩) (((c + 1 : Nat) : Int) - 1) h K0 Kr = F_ref12_GetSets_l0 (F_ref01_Reader_Bits R) R n (some ⟨gr, 0, none⟩) (some ⟨g2, 0, none⟩) (((c : Nat) : Int) - 1) (h2.put g2 (some (.row ⟨(ss.set c s2).map slV, 0, false⟩))) K0 Kr := by
          intro β K0 Kr
          rw [F_ref12_GetSets_l0_succ, decT (by omega), condT, e1', hw6, decF (by omega), condF, hx1]
          refine (e2' _ _).trans ?_
          have hslen := sv.len
          rw [exA_s, show h2.cell ⟨gr, 0 + 2, none⟩ = some (.int .i64 rd.2.2) from r2.err, exI_s, hE, bne_self_eq_false, condF, exA_s, within_t (by omega) (by omega), Int.toNat_natCast, Nat.mul_one, Nat.zero_add, gput_eq l22 rfl (by simp; omega), nlay_slV (by omega), i64w (by omega)]
        rw [hg]
        refine ⟨h4, r4, ((k02.mono (o1 := [gr, g2]) (by simp)).trans k3 (by simp)).trans k4 (by simp), fun q => ?_, fun q => ?_⟩
        · obtain ⟨ss', a1, a2, a3, a4⟩ := ok4 q
          exact ⟨ss', a1, a2, a3, fun β K0 Kr => by rw [start, a4]⟩
        · obtain ⟨g', a4⟩ := no4 q
          exact ⟨g', fun β K0 Kr => by rw [start, a4]⟩
      · have hg : getS bs (c + 1) p e L = ⟨fun _ => [], rd.2.2, rd.2.1, rd.2.2⟩ := by
          rw [getS, hN, if_neg c32, hrd, if_pos hE]
        have k3 := keep_push h2 (.row ⟨nil256.map slV, 0, false⟩) []
        have r3 := r2.keep k3 (by simp) (by simp)
        rw [hg]
        refine ⟨_, r3, (k02.mono (o1 := [gr, g2]) (by simp)).trans k3 (by simp), fun q => absurd q hE, fun _ => ⟨h2.next, fun β K0 Kr => ?_⟩⟩
        rw [F_ref12_GetSets_l0_succ, decT (by omega), condT, e1', hw6, decF (by omega), condF, hx1]
        refine (e2' _ _).trans ?_
        rw [exA_s, show h2.cell ⟨gr, 0 + 2, none⟩ = some (.int .i64 rd.2.2) from r2.err, exI_s, bne_iff_ne.2 hE, condT]
        refine (new_nils _ (by kernel_rfl) _ _).trans ?_
        rw [exA_s, show (h2.push (.row ⟨nil256.map slV, 0, false⟩)).cell ⟨gr, 0 + 2, none⟩ = some (.int .i64 rd.2.2) from r3.err, exI_s]
theorem getsets_ref {h : GH} {gr : Nat} {rb : Sl} {bs : List Int} (r : Rrd h gr rb bs 0 0) {R : Nat} (hR : 4000000 < R) :
    ∃ h' g, Rrd h' gr rb bs (gotS bs).p (gotS bs).e ∧ Keep h h' [gr] ∧ ((gotS bs).err = 0 → h.next ≤ g ∧ ∃ ss, SetV h' ss (gotS bs).L ∧ h'.look g = some (.row ⟨ss.map slV, 0, false⟩) ∧ ∀ c, c < 256 → ∀ x ∈ rowsOf (ss.getD c ⟨none, 0, 0⟩), h.next ≤ x) ∧ ∀ (β : Type) (K : Option Addr → Int → GH → Option β), F_ref12_GetSets R (some ⟨gr, 0, none⟩) h K = K (some ⟨g, 0, none⟩) (gotS bs).err h' := by
  obtain ⟨grl, rbl, _⟩ := r.lt
  have k1 := keep_push h (.row ⟨nil256.map slV, 0, false⟩) []
  obtain ⟨h3, r3, k3, ok3, no3⟩ := gsr_outer (bs := bs) (rb := rb) (gr := gr) (g2 := h.next) (lo := h.next + 1) (by omega) (by omega) (by omega) (fun x hx => by have := rbl x hx; omega) hR 256 R _ nil256 (fun _ => []) 0 0 (Nat.le_refl _) (by omega) (by show h.next + 1 ≤ h.next + 1; omega) (setv_nils _) (fun c hc x hx => by rw [rows_nils] at hx; cases hx) look_push_new (r.keep k1 (by simp) (by simp))
  have start : ∀ (β : Type) (K : Option Addr → Int → GH → Option β), F_ref12_GetSets R (some ⟨gr, 0, none⟩) h K = F_ref12_GetSets_l0 (F_ref01_Reader_Bits R) R R (some ⟨gr, 0, none⟩) (some ⟨h.next, 0, none⟩) (((256 : Nat) : Int) - 1) (h.push (.row ⟨nil256.map slV, 0, false⟩)) (fun w46 h47 => K w46 0 h47) (fun w48 w49 h50 => K w48 w49 h50) := fun β K => by
    unfold F_ref12_GetSets
    rw [F_ref12_GetSets_gen, show (255 : Int) = ((256 : Nat) : Int) - 1 from rfl]
    exact new_nils _ (by kernel_rfl) _ _
  have k03 : Keep h h3 [gr] := (k1.mono (o1 := [gr]) (by simp)).trans k3 (fun x hx => by simp at hx; simp; omega)
  by_cases hE : (gotS bs).err = 0
  · obtain ⟨ss, a1, a2, a3, a4⟩ := ok3 hE
    refine ⟨h3, h.next, r3, k03, fun _ => ⟨Nat.le_refl _, ss, a1, a2, fun c hc x hx => by have := a3 c hc x hx; omega⟩, fun β K => ?_⟩
    rw [start, hE]
    exact a4 β _ _
  · obtain ⟨g', a4⟩ := no3 hE
    refine ⟨h3, g', r3, k03, fun q => absurd q hE, fun β K => ?_⟩
    rw [start]
    exact a4 β _ _
theorem get_ref {h : GH} {gr gs : Nat} {rb : Sl} {bs : List Int} {p : Nat} {e : Int} (r : Rrd h gr rb bs p e) {ss : List Sl} {L : Nat → List Int} (s : SetV h ss L) (hl : h.look gs = some (.row ⟨ss.map slV, 0, false⟩)) (hg : ∀ c, c < 256 → ∀ x ∈ rowsOf (ss.getD c ⟨none, 0, 0⟩), x ≠ gr) {last : Nat} (hlast : last < 256) {R : Nat} (hR : 4000000 < R) :
    ∃ h', Rrd h' gr rb bs (getG bs ((L last).take 32) p e).p (getG bs ((L last).take 32) p e).e ∧ Keep h h' [gr] ∧ ∀ (β : Type) (K : Int → Int → GH → Option β), F_ref12_Get R (some ⟨gr, 0, none⟩) (some ⟨gs, 0, none⟩) (last : Nat) h K = K (getG bs ((L last).take 32) p e).c (getG bs ((L last).take 32) p e).err h' := by
  have cl := s.cell hl hlast
  obtain ⟨q, rq, nq, eq⟩ := ref_cut (s.rd last hlast) R 32
  obtain ⟨F, hF⟩ : ∃ F, F = (L last).take 32 := ⟨_, rfl⟩
  rw [← hF] at rq ⊢
  have hF32 : F.length ≤ 32 := by rw [hF]; simp; omega
  have hw := Wd_le F.length
  have hqn := rq.n
  have hqg : ∀ x ∈ rowsOf q, x ∉ [gr] := fun x hx => by have := hg last hlast x (nq x hx); simpa using this
  rw [show ((32 : Nat) : Int) = 32 from rfl] at eq
  have ec : ∀ (β : Type) (K : Sl → GH → Option β), F_ref12_Cut R ⟨(ss.getD last ⟨none, 0, 0⟩).a, (ss.getD last ⟨none, 0, 0⟩).n, (ss.getD last ⟨none, 0, 0⟩).c⟩ h K = K q h := fun β K => by
    unfold F_ref12_Cut
    rw [F_ref12_Cut_gen]
    exact eq β _
  have start : ∀ (β : Type) (K : Int → Int → GH → Option β), F_ref12_Get R (some ⟨gr, 0, none⟩) (some ⟨gs, 0, none⟩) (last : Nat) h K = _ := fun β K => by
    unfold F_ref12_Get
    rw [F_ref12_Get_gen, exA_s, within_t (by omega) (by omega), Int.toNat_natCast, Nat.zero_add, Nat.mul_one, cl, exS_s', ec, hqn]
  have wu8 : ∀ p e, IntKind.wrap .u8 ((bitsV bs p 8 e : Nat) : Int) = (bitsV bs p 8 e : Nat) := fun p e => IntWalk.u8_in _ (by have := bitsV_lt bs p 8 e; rw [show (2 : Nat) ^ 8 = 256 by decide] at this; omega)
  by_cases c1 : F.length = 0
  · obtain ⟨h1, r1, k1, e1⟩ := bits_ref r (n := 8) (by omega) hR
    have hG : getG bs F p e = ⟨(bitsV bs p 8 e : Nat), bitsE bs p 8 e, bitsP bs p 8 e, bitsE bs p 8 e⟩ := by rw [getG, if_pos c1]
    rw [hG]
    refine ⟨h1, r1, k1, fun β K => ?_⟩
    rw [start, decF (by omega), condF]
    refine (e1 β _).trans ?_
    simp only [exA_s, Nat.zero_add]
    rw [r1.err, exI_s, wu8]
  · obtain ⟨h1, r1, k1, e1⟩ := bits_ref r (n := 1) (by omega) hR
    have hv1 := bitsV_lt bs p 1 e
    by_cases c2 : bitsV bs p 1 e = 1
    · obtain ⟨h2, r2, k2, e2⟩ := bits_ref r1 (n := 8) (by omega) hR
      have hG : getG bs F p e = ⟨(bitsV bs (bitsP bs p 1 e) 8 (bitsE bs p 1 e) : Nat), bitsE bs (bitsP bs p 1 e) 8 (bitsE bs p 1 e), bitsP bs (bitsP bs p 1 e) 8 (bitsE bs p 1 e), bitsE bs (bitsP bs p 1 e) 8 (bitsE bs p 1 e)⟩ := by rw [getG, if_neg c1, if_pos c2]
      rw [hG]
      refine ⟨h2, r2, k1.trans k2 (by simp), fun β K => ?_⟩
      rw [start, decT (by omega), condT]
      refine (e1 β _).trans ?_
      rw [beq_int, decF (by omega), condF]
      refine (e2 β _).trans ?_
      simp only [exA_s, Nat.zero_add]
      rw [r2.err, exI_s, wu8]
    · obtain ⟨h2, r2, k2, e2⟩ := bits_ref r1 (n := Wd F.length) (by omega) hR
      have rq2 := (rq.keep k1 hqg).keep k2 hqg
      have hv := bitsV_lt bs (bitsP bs p 1 e) (Wd F.length) (bitsE bs p 1 e)
      have h64 : bitsV bs (bitsP bs p 1 e) (Wd F.length) (bitsE bs p 1 e) < 2 ^ 32 := Nat.lt_of_lt_of_le hv (Nat.pow_le_pow_right (by omega) (by omega))
      rw [show (2 : Nat) ^ 32 = 4294967296 by decide] at h64
      generalize hV : bitsV bs (bitsP bs p 1 e) (Wd F.length) (bitsE bs p 1 e) = v at *
      have hwv : IntKind.wrap .i64 ((v : Nat) : Int) = (v : Nat) := i64w (by omega)
      have go : ∀ (β : Type) (K : Int → Int → GH → Option β), F_ref12_Get R (some ⟨gr, 0, none⟩) (some ⟨gs, 0, none⟩) (last : Nat) h K = (bif bitsE bs (bitsP bs p 1 e) (Wd F.length) (bitsE bs p 1 e) != 0 then K 0 (bitsE bs (bitsP bs p 1 e) (Wd F.length) (bitsE bs p 1 e)) h2 else (bif decide (((v : Nat) : Int) ≥ ((F.length : Nat) : Int)) then K 0 7 h2 else exA q.a fun g27 o28 => within ((v : Nat) : Int) F.length (exI .u8 (h2.cell ⟨g27, o28 + ((v : Nat) : Int).toNat * 1, none⟩) fun x29 => K x29 0 h2))) := fun β K => by
        rw [start, decT (by omega), condT]
        refine (e1 β _).trans ?_
        rw [beq_int, decT (by omega), condT, width_ref hR (by omega) hF32]
        refine (e2 β _).trans ?_
        simp only [exA_s, Nat.zero_add]
        rw [r2.err, exI_s, exI_s, hwv]
      have k02 : Keep h h2 [gr] := k1.trans k2 (by simp)
      by_cases c3 : bitsE bs (bitsP bs p 1 e) (Wd F.length) (bitsE bs p 1 e) = 0
      · by_cases c4 : F.length ≤ v
        · have hG : getG bs F p e = ⟨0, 7, bitsP bs (bitsP bs p 1 e) (Wd F.length) (bitsE bs p 1 e), bitsE bs (bitsP bs p 1 e) (Wd F.length) (bitsE bs p 1 e)⟩ := by
            rw [getG, if_neg c1, if_neg c2, if_neg (by simpa using c3), hV, if_pos c4]
          rw [hG]
          refine ⟨h2, r2, k02, fun β K => ?_⟩
          rw [go, c3, bne_self_eq_false, condF, decT (by omega), condT]
        · have hG : getG bs F p e = ⟨F.getD v 0, 0, bitsP bs (bitsP bs p 1 e) (Wd F.length) (bitsE bs p 1 e), bitsE bs (bitsP bs p 1 e) (Wd F.length) (bitsE bs p 1 e)⟩ := by
            rw [getG, if_neg c1, if_neg c2, if_neg (by simpa using c3), hV, if_neg c4]
          rw [hG]
          refine ⟨h2, r2, k02, fun β K => ?_⟩
          have q1 := fun K => rq2.byte (β := β) (i := ((v : Nat) : Int)) (by omega) (by omega) K
          rw [hqn] at q1
          rw [go, c3, bne_self_eq_false, condF, decF (by omega), condF, q1, Int.toNat_natCast]
      · have hG : getG bs F p e = ⟨0, bitsE bs (bitsP bs p 1 e) (Wd F.length) (bitsE bs p 1 e), bitsP bs (bitsP bs p 1 e) (Wd F.length) (bitsE bs p 1 e), bitsE bs (bitsP bs p 1 e) (Wd F.length) (bitsE bs p 1 e)⟩ := by
          rw [getG, if_neg c1, if_neg c2, if_pos c3]
        rw [hG]
        refine ⟨h2, r2, k02, fun β K => ?_⟩
        rw [go, bne_iff_ne.2 c3, condT]
end Go.Proofs.Ytdmemmpkkibckaa.Gx

