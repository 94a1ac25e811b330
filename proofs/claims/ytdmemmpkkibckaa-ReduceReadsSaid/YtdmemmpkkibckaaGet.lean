/- Sets and bytes behind bytes are read by the program: follow.GetSets, follow.Get. No condition. -/
import Derived.Test.YtdmemmpkkibckaaPut
import Derived.Test.YtdmemmpkkibckaaRead
namespace Go.Proofs.Ytdmemmpkkibckaa.Gx
open Go Go.RowKit
set_option linter.unusedVariables false
set_option linter.unusedSimpArgs false
/-! ### bytes read -/
def rdB (bs : List Int) : Nat → Nat → Int → List Int × Nat × Int
  | 0, p, e => ([], p, e)
  | k + 1, p, e => (((bitsV bs p 8 e : Nat) : Int) :: (rdB bs k (bitsP bs p 8 e) (bitsE bs p 8 e)).1, (rdB bs k (bitsP bs p 8 e) (bitsE bs p 8 e)).2)
theorem bitsV_lt (bs : List Int) (p n : Nat) (e : Int) : bitsV bs p n e < 2 ^ n := by
  unfold bitsV; split
  · exact rdV_lt _ _ _
  · exact Nat.pow_pos (by omega)
theorem bitsP_le (bs : List Int) (p n : Nat) (e : Int) : p ≤ bitsP bs p n e := by unfold bitsP; split <;> omega
theorem rdB_len (bs : List Int) : ∀ k p e, (rdB bs k p e).1.length = k
  | 0, p, e => rfl
  | k + 1, p, e => by rw [rdB, List.length_cons, rdB_len]
theorem rdB_b8 (bs : List Int) : ∀ k p e, B8 (rdB bs k p e).1
  | 0, p, e => by intro x hx; cases hx
  | k + 1, p, e => by
    intro x hx
    rw [rdB] at hx
    rcases List.mem_cons.1 hx with h | h
    · have := bitsV_lt bs p 8 e
      rw [show (2 : Nat) ^ 8 = 256 by decide] at this
      omega
    · exact rdB_b8 bs k _ _ x h
theorem rdB_p (bs : List Int) : ∀ k p e, p ≤ (rdB bs k p e).2.1
  | 0, p, e => Nat.le_refl _
  | k + 1, p, e => by rw [rdB]; exact Nat.le_trans (bitsP_le bs p 8 e) (rdB_p bs k _ _)
theorem nlay_slV {l : List Sl} {i : Nat} (hi : i < l.length) (s : Sl) : nlay (l.map slV) i [Value.slice s.a s.n s.c] = (l.set i s).map slV := by
  rw [nlay_eq, List.map_set, List.set_eq_take_append_cons_drop, if_pos (by simpa using hi)]
  simp [slV]
theorem gs_inner {bs : List Int} {rb : Sl} {gr g4 lo : Nat} {y : Option Addr} {ss : List Sl} {c N : Nat} (hc : c < 256) (hss : ss.length = 256) (hgr : gr < lo) (hg4 : g4 < lo) (hne : gr ≠ g4) (hrb : ∀ x ∈ rowsOf rb, x < lo ∧ x ≠ g4) (hN : N ≤ 64) {R : Nat} (hR : 4000000 < R) :
    ∀ (k i n : Nat) (h : GH) (s : Sl) (cs : List Int) (p : Nat) (e : Int), i + k = N → k < n → lo ≤ h.next → Bv h s cs → cs.length = i → (∀ x ∈ rowsOf s, lo ≤ x) → h.look g4 = some (.row ⟨(ss.set c s).map slV, 0, false⟩) → Rdr h gr rb bs p e →
    ∃ h' s', Bv h' s' (cs ++ (rdB bs k p e).1) ∧ h'.look g4 = some (.row ⟨(ss.set c s').map slV, 0, false⟩) ∧ Rdr h' gr rb bs (rdB bs k p e).2.1 (rdB bs k p e).2.2 ∧ (∀ x ∈ rowsOf s', lo ≤ x) ∧ Keep h h' (gr :: g4 :: rowsOf s) ∧ ∀ (β : Type) (K : Option Addr → Option Addr → Option Addr → Int → GH → Option β),
      F_follow_GetSets_l1 (F_bitio_Reader_Bits R) (F_bitio_Reader_Err R) R n (some ⟨gr, 0, none⟩) y (some ⟨g4, 0, none⟩) (c : Nat) (N : Nat) (i : Nat) h K = K (some ⟨gr, 0, none⟩) y (some ⟨g4, 0, none⟩) (c : Nat) h'
  | 0, i, n, h, s, cs, p, e, hi, hn, hlo, v, hcs, hs, hl, r => by
    obtain ⟨n, rfl⟩ : ∃ n', n = n' + 1 := ⟨n - 1, by omega⟩
    refine ⟨h, s, by rw [rdB, List.append_nil]; exact v, hl, r, hs, .refl _ _, fun β K => ?_⟩
    rw [F_follow_GetSets_l1_succ, decF (by omega), condF]
  | k + 1, i, n, h, s, cs, p, e, hi, hn, hlo, v, hcs, hs, hl, r => by
    obtain ⟨n, rfl⟩ : ∃ n', n = n' + 1 := ⟨n - 1, by omega⟩
    obtain ⟨h1, r1, k1, e1⟩ := bits_prog r (n := 8) (by omega) hR
    have hv8 := bitsV_lt bs p 8 e
    rw [show (2 : Nat) ^ 8 = 256 by decide] at hv8
    have v1 := v.keep k1 (by intro x hx hm; simp at hm; have := hs x hx; omega)
    have l1 := k1.look hl (by simp; omega)
    have hsn := v.n
    obtain ⟨h2, s2, e2, v2, k2, n2, _⟩ := app_one' (by_ := 1) v1 [Value.int .u8 ((bitsV bs p 8 e : Nat) : Int)] rfl Nat.one_pos rfl (by rw [hsn]; simp only [most]; omega)
    have b1 := k1.1
    have b2 := k2.1
    have l2 := k2.look l1 (fun hx => by have := hs _ hx; omega)
    have k3 := keep_put h2 g4 (some (.row ⟨(ss.set c s2).map slV, 0, false⟩))
    have r3 := (r1.keep k2 (fun hx => by have := hs _ hx; omega) (fun x hx hy => by have := hs _ hy; have := hrb x hx; omega)).keep k3 (by simpa using hne) (fun x hx => by have := hrb x hx; simp; exact this.2)
    have hs2 : ∀ x ∈ rowsOf s2, lo ≤ x := fun x hx => by rcases n2 x hx with q | q; exact hs x q; omega
    have v3 : Bv (h2.put g4 (some (.row ⟨(ss.set c s2).map slV, 0, false⟩))) s2 (cs ++ [((bitsV bs p 8 e : Nat) : Int)]) := by
      have : Bv h2 s2 (cs ++ [((bitsV bs p 8 e : Nat) : Int)]) := by unfold Bv; rw [u8s_app]; exact v2
      exact this.keep k3 (by intro x hx hm; simp at hm; have := hs2 x hx; omega)
    obtain ⟨h4, s4, v4, l4, r4, n4, k4, e4⟩ := gs_inner (y := y) hc hss hgr hg4 hne hrb hN hR k (i + 1) n _ s2 _ (bitsP bs p 8 e) (bitsE bs p 8 e) (by omega) (by omega) (by show lo ≤ h2.next; omega) v3 (by simp; omega) hs2 (look_put_same (look_lt l2)) r3
    refine ⟨h4, s4, ?_, l4, r4, n4, ?_, fun β K => ?_⟩
    · rw [rdB]; simpa using v4
    · refine (((k1.mono (o1 := gr :: g4 :: rowsOf s) (by simp)).trans k2 (fun x hx => .inl (by simp [hx]))).trans k3 (by simp)).trans k4 (fun x hx => ?_)
      simp only [List.mem_cons] at hx
      rcases hx with h | h | h
      · exact .inl (by simp [h])
      · exact .inl (by simp [h])
      · rcases n2 x h with q | q
        · exact .inl (by simp [q])
        · exact .inr (by omega)
    · have hcell : ∀ h' : GH, h'.look g4 = some (.row ⟨(ss.set c s).map slV, 0, false⟩) → h'.cell ⟨g4, c, none⟩ = some (.slice s.a s.n s.c) := fun h' hl' => by
        rw [cell_of hl', nth_eq, List.getElem?_map, List.getElem?_set_self (by omega)]; rfl
      have hset : ((ss.set c s).set c s2) = ss.set c s2 := by rw [List.set_set]
      rw [F_follow_GetSets_l1_succ, decT (by omega), condT, exA_s, within_t (by omega) (by omega), Int.toNat_natCast, Nat.zero_add, Nat.mul_one, hcell h hl, exS_s']
      have e1' := e1 β
      rw [show ((8 : Nat) : Int) = 8 from rfl] at e1'
      rw [e1', IntWalk.u8_in _ (by omega)]
      refine (e2 β _).trans ?_
      simp only [exA_s, Nat.zero_add]
      rw [within_t (by omega) (by omega), gput_eq l2 rfl (by simp; omega), nlay_slV (by rw [List.length_set]; omega), hset, sameAt_1, hcell h hl, hcell h1 l1, veqO_s, condT, i64w (by omega), show ((i : Nat) : Int) + 1 = ((i + 1 : Nat) : Int) by omega]
      exact e4 β K
/-! ### sets read -/
structure GR where
  L : Nat → List Int
  err : Int
  p : Nat
  e : Int
def getS (bs : List Int) : Nat → Nat → Int → (Nat → List Int) → GR
  | 0, p, e, L => ⟨L, 0, p, e⟩
  | c + 1, p, e, L =>
    if 32 < bitsV bs p 6 e then ⟨fun _ => [], 4, bitsP bs p 6 e, bitsE bs p 6 e⟩
    else if (rdB bs (bitsV bs p 6 e) (bitsP bs p 6 e) (bitsE bs p 6 e)).2.2 ≠ 0 then ⟨fun _ => [], (rdB bs (bitsV bs p 6 e) (bitsP bs p 6 e) (bitsE bs p 6 e)).2.2, (rdB bs (bitsV bs p 6 e) (bitsP bs p 6 e) (bitsE bs p 6 e)).2.1, (rdB bs (bitsV bs p 6 e) (bitsP bs p 6 e) (bitsE bs p 6 e)).2.2⟩
    else getS bs c (rdB bs (bitsV bs p 6 e) (bitsP bs p 6 e) (bitsE bs p 6 e)).2.1 (rdB bs (bitsV bs p 6 e) (bitsP bs p 6 e) (bitsE bs p 6 e)).2.2 (fun x => if x = c then (rdB bs (bitsV bs p 6 e) (bitsP bs p 6 e) (bitsE bs p 6 e)).1 else L x)
def nil256 : List Sl := List.replicate 256 ⟨none, 0, 0⟩
theorem put_nils {h : GH} {g : Nat} (hl : h.look g = some (.row ⟨nil256.map slV, 0, false⟩)) (l : List Value) (hc : chkN l 256 = true) {β : Type} (K : GH → Option β) : gput g 0 l h K = K (h.put g (some (.row ⟨nil256.map slV, 0, false⟩))) := by
  have : l = nil256.map slV := chkN_eq l 256 hc
  rw [this, gput_eq hl (allCells_slV _) (by rw [Nat.zero_add]; exact Nat.le_refl _), nlay_all _ _ rfl]
theorem getD_set_ne {ss : List Sl} {c x : Nat} (s : Sl) (h : x ≠ c) : (ss.set c s).getD x ⟨none, 0, 0⟩ = ss.getD x ⟨none, 0, 0⟩ := by
  rw [List.getD_eq_getElem?_getD, List.getD_eq_getElem?_getD, List.getElem?_set_ne (Ne.symm h)]
theorem getD_set_eq {ss : List Sl} {c : Nat} (s : Sl) (h : c < ss.length) : (ss.set c s).getD c ⟨none, 0, 0⟩ = s := by
  rw [List.getD_eq_getElem?_getD, List.getElem?_set_self h]; rfl
theorem gs_outer {bs : List Int} {rb : Sl} {gr g2 g4 lo : Nat} (hgr : gr < lo) (hg2 : g2 < lo) (hg4 : g4 < lo) (hne : gr ≠ g4) (hne2 : gr ≠ g2) (hne4 : g2 ≠ g4) (hrb : ∀ x ∈ rowsOf rb, x < lo ∧ x ≠ g4 ∧ x ≠ g2) {R : Nat} (hR : 4000000 < R) :
    ∀ (m n : Nat) (h : GH) (ss : List Sl) (L : Nat → List Int) (p : Nat) (e : Int), m ≤ 256 → m < n → lo ≤ h.next → SetV h ss L → (∀ c, c < m → ss.getD c ⟨none, 0, 0⟩ = ⟨none, 0, 0⟩ ∧ L c = []) → (∀ c, c < 256 → ∀ x ∈ rowsOf (ss.getD c ⟨none, 0, 0⟩), lo ≤ x) → h.look g4 = some (.row ⟨ss.map slV, 0, false⟩) → h.look g2 = some (.row ⟨nil256.map slV, 0, false⟩) → Rdr h gr rb bs p e →
    ∃ h', Rdr h' gr rb bs (getS bs m p e L).p (getS bs m p e L).e ∧ Keep h h' [gr, g4, g2] ∧ h'.look g2 = some (.row ⟨nil256.map slV, 0, false⟩) ∧
      ((getS bs m p e L).err = 0 → ∃ ss', SetV h' ss' (getS bs m p e L).L ∧ h'.look g4 = some (.row ⟨ss'.map slV, 0, false⟩) ∧ (∀ c, c < 256 → ∀ x ∈ rowsOf (ss'.getD c ⟨none, 0, 0⟩), lo ≤ x) ∧ ∀ (β : Type) (K0 : Option Addr → Option Addr → GH → Option β) (Kr : Option Addr → Int → GH → Option β), F_follow_GetSets_l0 (F_bitio_Reader_Bits R) (F_bitio_Reader_Err R) R n (some ⟨gr, 0, none⟩) (some ⟨g2, 0, none⟩) (some ⟨g4, 0, none⟩) ((m : Int) - 1) h K0 Kr = K0 (some ⟨g2, 0, none⟩) (some ⟨g4, 0, none⟩) h') ∧
      ((getS bs m p e L).err ≠ 0 → (getS bs m p e L).L = (fun _ => []) ∧ ∀ (β : Type) (K0 : Option Addr → Option Addr → GH → Option β) (Kr : Option Addr → Int → GH → Option β), F_follow_GetSets_l0 (F_bitio_Reader_Bits R) (F_bitio_Reader_Err R) R n (some ⟨gr, 0, none⟩) (some ⟨g2, 0, none⟩) (some ⟨g4, 0, none⟩) ((m : Int) - 1) h K0 Kr = Kr (some ⟨g2, 0, none⟩) (getS bs m p e L).err h')
  | 0, n, h, ss, L, p, e, hm, hn, hlo, sv, hnil, hrows, hl4, hl2, r => by
    obtain ⟨n, rfl⟩ : ∃ n', n = n' + 1 := ⟨n - 1, by omega⟩
    refine ⟨h, r, .refl _ _, hl2, fun _ => ⟨ss, sv, hl4, hrows, fun β K0 Kr => ?_⟩, fun q => absurd rfl q⟩
    rw [F_follow_GetSets_l0_succ, decF (by omega), condF]
  | c + 1, n, h, ss, L, p, e, hm, hn, hlo, sv, hnil, hrows, hl4, hl2, r => by
    obtain ⟨n, rfl⟩ : ∃ n', n = n' + 1 := ⟨n - 1, by omega⟩
    obtain ⟨h1, r1, k1, e1⟩ := bits_prog r (n := 6) (by omega) hR
    have e1' : ∀ (β : Type) (K : Int → GH → Option β), F_bitio_Reader_Bits R (some ⟨gr, 0, none⟩) 6 h K = K (bitsV bs p 6 e : Nat) h1 := e1
    have hv6 := bitsV_lt bs p 6 e
    rw [show (2 : Nat) ^ 6 = 64 by decide] at hv6
    have hw6 : IntKind.wrap .i64 ((bitsV bs p 6 e : Nat) : Int) = (bitsV bs p 6 e : Nat) := i64w (by omega)
    have l41 := k1.look hl4 (by simp; omega)
    have l21 := k1.look hl2 (by simp; omega)
    have b1 := k1.1
    have hx1 : (((c + 1 : Nat) : Int) - 1) = ((c : Nat) : Int) := by omega
    have hlen : (ss.map slV).length = 256 := by rw [List.length_map]; exact sv.len
    by_cases c32 : 32 < bitsV bs p 6 e
    · have hg : getS bs (c + 1) p e L = ⟨fun _ => [], 4, bitsP bs p 6 e, bitsE bs p 6 e⟩ := by rw [getS, if_pos c32]
      have k2 := keep_put h1 g2 (some (.row ⟨nil256.map slV, 0, false⟩))
      rw [hg]
      refine ⟨h1.put g2 (some (.row ⟨nil256.map slV, 0, false⟩)), r1.keep k2 (by simpa using hne2) (fun x hx => by have := hrb x hx; simp; exact this.2.2), (k1.mono (o1 := [gr, g4, g2]) (by simp)).trans k2 (by simp), look_put_same (look_lt l21), fun q => by simp at q, fun _ => ⟨rfl, fun β K0 Kr => ?_⟩⟩
      rw [F_follow_GetSets_l0_succ, decT (by omega), condT, e1', hw6, decT (by omega), condT, exA_s]
      exact put_nils l21 _ (by kernel_rfl) _
    · generalize hN : bitsV bs p 6 e = N at *
      have hssn : ss.set c ⟨none, 0, 0⟩ = ss := by
        have := (hnil c (by omega)).1
        rw [List.getD_eq_getElem?_getD, List.getElem?_eq_getElem (by have := sv.len; omega), Option.getD_some] at this
        rw [← this, List.set_getElem_self]
      obtain ⟨h2, s2, v2, l42, r2, n2, k2, e2⟩ := gs_inner (y := some ⟨g2, 0, none⟩) (ss := ss) (c := c) (N := N) (lo := h1.next) (g4 := g4) (by omega) sv.len (by omega) (by omega) hne (fun x hx => ⟨by have := hrb x hx; omega, (hrb x hx).2.1⟩) (by omega) hR N 0 R h1 ⟨none, 0, 0⟩ [] (bitsP bs p 6 e) (bitsE bs p 6 e) (by omega) (by omega) (Nat.le_refl _) Vec.nil rfl (by simp [rowsOf]) (by rw [hssn]; exact l41) r1
      rw [List.nil_append] at v2
      have b2 := k2.1
      have hlt2 : ∀ x ∈ rowsOf rb, x < lo := fun x hx => (hrb x hx).1
      have start : ∀ (β : Type) (K0 : Option Addr → Option Addr → GH → Option β) (Kr : Option Addr → Int → GH → Option β), F_follow_GetSets_l0 (F_bitio_Reader_Bits R) (F_bitio_Reader_Err R) R (n + 1) (some ⟨gr, 0, none⟩) (some ⟨g2, 0, none⟩) (some ⟨g4, 0, none⟩) (((c + 1 : Nat) : Int) - 1) h K0 Kr = if (rdB bs N (bitsP bs p 6 e) (bitsE bs p 6 e)).2.2 ≠ 0 then Kr (some ⟨g2, 0, none⟩) (rdB bs N (bitsP bs p 6 e) (bitsE bs p 6 e)).2.2 (h2.put g2 (some (.row ⟨nil256.map slV, 0, false⟩))) else F_follow_GetSets_l0 (F_bitio_Reader_Bits R) (F_bitio_Reader_Err R) R n (some ⟨gr, 0, none⟩) (some ⟨g2, 0, none⟩) (some ⟨g4, 0, none⟩) ((c : Int) - 1) h2 K0 Kr := by
        intro β K0 Kr
        have l22 := k2.look l21 (by simp [rowsOf]; omega)
        rw [F_follow_GetSets_l0_succ, decT (by omega), condT, e1', hw6, decF (by omega), condF, hx1]
        have e2' := e2 β
        rw [show ((0 : Nat) : Int) = 0 from rfl] at e2'
        refine (e2' _).trans ?_
        rw [err_eq r2]
        by_cases hE : (rdB bs N (bitsP bs p 6 e) (bitsE bs p 6 e)).2.2 = 0
        · rw [hE, bne_self_eq_false, condF, i64w (by omega), if_neg (by simp)]
        · rw [bne_iff_ne.2 hE, condT, exA_s, if_pos hE]
          exact put_nils l22 _ (by kernel_rfl) _
      have l22 := k2.look l21 (by simp [rowsOf]; omega)
      by_cases hE : (rdB bs N (bitsP bs p 6 e) (bitsE bs p 6 e)).2.2 = 0
      · have hg : getS bs (c + 1) p e L = getS bs c (rdB bs N (bitsP bs p 6 e) (bitsE bs p 6 e)).2.1 (rdB bs N (bitsP bs p 6 e) (bitsE bs p 6 e)).2.2 (fun x => if x = c then (rdB bs N (bitsP bs p 6 e) (bitsE bs p 6 e)).1 else L x) := by
          rw [getS, hN, if_neg c32, if_neg (by simpa using hE)]
        have k02 : Keep h h2 [gr, g4] := (k1.mono (o1 := [gr, g4]) (by simp)).trans k2 (by simp [rowsOf])
        have sv2 : SetV h2 (ss.set c s2) (fun x => if x = c then (rdB bs N (bitsP bs p 6 e) (bitsE bs p 6 e)).1 else L x) := by
          refine ⟨by rw [List.length_set]; exact sv.len, fun x hx => ?_, fun x hx => ?_⟩
          · by_cases hxc : x = c
            · subst hxc
              rw [getD_set_eq _ (by have := sv.len; omega), if_pos rfl]; exact v2.row
            · rw [getD_set_ne _ hxc, if_neg hxc]
              exact (sv.rd x hx).keep k02 (fun y hy hm => by have := hrows x hx y hy; simp at hm; omega)
          · by_cases hxc : x = c
            · rw [if_pos hxc]; exact rdB_b8 _ _ _ _
            · rw [if_neg hxc]; exact sv.b8 x hx
        obtain ⟨h3, r3, k3, l23, ok3, no3⟩ := gs_outer hgr hg2 hg4 hne hne2 hne4 hrb hR c n h2 (ss.set c s2) _ _ _ (by omega) (by omega) (by omega) sv2
          (fun x hx => ⟨by rw [getD_set_ne _ (by omega)]; exact (hnil x (by omega)).1, by rw [if_neg (by omega)]; exact (hnil x (by omega)).2⟩)
          (fun x hx y hy => by
            by_cases hxc : x = c
            · subst hxc
              rw [getD_set_eq _ (by have := sv.len; omega)] at hy
              have := n2 y hy; omega
            · rw [getD_set_ne _ hxc] at hy
              exact hrows x hx y hy) l42 l22 r2
        rw [hg]
        refine ⟨h3, r3, (k02.mono (by simp)).trans k3 (by simp), l23, fun q => ?_, fun q => ?_⟩
        · obtain ⟨ss', a1, a2, a3, a4⟩ := ok3 q
          exact ⟨ss', a1, a2, a3, fun β K0 Kr => by rw [start, if_neg (by simpa using hE), a4]⟩
        · obtain ⟨a1, a4⟩ := no3 q
          exact ⟨a1, fun β K0 Kr => by rw [start, if_neg (by simpa using hE), a4]⟩
      · have hg : getS bs (c + 1) p e L = ⟨fun _ => [], (rdB bs N (bitsP bs p 6 e) (bitsE bs p 6 e)).2.2, (rdB bs N (bitsP bs p 6 e) (bitsE bs p 6 e)).2.1, (rdB bs N (bitsP bs p 6 e) (bitsE bs p 6 e)).2.2⟩ := by
          rw [getS, hN, if_neg c32, if_pos hE]
        have k3 := keep_put h2 g2 (some (.row ⟨nil256.map slV, 0, false⟩))
        rw [hg]
        exact ⟨h2.put g2 (some (.row ⟨nil256.map slV, 0, false⟩)), r2.keep k3 (by simpa using hne2) (fun x hx => by have := hrb x hx; simp; exact this.2.2), (((k1.mono (o1 := [gr, g4, g2]) (by simp)).trans k2 (by simp [rowsOf])).trans k3 (by simp)), look_put_same (look_lt l22), fun q => absurd q hE, fun _ => ⟨rfl, fun β K0 Kr => by rw [start, if_pos hE]⟩⟩
theorem setv_nils (h : GH) : SetV h nil256 (fun _ => []) := by
  refine ⟨by rw [nil256, List.length_replicate], fun c hc => ?_, fun c hc x hx => by simp at hx⟩
  rw [nil256, List.getD_eq_getElem?_getD, List.getElem?_replicate, if_pos hc]
  exact Row.nil
theorem rows_nils (c : Nat) : rowsOf (nil256.getD c ⟨none, 0, 0⟩) = [] := by
  rw [nil256, List.getD_eq_getElem?_getD, List.getElem?_replicate]
  split <;> simp [rowsOf]
theorem Zs_eq : Z40 = nil256.map slV := Z28_eq
theorem nsub_slV {ss : List Sl} (h : ss.length = 256) : nsub (ss.map slV) 0 256 = some (ss.map slV) := by
  have := nsub_all (ss.map slV)
  rwa [List.length_map, h] at this
/-- what the sets of some bytes are -/
def gotS (bs : List Int) : GR := getS bs 256 0 0 (fun _ => [])
theorem getsets_eq {h : GH} {gr : Nat} {rb : Sl} {bs : List Int} (r : Rdr h gr rb bs 0 0) {R : Nat} (hR : 4000000 < R) :
    ∃ h' ss, SetV h' ss (gotS bs).L ∧ Rdr h' gr rb bs (gotS bs).p (gotS bs).e ∧ Keep h h' [gr] ∧ (∀ c, c < 256 → ∀ x ∈ rowsOf (ss.getD c ⟨none, 0, 0⟩), h.next ≤ x) ∧ ∀ (β : Type) (K : List Value → Int → GH → Option β), F_follow_GetSets R (some ⟨gr, 0, none⟩) h K = K (ss.map slV) (gotS bs).err h' := by
  obtain ⟨grl, rbl, _⟩ := r.lt
  have k1 := keep_push h (.row ⟨nil256.map slV, 0, false⟩) []
  have k2 := k1.trans (keep_push (h.push (.row ⟨nil256.map slV, 0, false⟩)) (.row ⟨nil256.map slV, 0, false⟩) []) (by simp)
  have hn256 : (nil256.map slV).length = 256 := by rw [List.length_map, nil256, List.length_replicate]
  obtain ⟨h3, r3, k3, l23, ok3, no3⟩ := gs_outer (g2 := h.next) (g4 := h.next + 1) (lo := h.next + 2) (by omega) (by omega) (by omega) (by omega) (by omega) (by omega) (fun x hx => by have := rbl x hx; omega) hR 256 R _ nil256 (fun _ => []) 0 0 (Nat.le_refl _) (by omega) (by show h.next + 2 ≤ h.next + 1 + 1; omega) (setv_nils _)
    (fun c hc => ⟨by rw [nil256, List.getD_eq_getElem?_getD, List.getElem?_replicate, if_pos hc]; rfl, rfl⟩) (fun c hc x hx => by rw [rows_nils] at hx; cases hx) (look_push_new (h := h.push (.row ⟨nil256.map slV, 0, false⟩))) (by rw [look_push_old (by simp [next_push]), look_push_new]) (r.keep k2 (by simp) (by simp))
  have start : ∀ (β : Type) (K : List Value → Int → GH → Option β), F_follow_GetSets R (some ⟨gr, 0, none⟩) h K = _ := fun β K => by
    unfold F_follow_GetSets
    rw [F_follow_GetSets_gen, Zs_eq, gnew_eq (allCells_slV _), gnew_eq (allCells_slV _), show (255 : Int) = ((256 : Nat) : Int) - 1 from rfl]
  have k03 : Keep h h3 [gr] := k2.mono (o1 := [gr]) (by simp) |>.trans k3 (fun x hx => by simp at hx; simp; omega)
  by_cases hE : (gotS bs).err = 0
  · obtain ⟨ss, sv, l4, hrows, e3⟩ := ok3 hE
    have k4 := keep_put h3 h.next (some (.row ⟨ss.map slV, 0, false⟩))
    refine ⟨h3.put h.next (some (.row ⟨ss.map slV, 0, false⟩)), ss, sv.keep k4 (fun c hc x hx => by have := hrows c hc x hx; simp; omega), r3.keep k4 (by simp; omega) (fun x hx => by have := rbl x hx; simp; omega), k03.trans k4 (fun x hx => .inr (by simp at hx; omega)), fun c hc x hx => by have := hrows c hc x hx; omega, fun β K => ?_⟩
    have hl : (ss.map slV).length = 256 := by rw [List.length_map]; exact sv.len
    rw [start]
    refine (e3 β _ _).trans ?_
    rw [exA_s, rowCells_of l4, nsub_slV sv.len, exL_s, hl, beq_t, condT, exA_s, gput_eq l23 (allCells_slV _) (by rw [hl, hn256]; omega), nlay_all _ _ (by rw [hl, hn256]), exA_s, rowCells_of (look_put_same (look_lt l23)), nsub_slV sv.len, exL_s, hl, beq_t, condT, hE]
  · obtain ⟨hL, e3⟩ := no3 hE
    refine ⟨h3, nil256, ?_, r3, k03, (fun c hc x hx => by rw [rows_nils] at hx; cases hx), fun β K => ?_⟩
    · show SetV h3 nil256 (getS bs 256 0 0 (fun _ => [])).L
      rw [hL]; exact setv_nils _
    · rw [start]
      refine (e3 β _ _).trans ?_
      rw [exA_s, rowCells_of l23, nsub_slV (by rw [nil256, List.length_replicate]), exL_s, hn256, beq_t, condT]
      rfl
/-! ### a byte read -/
structure GB where
  c : Int
  err : Int
  p : Nat
  e : Int
/-- a byte behind one that has these followers -/
def getG (bs l : List Int) (p : Nat) (e : Int) : GB :=
  if l.length = 0 then ⟨(bitsV bs p 8 e : Nat), bitsE bs p 8 e, bitsP bs p 8 e, bitsE bs p 8 e⟩
  else if bitsV bs p 1 e = 1 then ⟨(bitsV bs (bitsP bs p 1 e) 8 (bitsE bs p 1 e) : Nat), bitsE bs (bitsP bs p 1 e) 8 (bitsE bs p 1 e), bitsP bs (bitsP bs p 1 e) 8 (bitsE bs p 1 e), bitsE bs (bitsP bs p 1 e) 8 (bitsE bs p 1 e)⟩
  else if bitsE bs (bitsP bs p 1 e) (Wd l.length) (bitsE bs p 1 e) ≠ 0 then ⟨0, bitsE bs (bitsP bs p 1 e) (Wd l.length) (bitsE bs p 1 e), bitsP bs (bitsP bs p 1 e) (Wd l.length) (bitsE bs p 1 e), bitsE bs (bitsP bs p 1 e) (Wd l.length) (bitsE bs p 1 e)⟩
  else if l.length ≤ bitsV bs (bitsP bs p 1 e) (Wd l.length) (bitsE bs p 1 e) then ⟨0, 7, bitsP bs (bitsP bs p 1 e) (Wd l.length) (bitsE bs p 1 e), bitsE bs (bitsP bs p 1 e) (Wd l.length) (bitsE bs p 1 e)⟩
  else ⟨l.getD (bitsV bs (bitsP bs p 1 e) (Wd l.length) (bitsE bs p 1 e)) 0, 0, bitsP bs (bitsP bs p 1 e) (Wd l.length) (bitsE bs p 1 e), bitsE bs (bitsP bs p 1 e) (Wd l.length) (bitsE bs p 1 e)⟩
theorem get_eq {h : GH} {gr : Nat} {rb : Sl} {bs : List Int} {p : Nat} {e : Int} (r : Rdr h gr rb bs p e) {ss : List Sl} {L : Nat → List Int} (s : SetV h ss L) (hg : ∀ c, c < 256 → ∀ x ∈ rowsOf (ss.getD c ⟨none, 0, 0⟩), x ≠ gr) {last : Nat} (hlast : last < 256) {R : Nat} (hR : 4000000 < R) :
    ∃ h', Rdr h' gr rb bs (getG bs ((L last).take 32) p e).p (getG bs ((L last).take 32) p e).e ∧ Keep h h' [gr] ∧ ∀ (β : Type) (K : Int → Int → GH → Option β), F_follow_Get R (some ⟨gr, 0, none⟩) (ss.map slV) (last : Nat) h K = K (getG bs ((L last).take 32) p e).c (getG bs ((L last).take 32) p e).err h' := by
  have k0 := keep_push h (.row ⟨ss.map slV, 0, false⟩) []
  obtain ⟨h0, eh0⟩ : ∃ h0, h0 = h.push (.row ⟨ss.map slV, 0, false⟩) := ⟨_, rfl⟩
  rw [← eh0] at k0
  have hl0 : h0.look h.next = some (.row ⟨ss.map slV, 0, false⟩) := by rw [eh0]; exact look_push_new
  have s0 := s.keep k0 (by simp)
  have r0 := r.keep k0 (by simp) (by simp)
  have cl := s0.cell hl0 hlast
  obtain ⟨q, rq, nq, eq⟩ := first_eq (s0.rd last hlast) R
  obtain ⟨F, hF⟩ : ∃ F, F = (L last).take 32 := ⟨_, rfl⟩
  rw [← hF] at rq ⊢
  have hF32 : F.length ≤ 32 := by rw [hF]; simp; omega
  have hw := Wd_le F.length
  have hqn := rq.n
  have hqg : ∀ x ∈ rowsOf q, x ∉ [gr] := fun x hx => by have := hg last hlast x (nq x hx); simpa using this
  have start : ∀ (β : Type) (K : Int → Int → GH → Option β), F_follow_Get R (some ⟨gr, 0, none⟩) (ss.map slV) (last : Nat) h K = _ := fun β K => by
    unfold F_follow_Get
    rw [F_follow_Get_gen, gnew_eq (allCells_slV ss), ← eh0, within_t (by omega) (by omega), Int.toNat_natCast, Nat.zero_add, Nat.mul_one, cl, exS_s', eq, beq_int]
  have wu8 : ∀ p e, IntKind.wrap .u8 ((bitsV bs p 8 e : Nat) : Int) = (bitsV bs p 8 e : Nat) := fun p e => IntWalk.u8_in _ (by have := bitsV_lt bs p 8 e; rw [show (2 : Nat) ^ 8 = 256 by decide] at this; omega)
  by_cases c1 : F.length = 0
  · obtain ⟨h1, r1, k1, e1⟩ := bits_prog r0 (n := 8) (by omega) hR
    have hG : getG bs F p e = ⟨(bitsV bs p 8 e : Nat), bitsE bs p 8 e, bitsP bs p 8 e, bitsE bs p 8 e⟩ := by rw [getG, if_pos c1]
    rw [hG]
    refine ⟨h1, r1, (k0.mono (by simp)).trans k1 (by simp), fun β K => ?_⟩
    rw [start, decT (by omega), condT]
    refine (e1 β _).trans ?_
    rw [err_eq r1, wu8]
  · obtain ⟨h1, r1, k1, e1⟩ := bit_prog r0 hR
    by_cases c2 : bitsV bs p 1 e = 1
    · obtain ⟨h2, r2, k2, e2⟩ := bits_prog r1 (n := 8) (by omega) hR
      have hG : getG bs F p e = ⟨(bitsV bs (bitsP bs p 1 e) 8 (bitsE bs p 1 e) : Nat), bitsE bs (bitsP bs p 1 e) 8 (bitsE bs p 1 e), bitsP bs (bitsP bs p 1 e) 8 (bitsE bs p 1 e), bitsE bs (bitsP bs p 1 e) 8 (bitsE bs p 1 e)⟩ := by rw [getG, if_neg c1, if_pos c2]
      rw [hG]
      refine ⟨h2, r2, ((k0.mono (by simp)).trans k1 (by simp)).trans k2 (by simp), fun β K => ?_⟩
      rw [start, decF (by omega), condF]
      refine (e1 β _).trans ?_
      rw [beq_int, decT (by omega), condT]
      refine (e2 β _).trans ?_
      rw [err_eq r2, wu8]
    · obtain ⟨h2, r2, k2, e2⟩ := bits_prog r1 (n := Wd F.length) (by omega) hR
      have rq2 := (rq.keep k1 hqg).keep k2 hqg
      have hv := bitsV_lt bs (bitsP bs p 1 e) (Wd F.length) (bitsE bs p 1 e)
      have h64 : bitsV bs (bitsP bs p 1 e) (Wd F.length) (bitsE bs p 1 e) < 2 ^ 32 := Nat.lt_of_lt_of_le hv (Nat.pow_le_pow_right (by omega) (by omega))
      rw [show (2 : Nat) ^ 32 = 4294967296 by decide] at h64
      generalize hV : bitsV bs (bitsP bs p 1 e) (Wd F.length) (bitsE bs p 1 e) = v at *
      have hwv : IntKind.wrap .i64 ((v : Nat) : Int) = (v : Nat) := i64w (by omega)
      have go : ∀ (β : Type) (K : Int → Int → GH → Option β), F_follow_Get R (some ⟨gr, 0, none⟩) (ss.map slV) (last : Nat) h K = (bif bitsE bs (bitsP bs p 1 e) (Wd F.length) (bitsE bs p 1 e) != 0 then F_bitio_Reader_Err R (some ⟨gr, 0, none⟩) h2 fun r25 h26 => K 0 r25 h26 else (bif decide (((v : Nat) : Int) ≥ ((F.length : Nat) : Int)) then K 0 7 h2 else exA q.a fun g27 o28 => within ((v : Nat) : Int) F.length (exI .u8 (h2.cell ⟨g27, o28 + ((v : Nat) : Int).toNat * 1, none⟩) fun x29 => K x29 0 h2))) := fun β K => by
        rw [start, decF (by omega), condF]
        refine (e1 β _).trans ?_
        rw [beq_int, decF (by omega), condF, hqn, width_prog (β := β) R (n := F.length) (by omega) hF32 h1]
        refine (e2 β _).trans ?_
        rw [err_eq r2, hwv]
      have k02 : Keep h h2 [gr] := ((k0.mono (by simp)).trans k1 (by simp)).trans k2 (by simp)
      by_cases c3 : bitsE bs (bitsP bs p 1 e) (Wd F.length) (bitsE bs p 1 e) = 0
      · by_cases c4 : F.length ≤ v
        · have hG : getG bs F p e = ⟨0, 7, bitsP bs (bitsP bs p 1 e) (Wd F.length) (bitsE bs p 1 e), bitsE bs (bitsP bs p 1 e) (Wd F.length) (bitsE bs p 1 e)⟩ := by
            rw [getG, if_neg c1, if_neg c2, if_neg (by simpa using c3), hV, if_pos c4]
          rw [hG]
          refine ⟨h2, r2, k02, fun β K => ?_⟩
          rw [go, c3, bne_self_eq_false, condF, decT (by omega), condT]
        · have hG : getG bs F p e = ⟨F.getD v 0, 0, bitsP bs (bitsP bs p 1 e) (Wd F.length) (bitsE bs p 1 e), bitsE bs (bitsP bs p 1 e) (Wd F.length) (bitsE bs p 1 e)⟩ := by
            rw [getG, if_neg c1, if_neg c2, if_neg (by simpa using c3), hV, if_neg c4]
          rw [hG]
          refine ⟨h2, r2, k02, fun β K => ?_⟩
          have q1 := fun K => rq2.byte (β := β) (i := ((v : Nat) : Int)) (by omega) (by omega) K
          rw [hqn] at q1
          rw [go, c3, bne_self_eq_false, condF, decF (by omega), condF, q1, Int.toNat_natCast]
      · have hG : getG bs F p e = ⟨0, bitsE bs (bitsP bs p 1 e) (Wd F.length) (bitsE bs p 1 e), bitsP bs (bitsP bs p 1 e) (Wd F.length) (bitsE bs p 1 e), bitsE bs (bitsP bs p 1 e) (Wd F.length) (bitsE bs p 1 e)⟩ := by
          rw [getG, if_neg c1, if_neg c2, if_pos c3]
        rw [hG]
        refine ⟨h2, r2, k02, fun β K => ?_⟩
        rw [go, bne_iff_ne.2 c3, condT, err_eq r2]
end Go.Proofs.Ytdmemmpkkibckaa.Gx

