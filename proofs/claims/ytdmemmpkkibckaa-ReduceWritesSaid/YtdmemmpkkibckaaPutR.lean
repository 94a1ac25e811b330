/- Bytes behind bytes are written by the document; sets are written. No condition. -/
import Derived.Test.YtdmemmpkkibckaaWrR
import Derived.Test.YtdmemmpkkibckaaBstF
namespace Go.Proofs.Ytdmemmpkkibckaa.Gx
open Go Go.RowKit
set_option linter.unusedVariables false
set_option linter.unusedSimpArgs false
theorem cutR_eq {h : GH} {a : Sl} {bs : List Int} (r : Rd h a bs) (R : Nat) : ∃ q, Rd h q (bs.take 32) ∧ (∀ k ∈ rowsOf q, k ∈ rowsOf a) ∧ ∀ (β : Type) (K : Sl → GH → Option β), F_ref12_Cut R a h K = K q h := by
  obtain ⟨q, rq, nq, eq⟩ := ref_cut r R 32
  rw [show ((32 : Nat) : Int) = 32 from rfl] at eq
  refine ⟨q, rq, nq, fun β K => ?_⟩
  unfold F_ref12_Cut
  rw [F_ref12_Cut_gen]
  exact eq β _
theorem fputR_eq {h : GH} {g gs : Nat} {wb : Sl} {l : List (Nat × Nat)} (w : WrR h g wb l) {ss : List Sl} {L : Nat → List Int} (s : SetV h ss L) (hls : h.look gs = some (.row ⟨ss.map slV, 0, false⟩)) (hg : ∀ c, c < 256 → ∀ x ∈ rowsOf (ss.getD c ⟨none, 0, 0⟩), x ≠ g ∧ x ∉ rowsOf wb) {last : Nat} (hlast : last < 256) {c : Int} (hc : 0 ≤ c ∧ c ≤ 255) (hl : wl l ≤ 700000000) {R : Nat} (hR : 4000000 < R) :
    ∃ h' wb', WrR h' g wb' (l ++ fputL ((L last).take 32) c) ∧ Keep h h' (g :: rowsOf wb) ∧ (∀ y ∈ rowsOf wb', y ∈ rowsOf wb ∨ h.next ≤ y) ∧ ∀ (β : Type) (K : GH → Option β), F_ref12_Put R (some ⟨g, 0, none⟩) (some ⟨gs, 0, none⟩) ((last : Nat) : Int) c h K = K h' := by
  have cl := s.cell hls hlast
  obtain ⟨q, rq, nq, eq⟩ := cutR_eq (s.rd last hlast) R
  obtain ⟨F, hF⟩ : ∃ F, F = (L last).take 32 := ⟨_, rfl⟩
  rw [← hF] at rq ⊢
  have hF32 : F.length ≤ 32 := by rw [hF]; simp; omega
  have hi := idxF_mem F c 0
  have hw := Wd_le F.length
  have hcn : c = ((c.toNat : Nat) : Int) := by omega
  have hqn := rq.n
  have start : ∀ (β : Type) (K : GH → Option β), F_ref12_Put R (some ⟨g, 0, none⟩) (some ⟨gs, 0, none⟩) ((last : Nat) : Int) c h K = _ := fun β K => by
    unfold F_ref12_Put
    rw [F_ref12_Put_gen, exA_s, within_t (by omega) (by omega), Int.toNat_natCast, Nat.zero_add, Nat.mul_one, cl, exS_s', eq, at_eqB rq (by omega) hR, hqn]
  unfold fputL
  by_cases c1 : F.length = 0
  · rw [if_pos c1]
    obtain ⟨h', wb', w', k', n', e'⟩ := rput_one w (x := c.toNat) (k := 8) (by rw [show (2 : Nat) ^ 8 = 256 by decide]; omega) (by omega) (by omega) hR
    refine ⟨h', wb', w', k', n', fun β K => ?_⟩
    rw [start, decF (by omega), condF, condF, u32i (by omega), hcn]
    exact e' β _
  · rw [if_neg c1]
    by_cases c2 : 0 ≤ idxF F c 0
    · rw [if_pos c2]
      obtain ⟨h1, wb1, w1, k1, n1, e1⟩ := rput_one w (x := 0) (k := 1) (by decide) (by omega) (by omega) hR
      obtain ⟨h2, wb2, w2, k2, n2, e2⟩ := rput_one w1 (x := (idxF F c 0).toNat) (k := Wd F.length) (lt_Wd (by omega) hF32) (by omega) (by rw [wl_app]; simp [wl]; omega) hR
      refine ⟨h2, wb2, by rw [List.append_assoc] at w2; exact w2, k1.trans k2 (fun x hx => ?_), fun y hy => ?_, fun β K => ?_⟩
      · rcases List.mem_cons.1 hx with e | e
        · exact .inl (by simp [e])
        · exact (n1 x e).imp (fun q => by simp [q]) id
      · rcases n2 y hy with q | q
        · exact n1 y q
        · have := k1.1; exact .inr (by omega)
      · rw [start, decT (by omega), condT, decT c2, condT]
        refine Eq.trans (e1 β _) ?_
        rw [width_ref hR (by omega) hF32, u32i (by omega), show idxF F c 0 = (((idxF F c 0).toNat : Nat) : Int) by omega]
        exact e2 β _
    · rw [if_neg c2]
      obtain ⟨h1, wb1, w1, k1, n1, e1⟩ := rput_one w (x := 1) (k := 1) (by decide) (by omega) (by omega) hR
      obtain ⟨h2, wb2, w2, k2, n2, e2⟩ := rput_one w1 (x := c.toNat) (k := 8) (by rw [show (2 : Nat) ^ 8 = 256 by decide]; omega) (by omega) (by rw [wl_app]; simp [wl]; omega) hR
      refine ⟨h2, wb2, by rw [List.append_assoc] at w2; exact w2, k1.trans k2 (fun x hx => ?_), fun y hy => ?_, fun β K => ?_⟩
      · rcases List.mem_cons.1 hx with e | e
        · exact .inl (by simp [e])
        · exact (n1 x e).imp (fun q => by simp [q]) id
      · rcases n2 y hy with q | q
        · exact n1 y q
        · have := k1.1; exact .inr (by omega)
      · rw [start, decT (by omega), condT, decF c2, condF, condT]
        refine Eq.trans (e1 β _) ?_
        rw [u32i (by omega), hcn]
        exact e2 β _
/-! ### sets -/
theorem putsR_l1 {R : Nat} (hR : 4000000 < R) {g : Nat} {s : Sl} {F : List Int} (hb : B8 F) (hF : F.length ≤ 32) (p : Option Addr) (y : Int) (hg : g ∉ rowsOf s) : ∀ (f i : Nat) {h : GH} {wb : Sl} {l : List (Nat × Nat)}, i ≤ F.length → F.length < f + i → Rd h s F → WrR h g wb l → (∀ x ∈ rowsOf s, x ∉ rowsOf wb) → wl l + 8 * (F.length - i) ≤ 700000000 →
    ∃ h' wb', WrR h' g wb' (l ++ bytes8 (F.drop i)) ∧ Keep h h' (g :: rowsOf wb) ∧ (∀ x ∈ rowsOf wb', x ∈ rowsOf wb ∨ h.next ≤ x) ∧ ∀ (β : Type) (F1 : Sl → GH → (Sl → GH → Option β) → Option β) (K2 : Option Addr → Option Addr → Int → GH → Option β), F_ref12_PutSets_l1 F1 (F_ref01_Writer_Put R) R f (some ⟨g, 0, none⟩) p y s ((i : Nat) : Int) h K2 = K2 (some ⟨g, 0, none⟩) p y h' := by
  intro f
  induction f with
  | zero => intro i h wb l h1 h2; omega
  | succ f ih =>
    intro i h wb l h1 h2 r w hd hl
    by_cases hi : i < F.length
    · have hx : 0 ≤ F.getD i 0 ∧ F.getD i 0 ≤ 255 := by rw [List.getD_eq_getElem?_getD, List.getElem?_eq_getElem hi]; exact hb _ (List.getElem_mem hi)
      obtain ⟨h1', wb1, w1, k1, n1, e1⟩ := rput_one w (x := (F.getD i 0).toNat) (k := 8) (by rw [show (2 : Nat) ^ 8 = 256 by decide]; omega) (by omega) (by omega) hR
      have lt := r.lt
      obtain ⟨h', wb', w', k', n', e'⟩ := ih (i + 1) (by omega) (by omega) (r.keep k1 (fun x hx hm => by
        rcases List.mem_cons.1 hm with e | e
        · subst e; exact hg hx
        · exact hd x hx e)) w1 (fun x hx hm => by
        rcases n1 x hm with q | q
        · exact hd x hx q
        · have := lt x hx; omega) (by rw [wl_app]; simp [wl]; omega)
      refine ⟨h', wb', by rw [getD_dropB hi]; rw [List.append_assoc] at w'; exact w', k1.trans k' (fun x hx => ?_), fun x hx => ?_, fun β F1 K2 => ?_⟩
      · rcases List.mem_cons.1 hx with e | e
        · exact .inl (by simp [e])
        · rcases n1 x e with q | q
          · exact .inl (by simp [q])
          · exact .inr q
      · rcases n' x hx with q | q
        · exact n1 x q
        · have := k1.1; exact .inr (by omega)
      · have hsn := r.n
        rw [F_ref12_PutSets_l1_succ, decT (by omega), condT]
        have hby := r.byte (β := β) (i := ((i : Nat) : Int)) (by omega) (by omega)
        refine Eq.trans (hby _) ?_
        rw [Int.toNat_natCast, u32i (by omega), show F.getD i 0 = (((F.getD i 0).toNat : Nat) : Int) by omega]
        refine Eq.trans (e1 β _) ?_
        rw [i64w (by omega)]
        exact e' β F1 K2
    · have : F.drop i = [] := List.drop_eq_nil_of_le (by omega)
      refine ⟨h, wb, by rw [this]; simpa [bytes8] using w, .refl _ _, fun x hx => .inl hx, fun β F1 K2 => ?_⟩
      have hsn := r.n
      rw [F_ref12_PutSets_l1_succ, decF (by omega), condF]
theorem putsR_l0 {R : Nat} (hR : 4000000 < R) {g gs : Nat} {ss : List Sl} {L : Nat → List Int} (hgs : gs ≠ g) (hg : ∀ c, c < 256 → ∀ x ∈ rowsOf (ss.getD c ⟨none, 0, 0⟩), x ≠ g) : ∀ (k f : Nat) {h : GH} {wb : Sl} {l : List (Nat × Nat)}, k ≤ 256 → k < f → SetV h ss L → h.look gs = some (.row ⟨ss.map slV, 0, false⟩) → WrR h g wb l → gs ∉ rowsOf wb → (∀ c, c < 256 → ∀ x ∈ rowsOf (ss.getD c ⟨none, 0, 0⟩), x ∉ rowsOf wb) → wl l + 262 * k ≤ 600000000 →
    ∃ h' wb', WrR h' g wb' (l ++ setsL L k) ∧ Keep h h' (g :: rowsOf wb) ∧ (∀ x ∈ rowsOf wb', x ∈ rowsOf wb ∨ h.next ≤ x) ∧ ∀ (β : Type) (K0 : GH → Option β), F_ref12_PutSets_l0 (F_ref12_Cut R) (F_ref01_Writer_Put R) R f (some ⟨g, 0, none⟩) (some ⟨gs, 0, none⟩) (((k : Nat) : Int) - 1) h K0 = K0 h' := by
  intro k
  induction k with
  | zero =>
    intro f h wb l h1 h2 s hl w hw1 hw2 hlen
    obtain ⟨f, rfl⟩ : ∃ q, f = q + 1 := ⟨f - 1, by omega⟩
    refine ⟨h, wb, by simpa [setsL] using w, .refl _ _, fun x hx => .inl hx, fun β K0 => ?_⟩
    rw [F_ref12_PutSets_l0_succ, decF (by omega), condF]
  | succ k ih =>
    intro f h wb l h1 h2 s hl w hw1 hw2 hlen
    obtain ⟨f, rfl⟩ : ∃ q, f = q + 1 := ⟨f - 1, by omega⟩
    have hk : k < 256 := by omega
    obtain ⟨q, rq, nq, eq⟩ := cutR_eq (s.rd k hk) R
    have hF32 : ((L k).take 32).length ≤ 32 := by simp; omega
    have hFb : B8 ((L k).take 32) := fun x hx => s.b8 k hk x (List.mem_of_mem_take hx)
    have hqn := rq.n
    obtain ⟨hA, wbA, wA, kA, nA, eA⟩ := rput_one w (x := ((L k).take 32).length) (k := 6) (by rw [show (2 : Nat) ^ 6 = 64 by decide]; omega) (by omega) (by omega) hR
    have lq := rq.lt
    have ltall : ∀ c, c < 256 → ∀ x ∈ rowsOf (ss.getD c ⟨none, 0, 0⟩), x < h.next := fun c hc => (s.rd c hc).lt
    obtain ⟨hB, wbB, wB, kB, nB, eB⟩ := putsR_l1 hR hFb hF32 (some ⟨gs, 0, none⟩) ((k : Nat) : Int) (s := q) (g := g) (fun t => hg k hk g (nq g t) rfl) R 0 (by omega) (by omega) (rq.keep kA (fun x hx hm => by
      rcases List.mem_cons.1 hm with e | e
      · exact hg k hk x (nq x hx) e
      · exact hw2 k hk x (nq x hx) e)) wA (fun x hx hm => by
      rcases nA x hm with t | t
      · exact hw2 k hk x (nq x hx) t
      · have := lq x hx; omega) (by rw [wl_app]; simp only [wl]; omega)
    rw [List.drop_zero] at wB
    have kAB : Keep h hB (g :: rowsOf wb) := kA.trans kB (fun x hx => by
      rcases List.mem_cons.1 hx with e | e
      · exact .inl (by simp [e])
      · rcases nA x e with t | t
        · exact .inl (by simp [t])
        · exact .inr t)
    have nAB : ∀ x ∈ rowsOf wbB, x ∈ rowsOf wb ∨ h.next ≤ x := fun x hx => by
      rcases nB x hx with t | t
      · exact nA x t
      · have := kA.1; exact .inr (by omega)
    have gsl := look_lt hl
    obtain ⟨h', wb', w', k', n', e'⟩ := ih f (by omega) (by omega) (s.keep kAB (fun c hc x hx hm => by
      rcases List.mem_cons.1 hm with e | e
      · exact hg c hc x hx e
      · exact hw2 c hc x hx e)) (kAB.look hl (by simp; exact ⟨hgs, hw1⟩)) wB (fun t => by
      rcases nAB gs t with t | t
      · exact hw1 t
      · omega) (fun c hc x hx hm => by
      rcases nAB x hm with t | t
      · exact hw2 c hc x hx t
      · have := ltall c hc x hx; omega) (by rw [wl_app, wl_app, wl_bytes8]; simp only [wl]; omega)
    refine ⟨h', wb', ?_, kAB.trans k' (fun x hx => ?_), fun x hx => ?_, fun β K0 => ?_⟩
    · rw [setsL, oneL]
      simp only [List.append_assoc, List.cons_append, List.nil_append] at w' ⊢
      exact w'
    · rcases List.mem_cons.1 hx with e | e
      · exact .inl (by simp [e])
      · rcases nAB x e with t | t
        · exact .inl (by simp [t])
        · exact .inr t
    · rcases n' x hx with t | t
      · exact nAB x t
      · have := kAB.1; exact .inr (by omega)
    · have ek : ((k + 1 : Nat) : Int) - 1 = ((k : Nat) : Int) := by omega
      rw [F_ref12_PutSets_l0_succ, ek, decT (by omega), condT, exA_s, within_t (by omega) (by omega), Int.toNat_natCast, Nat.zero_add, Nat.mul_one, s.cell hl hk, exS_s', eq, hqn, u32i (by omega)]
      refine Eq.trans (eA β _) ?_
      have eB' := eB β (F_ref12_Cut R)
      rw [show ((0 : Nat) : Int) = 0 from rfl] at eB'
      refine Eq.trans (eB' _) ?_
      rw [i64w (by omega)]
      exact e' β K0
theorem putsetsR_eq {R : Nat} (hR : 4000000 < R) {h : GH} {g gs : Nat} {wb : Sl} {l : List (Nat × Nat)} (w : WrR h g wb l) {ss : List Sl} {L : Nat → List Int} (s : SetV h ss L) (hls : h.look gs = some (.row ⟨ss.map slV, 0, false⟩)) (hgs : gs ≠ g) (hgw : gs ∉ rowsOf wb) (hg : ∀ c, c < 256 → ∀ x ∈ rowsOf (ss.getD c ⟨none, 0, 0⟩), x ≠ g ∧ x ∉ rowsOf wb) (hl : wl l ≤ 500000000) :
    ∃ h' wb', WrR h' g wb' (l ++ setsL L 256) ∧ Keep h h' (g :: rowsOf wb) ∧ (∀ x ∈ rowsOf wb', x ∈ rowsOf wb ∨ h.next ≤ x) ∧ ∀ (β : Type) (K : GH → Option β), F_ref12_PutSets R (some ⟨g, 0, none⟩) (some ⟨gs, 0, none⟩) h K = K h' := by
  obtain ⟨h', wb', w', k', n', e'⟩ := putsR_l0 hR (g := g) (gs := gs) (ss := ss) (L := L) hgs (fun c hc x hx => (hg c hc x hx).1) 256 R (by omega) (by omega) s hls w hgw (fun c hc x hx => (hg c hc x hx).2) (by omega)
  refine ⟨h', wb', w', k', n', fun β K => ?_⟩
  unfold F_ref12_PutSets
  rw [F_ref12_PutSets_gen]
  have := e' β (fun h31 => K h31)
  rw [show ((256 : Nat) : Int) - 1 = 255 from rfl] at this
  exact this
end Go.Proofs.Ytdmemmpkkibckaa.Gx

