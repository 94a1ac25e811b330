/- What a machine answers to any bytes: the law's run. No condition. -/
import Derived.Test.YtplkdjbcdeakaaaFeD
import Derived.Test.YtplkdjbcdeakaaaRow
namespace Go.Proofs.Ytplkdjbcdeakaaa.Gx
open Go Go.RowKit
set_option linter.unusedVariables false
section
variable {β : Type}
theorem within_s {i : Int} {n : Nat} (h0 : 0 ≤ i) (h1 : i < n) (K : Option β) : within i n K = K := by
  rw [within, decide_eq_true h0, decide_eq_true h1, condT, condT]
def newR (f size : Int) : Bool := decide (1 ≤ f ∧ f ≤ 4 ∧ 0 ≤ size)
theorem new_own {f size : Int} (hn : newR f size = true) (h : GH) : ∃ h' m g, (∀ (β : Type) (K : Option Addr → Int → GH → Option β), F9 f size h K = K (some ⟨m, 0, none⟩) 0 h') ∧ Mach h' m g f size 0 0 0 ⟨none, 0, 0⟩ [] ∧ Keep h h' [] ∧ ∀ k ∈ ownM m g ⟨none, 0, 0⟩, h.next ≤ k := by
  have hq := of_decide_eq_true hn
  refine ⟨(h.push (.row ⟨outCells size ⟨none, 0, 0⟩, 0, false⟩)).push (.row ⟨machCells f h.next 0 0 0, 0, false⟩), h.next + 1, h.next, fun β K => ?_, ⟨look_push_new, ⟨by rw [look_push_old (by simp [next_push])]; exact look_push_new, ⟨rfl, rfl, .inl ⟨rfl, rfl⟩⟩⟩⟩, (keep_push _ _ _).trans (keep_push _ _ []) (by simp), fun k hk => by simp [ownM, ownO, rowsOf] at hk; omega⟩
  unfold F9; rw [F9_gen]
  unfold F23; rw [F23_gen, decide_eq_true (show f ≥ 1 by omega), condT, decide_eq_true (show f ≤ 4 by omega), notT, condF]
  unfold F24; rw [F24_gen, decide_eq_false (show ¬ (65536 : Int) < 1 by omega), condF, decide_eq_false (show ¬ (65536 : Int) > 65536 by omega), condF, decide_eq_false (show ¬ size < 0 by omega), condF, gnew_eq rfl, bne_self_eq_false, condF, gnew_eq rfl]
  rfl
theorem new_ref {f size : Int} (hn : newR f size = true) (h : GH) : ∃ h' m g, (∀ (β : Type) (K : Option Addr → Int → GH → Option β), F10 f size h K = K (some ⟨m, 0, none⟩) 0 h') ∧ Mach h' m g f size 0 0 0 ⟨none, 0, 0⟩ [] ∧ Keep h h' [] ∧ ∀ k ∈ ownM m g ⟨none, 0, 0⟩, h.next ≤ k := by
  have hq := of_decide_eq_true hn
  refine ⟨(h.push (.row ⟨outCells size ⟨none, 0, 0⟩, 0, false⟩)).push (.row ⟨machCells f h.next 0 0 0, 0, false⟩), h.next + 1, h.next, fun β K => ?_, ⟨look_push_new, ⟨by rw [look_push_old (by simp [next_push])]; exact look_push_new, ⟨rfl, rfl, .inl ⟨rfl, rfl⟩⟩⟩⟩, (keep_push _ _ _).trans (keep_push _ _ []) (by simp), fun k hk => by simp [ownM, ownO, rowsOf] at hk; omega⟩
  unfold F10; rw [F10_gen, decide_eq_false (show ¬ f < 1 by omega), condF, decide_eq_false (show ¬ f > 4 by omega), condF, decide_eq_false (show ¬ size < 0 by omega), condF, gnew_eq rfl, gnew_eq rfl]
  rfl
theorem new_not {f size : Int} (hn : newR f size = false) (h : GH) (K : Option Addr → Int → GH → Option β) : F9 f size h K = K none 2 h ∧ F10 f size h K = K none 2 h := by
  have hq := of_decide_eq_false hn
  constructor
  · unfold F9; rw [F9_gen]
    unfold F23; rw [F23_gen]
    by_cases h1 : f ≥ 1
    · rw [decide_eq_true h1, condT]
      by_cases h2 : f ≤ 4
      · rw [decide_eq_true h2, notT, condF]
        unfold F24; rw [F24_gen, decide_eq_false (show ¬ (65536 : Int) < 1 by omega), condF, decide_eq_false (show ¬ (65536 : Int) > 65536 by omega), condF, decide_eq_true (show size < 0 by omega), condT, bne_iff_ne.2 (by omega), condT]
      · rw [decide_eq_false h2, notF, condT]
    · rw [decide_eq_false h1, condF, notF, condT]
  · unfold F10; rw [F10_gen]
    by_cases h1 : f < 1
    · rw [decide_eq_true h1, condT]
    · rw [decide_eq_false h1, condF]
      by_cases h2 : f > 4
      · rw [decide_eq_true h2, condT]
      · rw [decide_eq_false h2, condF, decide_eq_true (show size < 0 by omega), condT]
end
theorem feed_loop {f size : Int} {y : Sl} {zs : List Int} (hz : ∀ b ∈ zs, 0 ≤ b ∧ b ≤ 255) (hy : y.n ≤ zs.length) (hy2 : y.n ≤ 60) (ha : 0 < y.n → y.a = some ⟨0, 0, none⟩) (R : Nat) {m g m' g' : Nat} :
    ∀ (k n i : Nat) {h : GH} {S V N : Int} {s s' : Sl} {bs : List Int}, i + k = y.n → k < n → h.look 0 = some (.row ⟨u8s zs, 1, true⟩) → Mach h m g f size S V N s bs → Mach h m' g' f size S V N s' bs → (∀ k ∈ ownM m g s, k ∉ ownM m' g' s') → (∀ k ∈ ownM m g s, k ≠ 0) → (∀ k ∈ ownM m' g' s', k ≠ 0) → Ok f size S V N bs i →
    ∃ h', ∀ (β : Type) (K0 : GH → Option β) (Kr : Bool → GH → Option β), L3l0 F8 F9 F10 F11 F12 F14 F13 F15 F16 F17 F18c R n y (some ⟨m, 0, none⟩) (some ⟨m', 0, none⟩) (i : Nat) h K0 Kr = K0 h'
  | 0, n, i, h, S, V, N, s, s', bs, hi, hn, h0, M1, M2, hd, hp, hp', o => by
    obtain ⟨n, rfl⟩ : ∃ k, n = k + 1 := ⟨n - 1, by omega⟩
    refine ⟨h, fun β K0 Kr => ?_⟩
    rw [L3l0_succ, decide_eq_false (by omega), condF]
  | k + 1, n, i, h, S, V, N, s, s', bs, hi, hn, h0, M1, M2, hd, hp, hp', o => by
    obtain ⟨n, rfl⟩ : ∃ k, n = k + 1 := ⟨n - 1, by omega⟩
    have ha := ha (by omega)
    obtain ⟨b, hb⟩ : ∃ b, zs[i]? = some b := ⟨_, List.getElem?_eq_getElem (by omega)⟩
    have hbb := hz b (List.mem_of_getElem? hb)
    have hcell : ∀ {h : GH}, h.look 0 = some (.row ⟨u8s zs, 1, true⟩) → h.cell ⟨0, 0 + ((i : Nat) : Int).toNat * 1, none⟩ = some (.int .u8 b) := fun hl => by
      rw [cell_of hl, nth_u8s, Nat.zero_add, Nat.mul_one, Int.toNat_natCast, hb]; rfl
    -- the program's machine
    obtain ⟨h1, s1, e1, A1, k1, n1⟩ := feed_both true M1 o (by omega) hbb
    have e1 : ∀ (β : Type) (K : Int → GH → Option β), F11 (some ⟨m, 0, none⟩) b h K = K (feedR f size S V N bs b).e h1 := fun β K => (condT _ _).symm.trans (e1 β K)
    have z1 := k1.look h0 (fun hm => hp 0 hm rfl)
    have B1 := M2.keep k1 fun x hx hm => hd x hm hx
    -- the document's
    obtain ⟨h2, s2, e2, B2, k2, n2⟩ := feed_both false B1 o (by omega) hbb
    have e2 : ∀ (β : Type) (K : Int → GH → Option β), F12 (some ⟨m', 0, none⟩) b h1 K = K (feedR f size S V N bs b).e h2 := fun β K => (condF _ _).symm.trans (e2 β K)
    have d1 : ∀ x ∈ ownM m g s1, x ∉ ownM m' g' s' := fun x hx hm => by
      rcases n1 x hx with h' | h'
      · exact hd x h' hm
      · exact absurd (M2.lt x hm) (by omega)
    have z2 := k2.look z1 (fun hm => hp' 0 hm rfl)
    have A2 := A1.keep k2 d1
    have d2 : ∀ x ∈ ownM m g s1, x ∉ ownM m' g' s2 := fun x hx hm => by
      rcases n2 x hm with h' | h'
      · exact d1 x hx h'
      · exact absurd (A1.lt x hx) (by omega)
    have o' := o.next hbb
    have hl : (feedR f size S V N bs b).bs.length < 274877906944 := by have := o'.lt; omega
    -- what was told
    obtain ⟨h3, r, e3, b3, k3⟩ := F14_mach A2 hl
    have A3 := A2.keep k3 (by simp)
    have B3 := B2.keep k3 (by simp)
    have z3 := k3.look z2 (by simp)
    obtain ⟨h4, e4⟩ := feed_loop hz hy hy2 (fun _ => ha) R (m := m) (g := g) (m' := m') (g' := g') k n (i + 1) (by omega) (by omega) z3 A3 B3 d2
      (fun x hx => by
        rcases n1 x hx with h' | h'
        · exact hp x h'
        · have := look_lt h0; omega)
      (fun x hx => by
        rcases n2 x hx with h' | h'
        · exact hp' x h'
        · have := look_lt z1; omega) o'
    refine ⟨h4, fun β K0 Kr => ?_⟩
    have q1 : sameAt m' (0 + 2) 1 h3 h3 = true := same1 B3.c2 B3.c2 (by simp [veq])
    have q2 : sameAt g' (0 + 3) 1 h2 h3 = true := same1 B2.out.c3 B3.out.c3 (by simp [veq])
    have q3 : sameAt m' (0 + 1) 1 h2 h3 = true := same1 B2.c1 B3.c1 (by simp [veq])
    have q4 : sameAt 0 (0 + ((i : Nat) : Int).toNat * 1) 1 h h1 = true := same1 (hcell h0) (hcell z1) (by simp [veq])
    rw [L3l0_succ, decide_eq_true (by omega), condT, isNone_s, notF, condT, ha]
    simp only [exA_s]
    rw [within_s (by omega) (by omega), hcell h0, exI_s, e1, within_s (by omega) (by omega), hcell z1, exI_s, e2, bne_self_eq_false, condF, e3, B3.c1, exP_s]
    simp only [exA_s]
    rw [B3.out.c3, exS_s, F13_buf b3 B3.out.buf hl, notT, condF, F15_mach A3, F16_mach B3, beq_self_eq_true, notT, condF, F17_mach A3, B3.c2, exI_s, q1, condT, q2, condT, q3, condT, q4, condT, beq_self_eq_true, notT, condF]
    rw [show ((i : Nat) : Int) + 1 = ((i + 1 : Nat) : Int) by omega, IntWalk.i64_in _ (by omega)]
    exact e4 β K0 Kr
end Go.Proofs.Ytplkdjbcdeakaaa.Gx

