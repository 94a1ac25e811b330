/- The document's sets: Best. No condition. -/
import Derived.Test.YtdmemmpkkibckaaBstD
import Derived.Test.YtdmemmpkkibckaaBstE
import Derived.Test.YtdmemmpkkibckaaCutR
namespace Go.Proofs.Ytdmemmpkkibckaa.Gx
open Go Go.RowKit
set_option linter.unusedVariables false
set_option linter.unusedSimpArgs false
/-! ### the document's Best -/
def bestTk (b : List Int) (i : Nat) (c : Nat) : List Int := if c = 0 ∨ ((c : Nat) : Int) ∈ b.take i then bestC b c else []
theorem rbest_loop {s : Sl} {b : List Int} (hb : B8 b) (hm : b.length ≤ 100000) {R : Nat} (hR : 4000000 < R) {g lo : Nat} (hg : g ∉ rowsOf s) (hlo : lo ≤ g) : ∀ (f i : Nat) {h : GH} {ss : List Sl}, i ≤ b.length → b.length < f + i → Rd h s b → SlB h g lo ss (bestTk b i) → g < h.next →
    ∃ h' ss', SlB h' g lo ss' (bestTk b b.length) ∧ Keep h h' [g] ∧ ∀ (β : Type) (K0 : Option Addr → GH → Option β), F_ref12_Best_l0 (F_ref12_One R) R f s (some ⟨g, 0, none⟩) ((i : Nat) : Int) h K0 = K0 (some ⟨g, 0, none⟩) h' := by
  intro f
  induction f with
  | zero => intro i h ss h1 h2; omega
  | succ f ih =>
    intro i h ss h1 h2 r sl hgn
    by_cases hi : i < b.length
    · have hx : 0 ≤ b.getD i 0 ∧ b.getD i 0 ≤ 255 := by rw [List.getD_eq_getElem?_getD, List.getElem?_eq_getElem hi]; exact hb _ (List.getElem_mem hi)
      obtain ⟨x, hxx⟩ : ∃ x : Nat, b.getD i 0 = ((x : Nat) : Int) := ⟨(b.getD i 0).toNat, by omega⟩
      rw [hxx] at hx
      have hx256 : x < 256 := by omega
      have htk := take_snocI hi
      rw [hxx] at htk
      obtain ⟨gb, ob, hsa, hcc⟩ := r.cell (by rw [r.n]; omega) Nat.one_pos
      have hcell : ∀ {h' : GH}, Rd h' s b → h'.cell ⟨gb, ob + i * 1, none⟩ = some (.int .u8 ((x : Nat) : Int)) := fun {h'} r' => by
        obtain ⟨g', o', ha', hc'⟩ := r'.cell (by rw [r'.n]; omega) Nat.one_pos
        rw [hsa] at ha'
        cases ha'
        rw [Nat.mul_one, hc' i (by rw [u8s_length]; exact hi), ← hxx]
        simp [u8s, hi, List.getD_eq_getElem?_getD]
      have ei : IntKind.wrap .i64 (((i : Nat) : Int) + 1) = ((i + 1 : Nat) : Int) := by rw [i64w (by omega)]; rfl
      have wi : ∀ {β : Type} (K : Option β), within ((i : Nat) : Int) s.n K = K := fun K => within_t (by omega) (by rw [r.n]; omega) K
      have same : (bestTk b i x ≠ [] ∨ x = 0) → ∀ c, c < 256 → bestTk b i c = bestTk b (i + 1) c := fun hq c hc => by
        unfold bestTk
        rw [htk]
        by_cases e : c = x
        · subst e
          rw [if_pos (c := c = 0 ∨ ((c : Nat) : Int) ∈ b.take i ++ [((c : Nat) : Int)]) (.inr (by simp))]
          rcases hq with hq | hq
          · unfold bestTk at hq
            by_cases c1 : c = 0 ∨ ((c : Nat) : Int) ∈ b.take i
            · rw [if_pos c1]
            · rw [if_neg c1] at hq; exact absurd rfl hq
          · rw [if_pos (.inl hq)]
        · have : (c = 0 ∨ ((c : Nat) : Int) ∈ b.take i ++ [((x : Nat) : Int)]) ↔ (c = 0 ∨ ((c : Nat) : Int) ∈ b.take i) := by
            rw [List.mem_append, List.mem_singleton]
            constructor
            · rintro (q | q | q)
              · exact .inl q
              · exact .inr q
              · omega
            · rintro (q | q)
              · exact .inl q
              · exact .inr (.inl q)
          by_cases c1 : c = 0 ∨ ((c : Nat) : Int) ∈ b.take i
          · rw [if_pos c1, if_pos (this.2 c1)]
          · rw [if_neg c1, if_neg (fun q => c1 (this.1 q))]
      by_cases hx0 : x = 0
      · obtain ⟨h', ss', s', k', e'⟩ := ih (i + 1) (by omega) (by omega) r (sl.congr (same (.inr hx0))) hgn
        refine ⟨h', ss', s', k', fun β K0 => ?_⟩
        rw [F_ref12_Best_l0_succ, decT (by rw [r.n]; omega), condT, hsa]
        simp only [exA_s, wi, Int.toNat_natCast, hcell r, exI_s]
        rw [decF (by omega), condF, ei]
        exact e' β K0
      · have hsc := sl.cell hx256
        have hsn := sl.n hx256
        have wx : ∀ {β : Type} (K : Option β), within ((x : Nat) : Int) 256 K = K := fun K => within_t (by omega) (by omega) K
        by_cases hn : bestTk b i x = []
        · rw [hn] at hsn
          obtain ⟨h3, q3, r3, k3, n3, e3⟩ := one_eq r hb hm hR ((x : Nat) : Int)
          have sl3 := sl.keep k3 (by simp) (by simp)
          obtain ⟨h4, s4, k4, e4⟩ := sl3.put hx256 r3 (fun k hk => by have := n3 k hk; omega)
          have k34 : Keep h h4 [g] := (k3.mono (by simp)).trans k4 (fun q hq => .inl hq)
          have rr3 := r.keep k3 (by simp)
          have r4 := r.keep k34 (fun y hy hm => by simp at hm; subst hm; exact hg hy)
          obtain ⟨h', ss', s', k', e'⟩ := ih (i + 1) (by omega) (by omega) r4 (s4.congr (fun c hc => by
            by_cases e : c = x
            · subst e
              rw [if_pos rfl, bestTk, if_pos (.inr (by rw [htk]; simp))]; rfl
            · rw [if_neg e]
              unfold bestTk
              rw [htk]
              by_cases c1 : c = 0 ∨ ((c : Nat) : Int) ∈ b.take i
              · rw [if_pos c1, if_pos (by rcases c1 with q | q; exact .inl q; exact .inr (by simp [q]))]
              · rw [if_neg c1, if_neg (fun q => by
                  rcases q with q | q
                  · exact c1 (.inl q)
                  · rcases List.mem_append.1 q with q | q
                    · exact c1 (.inr q)
                    · simp at q; omega)])) (by have := k34.1; omega)
          refine ⟨h', ss', s', k34.trans k' (fun q hq => .inl hq), fun β K0 => ?_⟩
          rw [F_ref12_Best_l0_succ, decT (by rw [r.n]; omega), condT, hsa]
          simp only [exA_s, wi, Int.toNat_natCast, hcell r, exI_s]
          rw [decT (by omega), condT]
          simp only [exA_s, Nat.zero_add, Nat.mul_one, wx, hsc, exS_s', hsn]
          rw [show ((List.length ([] : List Int) : Nat) : Int) = 0 from rfl, beq_self_eq_true, condT]
          rw [Nat.mul_one] at hcell
          refine Eq.trans (e3 β _) ?_
          rw [e4, sameAt_1, hcell r, hcell rr3, veqO_i, condT, ei]
          exact e' β K0
        · obtain ⟨h', ss', s', k', e'⟩ := ih (i + 1) (by omega) (by omega) r (sl.congr (same (.inl hn))) hgn
          refine ⟨h', ss', s', k', fun β K0 => ?_⟩
          have hlen : (bestTk b i x).length ≠ 0 := fun q => hn (List.length_eq_zero_iff.1 q)
          rw [F_ref12_Best_l0_succ, decT (by rw [r.n]; omega), condT, hsa]
          simp only [exA_s, wi, Int.toNat_natCast, hcell r, exI_s]
          rw [decT (by omega), condT]
          simp only [exA_s, Nat.zero_add, Nat.mul_one, wx, hsc, exS_s', hsn]
          rw [beq_int, decF (by omega), condF, ei]
          exact e' β K0
    · have : i = b.length := by omega
      subst this
      refine ⟨h, ss, sl, .refl _ _, fun β K0 => ?_⟩
      rw [F_ref12_Best_l0_succ, decF (by rw [r.n]; omega), condF]
theorem best_ref {h : GH} {s : Sl} {b : List Int} (r : Rd h s b) (hb : B8 b) (hm : b.length ≤ 100000) {R : Nat} (hR : 4000000 < R) : ∃ h' g ss, SlB h' g h.next ss (bestC b) ∧ h.next ≤ g ∧ Keep h h' [] ∧ ∀ (β : Type) (K : Option Addr → GH → Option β), F_ref12_Best R s h K = K (some ⟨g, 0, none⟩) h' := by
  have lt := r.lt
  have k0 := keep_push h (.row ⟨(List.replicate 256 (⟨none, 0, 0⟩ : Sl)).map slV, 0, false⟩) []
  have r0 := r.keep k0 (by simp)
  have s0 : SlB (h.push (.row ⟨(List.replicate 256 (⟨none, 0, 0⟩ : Sl)).map slV, 0, false⟩)) h.next h.next (List.replicate 256 ⟨none, 0, 0⟩) (fun _ => []) := slB_nil look_push_new
  obtain ⟨h1, q1, r1, k1, n1, e1⟩ := one_eq r0 hb hm hR 0
  obtain ⟨h2, s2, k2, e2⟩ := (s0.keep k1 (by simp) (by simp)).put (c := 0) (by omega) r1 (fun k hk => by have := n1 k hk; rw [next_push] at this; omega)
  have k12 := (k0.trans k1 (by simp)).mono (o1 := [h.next]) (by simp) |>.trans k2 (fun q hq => .inl hq)
  have r2 := r.keep k12 (fun y hy hm => by simp at hm; subst hm; have := lt _ hy; omega)
  obtain ⟨h3, ss3, s3, k3, e3⟩ := rbest_loop hb hm hR (g := h.next) (lo := h.next) (fun q => by have := lt _ q; omega) (Nat.le_refl _) R 0 (by omega) (by omega) r2 (s2.congr (fun c hc => by
    unfold bestTk
    rw [List.take_zero]
    by_cases e : c = 0
    · subst e; rw [if_pos rfl, if_pos (.inl rfl)]; rfl
    · rw [if_neg e, if_neg (by simp [e])])) (by have q1 := k1.1; have q2 := k2.1; rw [next_push] at q1; omega)
  refine ⟨h3, h.next, ss3, s3.congr (fun c hc => ?_), Nat.le_refl _, ⟨Nat.le_trans k12.1 k3.1, fun k hk _ => ?_⟩, fun β K => ?_⟩
  · unfold bestTk
    rw [List.take_length]
    by_cases e : c = 0 ∨ ((c : Nat) : Int) ∈ b
    · rw [if_pos e]
    · rw [if_neg e, bestC_none (fun q => e (.inl q)) (fun q => e (.inr q))]
  · rw [k3.2 k (Nat.lt_of_lt_of_le hk k12.1) (by simp; omega), k12.2 k hk (by simp; omega)]
  · unfold F_ref12_Best
    rw [F_ref12_Best_gen]
    refine Eq.trans (congrArg (fun l => gnew l 0 h _) (chkN_eq _ 256 (by kernel_rfl))) ?_
    rw [gnew_eq (allCells_slV _), e1, within_t (by omega) (by omega)]
    refine Eq.trans (e2 β _) ?_
    have e3' := e3 β (fun w31 h32 => K w31 h32)
    rw [show ((0 : Nat) : Int) = 0 from rfl] at e3'
    exact e3'
end Go.Proofs.Ytdmemmpkkibckaa.Gx

