/- The plain machine and the model: a loop over the function that slices.Backward answers. No condition. -/
import Derived.Test.YtephmpbccajaaaaGxQa
namespace Go.Proofs.Ytephmpbccajaaaa.Gx
open Go Go.RowKit
set_option linter.unusedVariables false
set_option linter.unusedSimpArgs false
variable {P : Program}
/-- what a code does (fl: outside of rounds alone) -/
def CodeSim (fl : Prop) (P : Program) (N : Nat) (c : Code) (e : Env) (h : GH) (x : Exit) (e' : Env) (h' : GH) : Prop :=
  h.next ≤ h'.next ∧ ∀ ds ι w a, Good ι h h'.next w → AR ds ι N e a → ∀ (ro : Option Nat), (fl → ro = none) → ∀ (n : Nat) (Q : Exit → Act → World → Prop), (∀ ι' w' a' ds', Stp h ι w h' ι' w' → AR ds' ι' N e' a' → Mk w w' ds ds' → Q x a' w') → c.wpIn (Fw ro) n P Q a w
/-- the function f goes through a slice of whole numbers from its end -/
def BackOk (P : Program) (f : FuncId) : Prop :=
  (∀ args w, (callFunc f args).run P w = .ok (.enter f args) w) ∧
  ∀ (n l bs os len : Nat) (zs : Nat → Int) (J : Nat → World → Prop), len ≤ 4611686018427387904 →
    (∀ k W, J k W → k ≤ len → ∃ a cap, W.cell? ⟨bs, os, none⟩ = some (.slice a len cap) ∧ ∀ j, j < len → ∃ b o, a = some ⟨b, o, none⟩ ∧ W.cell? ⟨b, o + j, none⟩ = some (.int .i64 (zs j))) →
    (∀ k W m, J k W → k < len → YieldAt Fence.wide m P l #[.int .i64 ((len - 1 - k : Nat) : Int), .int .i64 (zs (len - 1 - k))] W fun e W' => e = .returned (.bool true) ∧ J (k + 1) W') →
    ∀ W, J 0 W → CallsIn Fence.wide n P f #[.func (.yield l) #[] #[], .pointer (some ⟨bs, os, none⟩)] W fun e W' => (∃ v, e = .returned v) ∧ J len W'
/-- one round -/
def RoundSim (P : Program) (N : Nat) (assign body : Code) (e : Env) (h h' : GH) : Prop :=
  ∃ e1 h1 e2, CodeSim False P N assign e h .normal e1 h1 ∧ CodeSim False P N body e1 h1 .normal e2 h'
theorem RoundSim.next {N : Nat} {assign body : Code} {e : Env} {h h' : GH} (r : RoundSim P N assign body e h h') : h.next ≤ h'.next := by
  obtain ⟨e1, h1, e2, s1, s2⟩ := r
  exact Nat.le_trans s1.1 s2.1
theorem chain_next {n : Nat} {H : Nat → GH} (hr : ∀ k, k < n → (H k).next ≤ (H (k + 1)).next) : ∀ j i, i ≤ j → j ≤ n → (H i).next ≤ (H j).next := by
  intro j
  induction j with
  | zero => intro i hi _; rw [Nat.le_zero.1 hi]; exact Nat.le_refl _
  | succ j ih =>
    intro i hi hj
    by_cases h : i = j + 1
    · rw [h]; exact Nat.le_refl _
    · exact Nat.le_trans (ih i (by omega) (by omega)) (hr j (by omega))
theorem cell_chain {n : Nat} {H : Nat → GH} {p : Addr} (hr : ∀ k, k < n → (H k).cell p = (H (k + 1)).cell p) : ∀ j, j ≤ n → (H j).cell p = (H 0).cell p := by
  intro j
  induction j with
  | zero => intro _; rfl
  | succ j ih => intro hj; rw [← hr j (by omega)]; exact ih (by omega)
/-- a cell of the ghost, in the world -/
theorem cell_sim {ι : Inj} {h : GH} {w : World} (hr : HR ι h w) {g o : Nat} {v : Value} (hc : h.cell ⟨g, o, none⟩ = some v) : ι g ≠ .dead ∧ ∀ p, ι g = .live p → ∃ r, w.cell? ⟨p.blk, p.off + o, none⟩ = some r ∧ VR ι v r := by
  have hc : rowCell (h.look g) o = some v := hc
  cases hb : h.look g with
  | none => rw [hb] at hc; cases hc
  | some ob =>
    cases ob with
    | map es => rw [hb] at hc; cases hc
    | row b =>
      rw [hb] at hc
      obtain ⟨h1, h2⟩ := look_get hb
      refine ⟨fun hd => ?_, fun p hp => ?_⟩
      · rw [hr.dead g h1 hd] at h2; cases h2
      · exact (row_at hr h1 hp h2).cell o v hc
theorem range_sim {fl : Prop} {f : FuncId} (hB : BackOk P f) {g : Operand} {p0 p1 : Tmp} {assign body : Code} {N : Nat} {e : Env} {h : GH} {gB oB : Nat} (he : e.eval g = .func (.func f) #[] #[.pointer (some ⟨gB, oB, none⟩)])
    {sa : Option Addr} {sn sc : Nat} (hs : h.cell ⟨gB, oB, none⟩ = some (.slice sa sn sc)) (hp0 : p0 < N) (hp1 : p1 < N) (hl : sn ≤ 4611686018427387904) (hfl : fl) {H : Nat → GH} (h0 : H 0 = h)
    (hr : ∀ k, k < sn → ∃ z ga o, sa = some ⟨ga, o, none⟩ ∧ (H k).cell ⟨ga, o + (sn - 1 - k), none⟩ = some (.int .i64 z) ∧ RoundSim P N assign body ((p1, .int .i64 z) :: (p0, .int .i64 ((sn - 1 - k : Nat) : Int)) :: e) (H k) (H (k + 1)) ∧
      (H k).cell ⟨gB, oB, none⟩ = (H (k + 1)).cell ⟨gB, oB, none⟩ ∧ ∀ j, j < sn → (H k).cell ⟨ga, o + j, none⟩ = (H (k + 1)).cell ⟨ga, o + j, none⟩) :
    CodeSim fl P N (.rangeFunc g #[p0, p1] assign body) e h .normal e (H sn) := by
  have hnx : ∀ k, k < sn → (H k).next ≤ (H (k + 1)).next := fun k hk => by obtain ⟨_, _, _, _, _, r, _⟩ := hr k hk; exact r.next
  have hmono : ∀ k, k ≤ sn → h.next ≤ (H k).next := fun k hk => by rw [← h0]; exact chain_next hnx k 0 (Nat.zero_le _) hk
  have hmonoN : ∀ k, k ≤ sn → (H k).next ≤ (H sn).next := fun k hk => chain_next hnx sn k hk (Nat.le_refl _)
  -- the slice's numbers
  have hrow : 0 < sn → ∃ ga o, sa = some ⟨ga, o, none⟩ ∧ ∀ k, k < sn → ∃ z, (H k).cell ⟨ga, o + (sn - 1 - k), none⟩ = some (.int .i64 z) ∧ RoundSim P N assign body ((p1, .int .i64 z) :: (p0, .int .i64 ((sn - 1 - k : Nat) : Int)) :: e) (H k) (H (k + 1)) ∧ ∀ j, j < sn → (H k).cell ⟨ga, o + j, none⟩ = (H (k + 1)).cell ⟨ga, o + j, none⟩ := fun hn => by
    obtain ⟨_, ga, o, h1, _⟩ := hr 0 hn
    refine ⟨ga, o, h1, fun k hk => ?_⟩
    obtain ⟨z, ga', o', h1', h2, h3, _, h4⟩ := hr k hk
    rw [h1] at h1'; cases h1'
    exact ⟨z, h2, h3, h4⟩
  have hB0 : ∀ k, k ≤ sn → (H k).cell ⟨gB, oB, none⟩ = some (.slice sa sn sc) := fun k hk => by
    rw [cell_chain (fun k hk => by obtain ⟨_, _, _, _, _, _, q, _⟩ := hr k hk; exact q) k hk, h0]; exact hs
  obtain ⟨zs, hzs⟩ : ∃ zs : Nat → Int, 0 < sn → ∃ ga o, sa = some ⟨ga, o, none⟩ ∧ (∀ k, k ≤ sn → ∀ j, j < sn → (H k).cell ⟨ga, o + j, none⟩ = some (.int .i64 (zs j))) ∧ ∀ k, k < sn → RoundSim P N assign body ((p1, .int .i64 (zs (sn - 1 - k))) :: (p0, .int .i64 ((sn - 1 - k : Nat) : Int)) :: e) (H k) (H (k + 1)) := by
    by_cases hn : 0 < sn
    · obtain ⟨ga, o, h1, h2⟩ := hrow hn
      have hc : ∀ k, k ≤ sn → ∀ j, j < sn → (H k).cell ⟨ga, o + j, none⟩ = (H 0).cell ⟨ga, o + j, none⟩ := fun k hk j hj => cell_chain (fun k hk => by obtain ⟨_, _, _, q⟩ := h2 k hk; exact q j hj) k hk
      have hz : ∀ j, ∃ z, j < sn → (H 0).cell ⟨ga, o + j, none⟩ = some (.int .i64 z) := fun j => by
        by_cases hj : j < sn
        · obtain ⟨z, q, _⟩ := h2 (sn - 1 - j) (by omega)
          rw [show sn - 1 - (sn - 1 - j) = j by omega, hc _ (by omega) j hj] at q
          exact ⟨z, fun _ => q⟩
        · exact ⟨0, fun h => absurd h hj⟩
      obtain ⟨zs, hzs⟩ := Classical.axiomOfChoice hz
      refine ⟨zs, fun _ => ⟨ga, o, h1, fun k hk j hj => by rw [hc k hk j hj]; exact hzs j hj, fun k hk => ?_⟩⟩
      obtain ⟨z, q, r, _⟩ := h2 k hk
      rw [hc k (by omega) (sn - 1 - k) (by omega), hzs (sn - 1 - k) (by omega)] at q
      cases q
      exact r
    · exact ⟨fun _ => 0, fun h => absurd h hn⟩
  refine ⟨hmono sn (Nat.le_refl _), fun ds ι w ac gd ar ro hro n Q hQ => ?_⟩
  obtain rfl := hro hfl
  -- the function's value
  have hv := ar.er.eval g
  rw [he] at hv
  obtain ⟨fs', cs', hg, hfs, hcs⟩ := hv.funcL
  have hfs' : fs' = #[] := by
    have := hfs.length
    simp at this
    exact Array.eq_empty_of_size_eq_zero this.symm
  subst hfs'
  obtain ⟨rv, hcs', hrv⟩ : ∃ rv, cs' = #[rv] ∧ VR ι (.pointer (some ⟨gB, oB, none⟩)) rv := by
    obtain ⟨l⟩ := cs'
    cases hcs with
    | cons h1 h2 => cases h2; exact ⟨_, rfl, h1⟩
  subst hcs'
  have hlB : ∃ p, ι gB = .live p ∧ rv = .pointer (some ⟨p.blk, p.off + oB, none⟩) := by
    rcases hrv.someP with q | ⟨q, _⟩
    · exact q
    · exact absurd q (cell_sim gd.hr hs).1
  obtain ⟨pB, hpB, rfl⟩ := hlB
  have hgBlt : gB < h.next := by
    have h2 : rowCell (h.look gB) oB = some (.slice sa sn sc) := hs
    cases hb : h.look gB with
    | none => rw [hb] at h2; cases h2
    | some ob => exact (look_get hb).1
  refine wpIn_rangeFunc fun fn _ => ?_
  obtain ⟨rec, hrec⟩ : ∃ rec : LoopState → Option Code → Loop, rec = fun st pe => { state := st, pending := pe, fn, tmps := ac.tmps, params := #[p0, p1], assign, body, defers := w.heap.size } := ⟨_, rfl⟩
  obtain ⟨W1, hW1⟩ : ∃ W1, (w.alloc (.deferred (some []))).alloc (.loop (rec .ready none)) = W1 := ⟨_, rfl⟩
  have hL1 : W1.heap[w.heap.size + 1]? = some (.loop (rec .ready none)) := by
    rw [← hW1]; have := World.alloc_heap_new (w.alloc (.deferred (some []))) (.loop (rec .ready none)); rwa [World.size_alloc] at this
  have hK1 : W1.heap[w.heap.size]? = some (.deferred (some [])) := by
    rw [← hW1]; exact (Below.heap_alloc _ _ _ (by simp)).trans (World.alloc_heap_new w _)
  have hT1 : Turn w W1 := by rw [← hW1]; exact (Turn.alloc w rfl).trans (Turn.alloc _ rfl)
  have hst1 : Stp h ι w h ι W1 := (Stp.refl gd.hr).turn hT1 (fun b hb => by rw [← hW1]; exact (Below.heap_alloc _ _ _ (by simp; omega)).trans (Below.heap_alloc _ _ _ hb))
  refine ⟨w.heap.size + 1, [{ target := .collected w.heap.size, args := #[] }], W1, { target := .fn (.func f) #[.pointer (some ⟨pB.blk, pB.off + oB, none⟩)], args := #[.func (.yield (w.heap.size + 1)) #[] #[]] }, W1, f,
    #[.func (.yield (w.heap.size + 1)) #[] #[]] ++ #[.pointer (some ⟨pB.blk, pB.off + oB, none⟩)], W1, ?_, ?_, fun _ _ => trivial, ?_, (fun h => by cases h), ?_⟩
  · rw [← hW1, hrec]; exact run_enterLoop_outer _ _ _ _ _
  · simp only [resolve, hg]
    simp [go_sem]
  · simp [invoke, go_sem, hB.1]
  · obtain ⟨J, hJ⟩ : ∃ J : Nat → World → Prop, J = fun k W => W.heap[w.heap.size + 1]? = some (.loop (rec .ready none)) ∧ W.heap[w.heap.size]? = some (.deferred (some [])) ∧ ∃ ι', Stp h ι w (H k) ι' W := ⟨_, rfl⟩
    have hcall := hB.2 (n - 1) (w.heap.size + 1) pB.blk (pB.off + oB) sn zs J hl ?_ ?_ W1 (by rw [hJ]; exact ⟨hL1, hK1, ι, by rw [h0]; exact hst1⟩)
    · refine callsIn_Fw ((callsIn_wide (n := n - 1)).1 (CallsIn.mono hcall ?_))
      rintro en W2 ⟨⟨v, rfl⟩, hj⟩
      rw [hJ] at hj
      obtain ⟨j1, j2, ι', st⟩ := hj
      refine ⟨none, _, by have := run_endLoop (P := P) j1 (by rw [hrec]; simp); rw [hrec] at this; exact this, ?_⟩
      have hpr : (W2.putObj (w.heap.size + 1) (.loop { rec .ready none with state := .exhausted })).heap[w.heap.size]? = some (.deferred (some [])) := (World.putObj_heap_other (by omega)).trans j2
      rw [hrec] at hpr
      refine hQ ι' _ _ ({ target := .collected w.heap.size, args := #[] } :: ds) (st.turn (Turn.put j1 rfl rfl) (fun b hb => World.putObj_heap_other (by omega))) ⟨ar.er.mono (st.le fun g h1 h2 => gd.free g h1 h2), ar.size, ?_⟩ ?_
      · show [_] ++ ac.defers = _; rw [ar.defers]; rfl
      · exact ⟨[_], rfl, by simp, fun d hd => ⟨w.heap.size, by simpa using hd, Nat.le_refl _, hpr⟩⟩
    · -- the slice stays
      intro k W hj hk
      rw [hJ] at hj
      obtain ⟨_, _, ι', st⟩ := hj
      obtain ⟨hnd, hcl⟩ := cell_sim st.hr (hB0 k hk)
      have hlive : ι' gB = .live pB := by
        rcases st.old gB hgBlt with q | ⟨_, q⟩
        · rw [q, hpB]
        · exact absurd q hnd
      obtain ⟨r, hr1, hr2⟩ := hcl pB hlive
      have hsl : ∃ q c', r = .slice q sn c' := by cases hr2 <;> exact ⟨_, _, rfl⟩
      obtain ⟨q, c', rfl⟩ := hsl
      refine ⟨q, c', hr1, fun j hj => ?_⟩
      obtain ⟨ga, o, rfl, hz, _⟩ := hzs (by omega)
      obtain ⟨hnd2, hcl2⟩ := cell_sim st.hr (hz k hk j hj)
      rcases hr2.someS with ⟨p, c'', hp, hrr, _⟩ | ⟨hd, _⟩ | ⟨hz0, _⟩
      · cases hrr
        obtain ⟨r2, e1, e2⟩ := hcl2 p hp
        rw [e2.int] at e1
        exact ⟨_, _, rfl, by rw [Nat.add_assoc]; exact e1⟩
      · exact absurd hd hnd2
      · omega
    · -- one round
      intro k W m hj hk
      rw [hJ] at hj
      obtain ⟨j1, j2, ι', st⟩ := hj
      obtain ⟨ga, o, rfl, hz, hround⟩ := hzs (by omega)
      obtain ⟨e1, hm, e2, sa1, sb⟩ := hround k hk
      have hlt : w.heap.size + 1 < W.heap.size := (Array.getElem?_eq_some_iff.1 j1).1
      have hy := run_yield (P := P) (args := #[.int .i64 ((sn - 1 - k : Nat) : Int), .int .i64 (zs (sn - 1 - k))]) j1 (by rw [hrec]; rfl)
      rw [hrec] at hy
      refine ⟨fn, _, assign, body, hy, roundIn_of_wpIn trivial ?_⟩
      have hle := st.le fun g h1 h2 => gd.free g h1 (Nat.lt_of_lt_of_le h2 (hmonoN k (by omega)))
      have gd1 : Good ι' (H k) (H sn).next W := gd.step st
      have hn1 := sa1.1
      have hn2 := sb.1
      have hn3 := hmonoN (k + 1) hk
      have ar1 : AR [] ι' N ((p1, .int .i64 (zs (sn - 1 - k))) :: (p0, .int .i64 ((sn - 1 - k : Nat) : Int)) :: e) { tmps := (ac.tmps.setIfInBounds p0 (.int .i64 ((sn - 1 - k : Nat) : Int))).setIfInBounds p1 (.int .i64 (zs (sn - 1 - k))), defers := [] } := by
        have a0 : AR ds ι' N e ac := ⟨ar.er.mono hle, ar.size, ar.defers⟩
        have a1 := (a0.put (d := some p0) (v := .int .i64 ((sn - 1 - k : Nat) : Int)) (fun x hx => by cases hx; exact hp0) (.same _ rfl)).put (d := some p1) (v := .int .i64 (zs (sn - 1 - k))) (fun x hx => by cases hx; exact hp1) (.same _ rfl)
        exact ⟨a1.er, a1.size, rfl⟩
      have hzip : ∀ (T : Array Value) (a b : Value), (#[p0, p1].zip #[a, b]).foldl (fun t (p : Tmp × Value) => t.setIfInBounds p.1 p.2) T = (T.setIfInBounds p0 a).setIfInBounds p1 b := fun T a b => by simp
      have hin : Fence.wide.inRound (w.heap.size + 1) = Fw (some (w.heap.size + 1)) := rfl
      rw [hin]
      refine (congrArg (fun T => Code.wpIn (Fw (some (w.heap.size + 1))) m P assign _ { tmps := T, defers := [] } W) (hzip ac.tmps _ _)).mpr ?_
      refine sa1.2 [] ι' W _ (gd1.less (by omega)) ar1 (some (w.heap.size + 1)) (fun h => h.elim) m _ (fun ι1 w1 a1 ds1 st1 ar2 mk1 => ?_)
      have hl1 : w1.heap[w.heap.size + 1]? = some (.loop (rec .ready none)) := (st1.fr.block _ hlt (st.hr.dull j1 rfl)).trans j1
      have hk1 : w1.heap[w.heap.size]? = some (.deferred (some [])) := (st1.fr.block _ (by omega) (st.hr.dull j2 rfl)).trans j2
      have hlt1 : w.heap.size + 1 < w1.heap.size := (Array.getElem?_eq_some_iff.1 hl1).1
      refine ⟨_, run_beginRound hl1 (by rw [hrec]), ?_⟩
      have hl2 : (w1.putObj (w.heap.size + 1) (.loop { rec .ready none with state := .busy })).heap[w.heap.size + 1]? = some (.loop { rec .ready none with state := .busy }) := World.putObj_heap_same hlt1
      have hk2 : (w1.putObj (w.heap.size + 1) (.loop { rec .ready none with state := .busy })).heap[w.heap.size]? = some (.deferred (some [])) := (World.putObj_heap_other (by omega)).trans hk1
      have st2 := (st.trans st1).turn (Turn.put (o' := .loop { rec .ready none with state := .busy }) hl1 rfl rfl) (fun b hb => World.putObj_heap_other (by omega))
      have gd2 : Good ι1 hm (H sn).next _ := gd.step st2
      refine sb.2 ds1 ι1 _ _ (gd2.less (by omega)) ar2 (some (w.heap.size + 1)) (fun h => h.elim) m _ (fun ι3 w3 a3 ds3 st3 ar3 mk3 => ?_)
      have hl3 := (st3.fr.block _ (by simpa using hlt1) (st2.hr.dull hl2 rfl)).trans hl2
      have hk3 := (st3.fr.block _ (by simp; omega) (st2.hr.dull hk2 rfl)).trans hk2
      have hlt3 : w.heap.size + 1 < w3.heap.size := (Array.getElem?_eq_some_iff.1 hl3).1
      have he := run_endRound (P := P) none hl3
      refine ⟨_, _, he, rfl, ?_⟩
      rw [hJ]
      refine ⟨?_, (World.putObj_heap_other (by omega)).trans hk3, ι3, (st2.trans st3).turn (Turn.put hl3 rfl rfl) (fun b hb => World.putObj_heap_other (by omega))⟩
      rw [World.putObj_heap_same hlt3, hrec]; rfl
end Go.Proofs.Ytephmpbccajaaaa.Gx

