/- The plain machine and the model: each operation. No condition. -/
import Derived.Test.YtephmpbccajaaaaGxJ
namespace Go.Proofs.Ytephmpbccajaaaa.Gx
open Go Go.RowKit
set_option linter.unusedVariables false
set_option linter.unusedSimpArgs false
variable {P : Program} {β : Type} {r : β}

theorem firstCells_run' {q : Option Addr} {n z len c' : Nat} {rs : List Value} {w : World} (hl : rs.length = n * z) (hc : ∀ qa, q = some qa → ∀ j u, rs[j]? = some u → w.cell? (qa.add j) = some u) (h0 : q = none → n = 0) :
    (Builtin.firstCells z n (.slice q len c')).run P w = .ok rs.toArray w := by
  cases q with
  | none => have := h0 rfl; subst this; have : rs = [] := List.length_eq_zero_iff.1 (by simpa using hl); subst this; exact run_firstCells_none w z 0 len c'
  | some qa => exact run_firstCells_some w z n qa len c' rs hl (hc qa rfl)
theorem gcopy_sim {t ty e : TypeId} {ts : Array TypeId} {z : Nat} (ht : ts[0]? = some t) (hu : P.underlying t = some (.slice e)) (hz : sizeT P e = some z) (hz0 : 0 < z) {d s : Sl} {h : GH} {K : Int → GH → Option β} (hh : gcopy z d s h K = some r) :
    ∃ (m : Int) (h' : GH), K m h' = some r ∧ h.next = h'.next ∧ ∀ ι w rd rs, Good ι h h'.next w → VR ι (.slice d.a d.n d.c) rd → VR ι (.slice s.a s.n s.c) rs →
      ∃ w', (Builtin.copy_ ts ty #[rd, rs]).run P w = .ok (.int .i64 m) w' ∧ Stp h ι w h' ι w' := by
  unfold gcopy at hh
  obtain ⟨cs, hh, hcs⟩ := slCells_some hh
  cases hm : Nat.beq (min s.n d.n) 0 with
  | true =>
    rw [hm] at hh
    simp only [cond_true] at hh
    have hm0 := Nat.eq_of_beq_eq_true hm
    refine ⟨0, h, hh, rfl, fun ι w rd rs gd hd hs => ?_⟩
    obtain ⟨qd, cd, hqd, _⟩ := hd.slice
    obtain ⟨qs, cs', hqs, _⟩ := hs.slice
    subst hqd; subst hqs
    have hf := firstCells_run' (P := P) (q := qs) (n := 0) (z := z) (len := s.n) (c' := cs') (rs := []) (w := w) (by simp) (fun _ _ j u h => by simp at h) (fun _ => rfl)
    refine ⟨w, ?_, Stp.refl gd.hr⟩
    have hmin : Nat.min s.n d.n = 0 := hm0
    simp [Builtin.copy_, ht, run_underlying hu, Builtin.lenOf, sizeOf_run hz, hmin, hf, goInt]
    cases qd <;> simp [storeCells]
  | false =>
    rw [hm] at hh
    simp only [cond_false] at hh
    obtain ⟨g, o, ha, h2⟩ := exA_some hh
    obtain ⟨b, hg, hgb, hro, hall, hle, hk⟩ := gput_some h2
    refine ⟨_, _, hk, rfl, fun ι w rd rs gd hd hs => ?_⟩
    obtain ⟨qs, cs', hqs, _⟩ := hs.slice
    subst hqs
    obtain ⟨rn, a1, a2, a3, a4⟩ := slRun gd.hr hz0 hcs hs
    rw [ha] at hd
    have hmn : min s.n d.n * z ≤ s.n * z := Nat.mul_le_mul_right _ (Nat.min_le_left _ _)
    rw [ntake_eq] at hall hle
    have a1' := a1.take (min s.n d.n * z)
    rcases hd.someS with ⟨p, c', hp, he, hc, hnc⟩ | ⟨hd', _⟩ | ⟨hn', hc', _⟩
    · subst he
      have hst := store_run (P := P) gd.hr hg hgb hro hall hle a1' hp
      have hstp := put_stp gd.hr hg hp hgb hro o (cs.take (min s.n d.n * z)) (rn.take (min s.n d.n * z)) hle a1'
      have hf := firstCells_run' (P := P) (q := qs) (n := min s.n d.n) (z := z) (len := s.n) (c' := cs') (rs := rn.take (min s.n d.n * z)) (w := w) (by rw [List.length_take, a2]; omega)
        (fun qa hqa j u hj => by
          rw [List.getElem?_take] at hj
          split at hj
          · exact a3 qa hqa j u hj
          · cases hj) (fun hq => by have := a4 hq; omega)
      have hmin : Nat.min s.n d.n = min s.n d.n := rfl
      refine ⟨_, ?_, by rw [ntake_eq]; exact hstp⟩
      simp [Builtin.copy_, ht, run_underlying hu, Builtin.lenOf, sizeOf_run hz, hf, hst, goInt, hmin]
    · rw [gd.hr.dead g hg hd'] at hgb; cases hgb
    · rw [hn'] at hm; simp at hm

/-! ### operations that look at no memory -/
theorem arr_one {xs : Array Value} {x : Value} (h : xs.toList = [x]) : xs = #[x] := by apply Array.ext'; simpa using h
theorem arr_two {xs : Array Value} {x y : Value} (h : xs.toList = [x, y]) : xs = #[x, y] := by apply Array.ext'; simpa using h
theorem gop_pure {C : Orc β} {o : Oper} {e : Env} {h : GH} {K : Value → GH → Option β} (hk : (match opKind P o.op with | .pure => true | _ => false) = true) (hg : gop P C o e h K = some r) :
    ∃ v, K v h = some r ∧ ∀ ι a, ER ι e a → ∃ rv, VR ι v rv ∧ ∀ w, (execOp a.eval o).run P w = .ok (.value rv) w := by
  unfold gop at hg
  cases ho : o.op
  all_goals
    rw [ho] at hg hk
    simp only [] at hg
  all_goals try (simp [opKind] at hk; done)
  all_goals try (cases hg; done)
  case move x => exact ⟨_, hg, fun ι a er => ⟨_, er.eval x, fun w => by simp [execOp, ho]⟩⟩
  case assign x => exact ⟨_, hg, fun ι a er => ⟨_, er.eval x, fun w => by simp [execOp, ho]⟩⟩
  case pick c x y =>
    obtain ⟨v, hv, hs⟩ := gpick_sim (P := P) hg
    refine ⟨v, hv, fun ι a er => ?_⟩
    obtain ⟨rv, h1, h2⟩ := hs ι _ _ _ (er.eval c) (er.eval x) (er.eval y)
    refine ⟨rv, h1, fun w => ?_⟩
    have := h2 w
    simp only [Sem.run_bind] at this
    simp only [execOp, ho, Sem.run_bind]
    cases hb : (asBool (a.eval c)).run P w with
    | ok b w' => rw [hb] at this; simp at this ⊢; exact this
    | halt x w' => rw [hb] at this; simp at this
  case binOp op t x y yt =>
    obtain ⟨v, hv, hs⟩ := gbinX_sim hg
    refine ⟨v, hv, fun ι a er => ?_⟩
    obtain ⟨rv, h2, h3⟩ := hs ι _ _ (er.eval x) (er.eval y)
    exact ⟨rv, h2, fun w => by simp only [execOp, ho, Sem.run_bind, h3 x y w]; rfl⟩
  case unOp op t x =>
    obtain ⟨v, hv, hs⟩ := gun_sim (P := P) hg
    refine ⟨v, hv, fun ι a er => ?_⟩
    obtain ⟨rv, h2, h3⟩ := hs ι _ (er.eval x)
    exact ⟨rv, h2, fun w => by simp only [execOp, ho, Sem.run_bind, h3 w]; rfl⟩
  case convert s d x =>
    have hg' : gconv P s d (e.eval x) (fun v => K v h) = some r := by
      unfold gconvX at hg
      split at hg
      · rename_i h1 h2 _; simp [opKind, h1, h2] at hk
      · rename_i h1 h2 _; simp [opKind, h1, h2] at hk
      · rename_i h1 h2 _; simp [opKind, h1, h2] at hk
      · exact hg
    obtain ⟨v, hv, hs⟩ := gconv_sim hg'
    refine ⟨v, hv, fun ι a er => ?_⟩
    obtain ⟨rv, h2, h3⟩ := hs ι _ (er.eval x)
    exact ⟨rv, h2, fun w => by simp only [execOp, ho, Sem.run_bind, h3 w]; rfl⟩
  case fieldAddr s x i =>
    obtain ⟨v, hv, hs⟩ := gfieldAddr_sim hg
    refine ⟨v, hv, fun ι a er => ?_⟩
    obtain ⟨rv, h2, h3⟩ := hs ι _ (er.eval x)
    exact ⟨rv, h2, fun w => by simp only [execOp, ho, Sem.run_bind, h3 w]; rfl⟩
  case field s x i =>
    obtain ⟨v, hv, hs⟩ := gfield_sim hg
    refine ⟨v, hv, fun ι a er => ?_⟩
    obtain ⟨rv, h2, h3⟩ := hs ι _ (er.eval x)
    exact ⟨rv, h2, fun w => by simp only [execOp, ho, Sem.run_bind, h3 w]; rfl⟩
  case indexAddr t x i =>
    obtain ⟨v, hv, hs⟩ := gindexAddr_sim hg
    refine ⟨v, hv, fun ι a er => ?_⟩
    obtain ⟨rv, h2, h3⟩ := hs ι _ _ (er.eval x) (er.eval i)
    exact ⟨rv, h2, fun w => by simp only [execOp, ho, Sem.run_bind, h3 w]; rfl⟩
  case index t x i =>
    obtain ⟨v, hv, hs⟩ := gindex_sim hg
    refine ⟨v, hv, fun ι a er => ?_⟩
    obtain ⟨rv, h2, h3⟩ := hs ι _ _ (er.eval x) (er.eval i)
    exact ⟨rv, h2, fun w => by simp only [execOp, ho, Sem.run_bind, h3 w]; rfl⟩
  case slice t x lo hi mx =>
    obtain ⟨v, hv, hs⟩ := gslice_sim hg
    refine ⟨v, hv, fun ι a er => ?_⟩
    obtain ⟨rv, h2, h3⟩ := hs ι _ _ _ _ (er.eval x) (er.opt lo) (er.opt hi) (er.opt mx)
    exact ⟨rv, h2, fun w => by simp only [execOp, ho, Sem.run_bind, h3 w]; rfl⟩
  case extract x i =>
    obtain ⟨v, hv, hs⟩ := gextract_sim (P := P) hg
    refine ⟨v, hv, fun ι a er => ?_⟩
    obtain ⟨rv, h2, h3⟩ := hs ι _ (er.eval x)
    exact ⟨rv, h2, fun w => by simp only [execOp, ho, Sem.run_bind, h3 w]; rfl⟩
  case nilCheck x =>
    obtain ⟨v, hv, hs⟩ := gnilCheck_sim hg
    refine ⟨v, hv, fun ι a er => ?_⟩
    obtain ⟨h1, q, h2⟩ := hs ι _ (er.eval x)
    exact ⟨_, h1, fun w => by simp only [execOp, ho, h2]; rfl⟩
  case build t ps =>
    obtain ⟨v, hv, hs⟩ := gbuild_sim hg
    refine ⟨v, hv, fun ι a er => ?_⟩
    obtain ⟨rv, h2, h3⟩ := hs ι (ps.map fun (i, x) => (i, a.eval x)) (by simpa using er.parts ps.toList)
    exact ⟨rv, h2, fun w => by simp only [execOp, ho, Sem.run_bind, h3 w]; rfl⟩
  case makeFunc fn fs cs =>
    exact ⟨_, hg, fun ι a er => ⟨.func fn (fs.map a.eval) (cs.map a.eval), .mkFunc (by simpa using er.evs fs.toList) (by simpa using er.evs cs.toList), fun w => by simp [execOp, ho, Instr.makeFunc]⟩⟩
  case call c =>
    obtain ⟨cal, args, ats⟩ := c
    cases cal with
    | value f => simp [opKind] at hk
    | invoke f m => simp [opKind] at hk
    | builtin b =>
      simp only [] at hg
      cases b <;> simp only [] at hg <;> try (simp [opKind] at hk; done)
      case len =>
        split at hg
        · rename_i x t hx ht
          obtain ⟨v, hv, hs⟩ := glen_sim (ty := o.type) hg
          refine ⟨v, hv, fun ι a er => ?_⟩
          have hev := er.evs args.toList
          rw [hx] at hev
          obtain ⟨rx, hrx, h1⟩ : ∃ rx, args.toList.map a.eval = [rx] ∧ VR ι x rx := by
            revert hev
            generalize args.toList.map a.eval = l
            intro hev
            cases hev with
            | cons h1 h2 => cases h2; exact ⟨_, rfl, h1⟩
          obtain ⟨rv, h2, h3⟩ := hs ι rx h1
          have e1 : args.map a.eval = #[rx] := arr_one (by rw [Array.toList_map]; exact hrx)
          have e2 : ats = #[t] := by apply Array.ext'; simpa using ht
          refine ⟨rv, h2, fun w => ?_⟩
          simp only [execOp, ho, Sem.run_bind, resolve, Sem.run_pure, Result.andThen_ok, invoke, builtin, e1, e2, h3 w]
        · cases hg
      case max =>
        split at hg
        · rename_i x ys hx
          obtain ⟨v, hv, hs⟩ := gmxs_sim (P := P) hg
          refine ⟨v, hv, fun ι a er => ?_⟩
          have hev := er.evs args.toList
          rw [hx] at hev
          obtain ⟨rx, rys, hrx, h1, h1'⟩ : ∃ rx rys, args.toList.map a.eval = rx :: rys ∧ VR ι x rx ∧ All2 (VR ι) ys rys := by
            revert hev
            generalize args.toList.map a.eval = l
            intro hev
            cases hev with
            | cons h1 h2 => exact ⟨_, _, rfl, h1, h2⟩
          obtain ⟨rv, h2, h3⟩ := hs ι rx rys h1 h1'
          have e1 : (args.map a.eval).toList = rx :: rys := by rw [Array.toList_map]; exact hrx
          refine ⟨rv, h2, fun w => ?_⟩
          have h3' := h3 w
          simp only [if_true] at h3'
          simp only [execOp, ho, Sem.run_bind, resolve, Sem.run_pure, Result.andThen_ok, invoke, builtin, Builtin.max_, e1, h3']
        · cases hg
      case min =>
        split at hg
        · rename_i x ys hx
          obtain ⟨v, hv, hs⟩ := gmxs_sim (P := P) hg
          refine ⟨v, hv, fun ι a er => ?_⟩
          have hev := er.evs args.toList
          rw [hx] at hev
          obtain ⟨rx, rys, hrx, h1, h1'⟩ : ∃ rx rys, args.toList.map a.eval = rx :: rys ∧ VR ι x rx ∧ All2 (VR ι) ys rys := by
            revert hev
            generalize args.toList.map a.eval = l
            intro hev
            cases hev with
            | cons h1 h2 => exact ⟨_, _, rfl, h1, h2⟩
          obtain ⟨rv, h2, h3⟩ := hs ι rx rys h1 h1'
          have e1 : (args.map a.eval).toList = rx :: rys := by rw [Array.toList_map]; exact hrx
          refine ⟨rv, h2, fun w => ?_⟩
          have h3' := h3 w
          simp only [Bool.false_eq_true, if_false] at h3'
          simp only [execOp, ho, Sem.run_bind, resolve, Sem.run_pure, Result.andThen_ok, invoke, builtin, Builtin.min_, e1, h3']
        · cases hg
      all_goals cases hg
end Go.Proofs.Ytephmpbccajaaaa.Gx

