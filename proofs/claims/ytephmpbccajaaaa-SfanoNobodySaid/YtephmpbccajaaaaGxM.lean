/- The plain machine and the model: each operation in one word; regions in the text's order. No condition. -/
import Derived.Test.YtephmpbccajaaaaGxL
namespace Go.Proofs.Ytephmpbccajaaaa.Gx
open Go Go.RowKit
set_option linter.unusedVariables false
set_option linter.unusedSimpArgs false
variable {P : Program} {β : Type} {r : β}

theorem gop_sim {C : Orc β} (hC : SimOrc P C) {o : Oper} {e : Env} {h : GH} {K : Value → GH → Option β} (hg : gop P C o e h K = some r) :
    ∃ v h', K v h' = some r ∧ OpSim P o e h v h' := by
  cases hk : opKind P o.op with
  | pure =>
    obtain ⟨v, h1, h2⟩ := gop_pure (by rw [hk]) hg
    refine ⟨v, h, h1, Nat.le_refl _, fun ι w a gd er next Q hn => ?_⟩
    obtain ⟨rv, h3, h4⟩ := h2 ι a er
    unfold Oper.wp
    rw [h4 w]
    exact hn rv ι w (Stp.refl gd.hr) h3
  | alloc =>
    obtain ⟨v, blk, h1, hro, mk, hmk, hvr, h2⟩ := gop_alloc (by rw [hk]) hg
    refine ⟨v, _, h1, Nat.le_succ _, fun ι w a gd er next Q hn => ?_⟩
    obtain ⟨rc, el, h3, h4, h5⟩ := h2 ι a er
    unfold Oper.wp
    rw [h5 w]
    obtain ⟨cs, esz, ro⟩ := blk
    simp only at hro
    subst hro
    have st := new_stp gd 0 rc el cs esz h3 h4
    refine hn _ _ _ st ?_
    rw [hmk]
    exact hvr _ _ (upd_same _ _ _) rfl
  | read =>
    obtain ⟨t, x, g, off, v, b, ho, hx, h1, hpos, hb, hle, hs⟩ := gop_read (by rw [hk]) hg
    refine ⟨v, h, h1, Nat.le_refl _, fun ι w a gd er next Q hn => ?_⟩
    obtain ⟨hg1, hg2⟩ := look_get hb
    have hxr := er.eval x
    rw [hx] at hxr
    rcases hxr.someP with ⟨p, hp, he⟩ | ⟨hd, _⟩
    · obtain ⟨rv, h3, h4⟩ := hs b hle (fun _ _ => rfl) ι p w (row_at gd.hr hg1 hp hg2)
      have : (execOp a.eval o).run P w = .ok (.value rv) w := by simp only [execOp, ho, he, Sem.run_bind, h4, Result.andThen_ok, Sem.run_pure]
      unfold Oper.wp
      rw [this]
      exact hn rv ι w (Stp.refl gd.hr) h3
    · rw [gd.hr.dead g hg1 hd] at hg2; cases hg2
  | eff => exact gop_eff hC (by unfold isEff; rw [hk]) hg

/-! ### slots -/
structure AR (ds : List Deferred) (ι : Inj) (N : Nat) (e : Env) (a : Act) : Prop where
  er : ER ι e a
  size : a.tmps.size = N
  defers : a.defers = ds
variable {ds : List Deferred}
theorem put_defers (a : Act) (d : Option Tmp) (v : Value) : (a.put d v).defers = a.defers := by cases d <;> rfl
theorem put_size (a : Act) (d : Option Tmp) (v : Value) : (a.put d v).tmps.size = a.tmps.size := by cases d <;> simp [Act.put]
theorem put_get (a : Act) (d : Option Tmp) (v : Value) (t : Tmp) (hd : ∀ x, d = some x → x < a.tmps.size) : (a.put d v).tmps.getD t undef = if d = some t then v else a.tmps.getD t undef := by
  cases d with
  | none => simp [Act.put]
  | some x =>
    have := hd x rfl
    by_cases hx : x = t
    · subst hx; simp [Act.put, this]
    · rw [if_neg (by simpa using hx)]
      simp only [Act.put, Array.getD_eq_getD_getElem?]
      rw [Array.getElem?_setIfInBounds_ne hx]
theorem env_get_cons (d : Nat) (v : Value) (e : Env) (t : Nat) : Env.get ((d, v) :: e) t = if d = t then v else e.get t := by
  show (bif Nat.beq d t then v else Env.get e t) = _
  by_cases h : d = t
  · subst h; rw [beq_self]; simp
  · rw [beq_ne h, if_neg h]; rfl
theorem env_put_get (e : Env) (d : Option Tmp) (v : Value) (t : Nat) : (e.put d v).get t = if d = some t then v else e.get t := by
  cases d with
  | none => simp [Env.put]
  | some x => rw [show e.put (some x) v = (x, v) :: e from rfl, env_get_cons]; simp
theorem env_lit (e : Env) (t : Nat) (v : Value) (h : e.get t = v) (x : Nat) : Env.get ((t, v) :: e) x = e.get x := by
  rw [env_get_cons]; split
  · rename_i h'; subst h'; exact h.symm
  · rfl
theorem dstOk_lt {N : Nat} {o : Oper} (h : dstOk N o = true) : ∀ x, o.dst = some x → x < N := fun x hx => by
  unfold dstOk at h; rw [hx] at h; exact Nat.le_of_ble_eq_true h
theorem AR.put {ι : Inj} {N : Nat} {e : Env} {a : Act} (h : AR ds ι N e a) {d : Option Tmp} (hd : ∀ x, d = some x → x < N) {v rv : Value} (hv : VR ι v rv) : AR ds ι N (e.put d v) (a.put d rv) :=
  ⟨fun t => by rw [env_put_get, put_get _ _ _ _ (by rw [h.size]; exact hd)]; split; exact hv; exact h.er t, by rw [put_size]; exact h.size, by rw [put_defers]; exact h.defers⟩
theorem AR.mono {ι ι' : Inj} (hl : Le ι ι') {N : Nat} {e : Env} {a : Act} (h : AR ds ι N e a) : AR ds ι' N e a := ⟨h.er.mono hl, h.size, h.defers⟩
theorem AR.lit {ι : Inj} {N : Nat} {e : Env} {a : Act} (h : AR ds ι N e a) {t : Nat} {v : Value} (hv : e.get t = v) : AR ds ι N ((t, v) :: e) a := ⟨fun x => by rw [env_lit e t v hv]; exact h.er x, h.size, h.defers⟩
theorem only_get (e : Env) (l : List Nat) (t : Nat) : (e.only l).get t = e.get t ∨ (e.only l).get t = undef := by
  induction l with
  | nil => exact .inr rfl
  | cons x l ih =>
    rw [show e.only (x :: l) = (x, e.get x) :: e.only l from rfl, env_get_cons]
    split
    · rename_i h; subst h; exact .inl rfl
    · exact ih
theorem AR.only {ι : Inj} {N : Nat} {e : Env} {a : Act} (h : AR ds ι N e a) (l : List Nat) : AR ds ι N (e.only l) a :=
  ⟨fun t => by rcases only_get e l t with h' | h' <;> rw [h']; exact h.er t; exact .un _, h.size, h.defers⟩
theorem tmp_bool {ι : Inj} {e : Env} {a : Act} {t : Nat} {b : Bool} (h : VR ι (e.get t) (a.tmps.getD t undef)) (hb : e.get t = .bool b) : a.tmps[t]? = some (.bool b) := by
  rw [hb] at h
  have := h.bool
  rw [Array.getD_eq_getD_getElem?] at this
  cases hx : a.tmps[t]? with
  | none => rw [hx] at this; cases this
  | some x => rw [hx] at this; simp at this; rw [this]
theorem dstOf_eq {ops : Array Oper} {j : Nat} : dstOf ops.toList j = (ops[j]?).bind (·.dst) := by
  unfold dstOf; rw [nth_eq]; simp only [Array.getElem?_toList]; cases ops[j]? <;> rfl
theorem wanted_of {ops : Array Oper} {o : Oper} {a : Act} {j : Nat} {want b : Bool} {t : Nat} (hg : o.guard = some (j, want)) (hd : dstOf ops.toList j = some t) (ht : a.tmps[t]? = some (.bool b)) :
    Region.wanted o (yielded ops a.tmps) = (b == want) := by
  unfold Region.wanted
  rw [hg]
  simp only [yielded]
  rw [← dstOf_eq, hd]
  simp [ht]
theorem wanted_skip {ops : Array Oper} {o : Oper} {a : Act} {j : Nat} {want : Bool} {t : Nat} (hg : o.guard = some (j, want)) (hd : dstOf ops.toList j = some t) {rs : Array Value} (ht : a.tmps.getD t undef = .tuple rs) :
    Region.wanted o (yielded ops a.tmps) = false := by
  unfold Region.wanted
  rw [hg]
  simp only [yielded]
  rw [← dstOf_eq, hd]
  rw [Array.getD_eq_getD_getElem?] at ht
  cases hx : a.tmps[t]? with
  | none => simp [hx]
  | some x => rw [hx] at ht; simp at ht; subst ht; simp [hx]
theorem wanted_none {ops : Array Oper} {o : Oper} {a : Act} (hg : o.guard = none) : Region.wanted o (yielded ops a.tmps) = true := by unfold Region.wanted; rw [hg]

/-! ### a region in the text's order -/
theorem gops_sim {C : Orc β} (hC : SimOrc P C) {N : Nat} {ops : Array Oper} : ∀ (l : List Oper) (i : Nat), ops.toList.drop i = l → ∀ {e : Env} {h : GH} {K : Env → GH → Option β}, gops P C N ops.toList l e h K = some r →
    ∃ e' h', K e' h' = some r ∧ h.next ≤ h'.next ∧ ∀ ds ι w a, Good ι h h'.next w → AR ds ι N e a → ∀ Q : Exit → Act → World → Prop, (∀ ι' w' a', Stp h ι w h' ι' w' → AR ds ι' N e' a' → Q .normal a' w') →
      wpOps P ops Q (List.range' i l.length) a w := by
  intro l
  induction l with
  | nil =>
    intro i hi e h K hg
    exact ⟨e, h, hg, Nat.le_refl _, fun ds ι w a gd ar Q hQ => hQ ι w a (Stp.refl gd.hr) ar⟩
  | cons o l ih =>
    intro i hi e h K hg
    have hio : ops[i]? = some o := by
      have : (ops.toList.drop i)[0]? = some o := by rw [hi]; rfl
      simpa using this
    have hil : ops.toList.drop (i + 1) = l := by
      have : (ops.toList.drop i).drop 1 = l := by rw [hi]; rfl
      simpa [List.drop_drop] using this
    unfold gops at hg
    have hd := dstOk_lt (cond_none hg).1
    replace hg := (cond_none hg).2
    -- the operation runs, then the others
    have run : ∀ (e : Env), gop P C o e h (fun v h' => gops P C N ops.toList l (e.put o.dst v) h' K) = some r → ∃ e' h', K e' h' = some r ∧ h.next ≤ h'.next ∧
        ∀ ds ι w a, Region.wanted o (yielded ops a.tmps) = true → Good ι h h'.next w → AR ds ι N e a → ∀ Q : Exit → Act → World → Prop, (∀ ι' w' a', Stp h ι w h' ι' w' → AR ds ι' N e' a' → Q .normal a' w') →
          wpOps P ops Q (List.range' i (l.length + 1)) a w := by
      intro e hg
      obtain ⟨v, h1, hg, hn, hop⟩ := gop_sim hC hg
      obtain ⟨e', h', hK, hn', hrest⟩ := ih (i + 1) hil hg
      refine ⟨e', h', hK, Nat.le_trans hn hn', fun ds ι w a hw gd ar Q hQ => ?_⟩
      rw [List.range'_succ, wpOps]
      simp only [hio, hw, if_true]
      refine .inl (hop ι w a (gd.less hn') ar.er _ _ (fun rv ι1 w1 st hv => ?_))
      refine hrest ds ι1 w1 _ (gd.step st) ((ar.mono (st.le fun g h1 h2 => gd.free g h1 (by omega))).put hd hv) Q (fun ι2 w2 a2 st2 ar2 => hQ ι2 w2 a2 (st.trans st2) ar2)
    -- the operation is not wanted
    have skip : ∀ (e : Env), gops P C N ops.toList l (e.put o.dst skipV) h K = some r → ∃ e' h', K e' h' = some r ∧ h.next ≤ h'.next ∧
        ∀ ds ι w a, Region.wanted o (yielded ops a.tmps) = false → Good ι h h'.next w → AR ds ι N e a → ∀ Q : Exit → Act → World → Prop, (∀ ι' w' a', Stp h ι w h' ι' w' → AR ds ι' N e' a' → Q .normal a' w') →
          wpOps P ops Q (List.range' i (l.length + 1)) a w := by
      intro e hg
      obtain ⟨e', h', hK, hn', hrest⟩ := ih (i + 1) hil hg
      refine ⟨e', h', hK, hn', fun ds ι w a hw gd ar Q hQ => ?_⟩
      rw [List.range'_succ, wpOps]
      simp only [hio, hw, Bool.false_eq_true, if_false]
      exact hrest ds ι w _ gd (ar.put hd .sk) Q hQ
    split at hg
    · rename_i hgd
      obtain ⟨e', h', hK, hn, hr⟩ := run e hg
      exact ⟨e', h', hK, hn, fun ds ι w a gd ar Q hQ => hr ds ι w a (wanted_none hgd) gd ar Q hQ⟩
    · rename_i j want hgd
      split at hg
      · cases hg
      · rename_i t ht
        split at hg
        · rename_i b hb
          cases b with
          | true =>
            simp only [cond_true] at hg
            cases want with
            | true =>
              obtain ⟨e', h', hK, hn, hr⟩ := run _ hg
              exact ⟨e', h', hK, hn, fun ds ι w a gd ar Q hQ => hr ds ι w a (wanted_of hgd ht (tmp_bool (ar.er t) hb)) gd (ar.lit hb) Q hQ⟩
            | false =>
              obtain ⟨e', h', hK, hn, hr⟩ := skip _ hg
              exact ⟨e', h', hK, hn, fun ds ι w a gd ar Q hQ => hr ds ι w a (wanted_of hgd ht (tmp_bool (ar.er t) hb)) gd (ar.lit hb) Q hQ⟩
          | false =>
            simp only [cond_false] at hg
            cases want with
            | true =>
              obtain ⟨e', h', hK, hn, hr⟩ := skip _ hg
              exact ⟨e', h', hK, hn, fun ds ι w a gd ar Q hQ => hr ds ι w a (wanted_of hgd ht (tmp_bool (ar.er t) hb)) gd (ar.lit hb) Q hQ⟩
            | false =>
              obtain ⟨e', h', hK, hn, hr⟩ := run _ hg
              exact ⟨e', h', hK, hn, fun ds ι w a gd ar Q hQ => hr ds ι w a (wanted_of hgd ht (tmp_bool (ar.er t) hb)) gd (ar.lit hb) Q hQ⟩
        · have hsk := (cond_none hg).1
          obtain ⟨e', h', hK, hn, hr⟩ := skip _ (cond_none hg).2
          exact ⟨e', h', hK, hn, fun ds ι w a gd ar Q hQ => hr ds ι w a (by
            obtain ⟨rs, hrs⟩ := VR.skip hsk (ar.er t)
            exact wanted_skip hgd ht hrs) gd ar Q hQ⟩

/-! ### an operation looks at its operands alone -/
theorem evs_congr {e e' : Env} : ∀ {l : List Operand}, (∀ x ∈ l, e.eval x = e'.eval x) → evs e l = evs e' l
  | [], _ => rfl
  | x :: l, h => by rw [evs, evs, h x (List.mem_cons_self ..), evs_congr fun y hy => h y (List.mem_cons_of_mem _ hy)]
theorem evParts_congr {e e' : Env} : ∀ {l : List (Nat × Operand)}, (∀ x ∈ l, e.eval x.2 = e'.eval x.2) → evParts e l = evParts e' l
  | [], _ => rfl
  | (i, x) :: l, h => by rw [evParts, evParts, h (i, x) (List.mem_cons_self ..), evParts_congr fun y hy => h y (List.mem_cons_of_mem _ hy)]
theorem map_congr' {e e' : Env} {o : Option Operand} (h : ∀ x, o = some x → e.eval x = e'.eval x) : o.map e.eval = o.map e'.eval := by
  cases o with
  | none => rfl
  | some x => simp [h x rfl]
theorem gop_congr {C : Orc β} {o : Oper} {e e' : Env} {h : GH} {K : Value → GH → Option β} (he : ∀ x ∈ o.op.operands.toList, e.eval x = e'.eval x) : gop P C o e h K = gop P C o e' h K := by
  unfold gop
  cases ho : o.op
  all_goals rw [ho] at he
  all_goals simp only []
  case move x => rw [he x (by simp [Op.operands])]
  case assign x => rw [he x (by simp [Op.operands])]
  case pick c x y => rw [he c (by simp [Op.operands]), he x (by simp [Op.operands]), he y (by simp [Op.operands])]
  case binOp op t x y u => rw [he x (by simp [Op.operands]), he y (by simp [Op.operands])]
  case unOp op t x => rw [he x (by simp [Op.operands])]
  case convert s d x => rw [he x (by simp [Op.operands])]
  case fieldAddr s x i => rw [he x (by simp [Op.operands])]
  case field s x i => rw [he x (by simp [Op.operands])]
  case indexAddr t x i => rw [he x (by simp [Op.operands]), he i (by simp [Op.operands])]
  case index t x i => rw [he x (by simp [Op.operands]), he i (by simp [Op.operands])]
  case slice t x lo hi mx =>
    rw [he x (by simp [Op.operands]), map_congr' (o := lo) (fun y hy => he y (by simp [Op.operands, hy])), map_congr' (o := hi) (fun y hy => he y (by simp [Op.operands, hy])), map_congr' (o := mx) (fun y hy => he y (by simp [Op.operands, hy]))]
  case extract t i => rw [he t (by simp [Op.operands])]
  case nilCheck x => rw [he x (by simp [Op.operands])]
  case build t ps => rw [evParts_congr (l := ps.toList) (fun y hy => he y.2 (by simp [Op.operands]; exact ⟨y.1, by simpa using hy⟩))]
  case makeFunc fn fs cs => rw [evs_congr (l := fs.toList) (fun y hy => he y (by simp [Op.operands]; exact .inl (by simpa using hy))), evs_congr (l := cs.toList) (fun y hy => he y (by simp [Op.operands]; exact .inr (by simpa using hy)))]
  case box t x => rw [he x (by simp [Op.operands])]
  case buildSlice t n ps => rw [evParts_congr (l := ps.toList) (fun y hy => he y.2 (by simp [Op.operands]; exact ⟨y.1, by simpa using hy⟩))]
  case makeSlice t l c => rw [he l (by simp [Op.operands]), he c (by simp [Op.operands])]
  case makeMap t rs => rw [map_congr' (o := rs) (fun y hy => he y (by simp [Op.operands, hy]))]
  case lookup t x k ok => rw [he x (by simp [Op.operands]), he k (by simp [Op.operands])]
  case mapUpdate t m k v => rw [he m (by simp [Op.operands]), he k (by simp [Op.operands]), he v (by simp [Op.operands])]
  case insert t m k v => rw [he m (by simp [Op.operands]), he k (by simp [Op.operands]), he v (by simp [Op.operands])]
  case load t x => rw [he x (by simp [Op.operands])]
  case store t x v => rw [he x (by simp [Op.operands]), he v (by simp [Op.operands])]
  case call c =>
    obtain ⟨cal, args, ats⟩ := c
    have ha : evs e args.toList = evs e' args.toList := evs_congr fun y hy => he y (by simp [Op.operands, Call.operands]; exact .inr (by simpa using hy))
    cases cal with
    | value f => simp only []; rw [ha, he f (by simp [Op.operands, Call.operands])]
    | invoke f m => rfl
    | builtin b => cases b <;> simp only [ha]
end Go.Proofs.Ytephmpbccajaaaa.Gx

