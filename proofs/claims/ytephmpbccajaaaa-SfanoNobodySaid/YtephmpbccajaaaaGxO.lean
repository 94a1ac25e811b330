/- The plain machine and the model: regions that draw their order. Whatever order is drawn, the model comes to what the text's order comes to. No condition. -/
import Derived.Test.YtephmpbccajaaaaGxN
namespace Go.Proofs.Ytephmpbccajaaaa.Gx
open Go Go.RowKit
set_option linter.unusedVariables false
set_option linter.unusedSimpArgs false
variable {P : Program} {ds : List Deferred}

def Hf (recs : List Rec) (hN : GH) (i : Nat) : GH := match nth recs i with | some rc => rc.h | none => hN
def tvAt (recs : List Rec) (L : Nat → Bool) (e : Env) (t : Nat) : Nat → Value
  | 0 => e.get t
  | k + 1 => match nth recs k with
    | some rc => if L k = true ∧ rc.o.dst = some t then rc.v else tvAt recs L e t k
    | none => tvAt recs L e t k
def LT (_ : Nat) : Bool := true
theorem tvAt_cons {rc : Rec} {rs : List Rec} {e : Env} (he : ∀ t, rc.e.get t = e.get t) (t : Nat) : ∀ k, tvAt (rc :: rs) LT e t (k + 1) = tvAt rs LT (rc.e.put rc.o.dst rc.v) t k
  | 0 => by
    show (match nth (rc :: rs) 0 with | some rc' => if LT 0 = true ∧ rc'.o.dst = some t then rc'.v else e.get t | none => e.get t) = (rc.e.put rc.o.dst rc.v).get t
    rw [env_put_get, ← he]
    simp [nth, LT]
  | k + 1 => by
    show (match nth rs k with | some rc' => if LT (k + 1) = true ∧ rc'.o.dst = some t then rc'.v else tvAt (rc :: rs) LT e t (k + 1) | none => tvAt (rc :: rs) LT e t (k + 1)) = _
    rw [tvAt_cons he t k]
    rfl
theorem TrOk.idx {N : Nat} {all : List Oper} {e' : Env} {h' : GH} : ∀ (recs : List Rec) (i : Nat) (e : Env) (h : GH), TrOk P N all i e h recs e' h' →
    Hf recs h' 0 = h ∧ (∀ k rc, nth recs k = some rc → nth all (i + k) = some rc.o ∧ rc.h' = Hf recs h' (k + 1) ∧ (∀ x, rc.o.dst = some x → x < N) ∧ GuardOk all rc ∧ StepOk P rc ∧ ∀ t, rc.e.get t = tvAt recs LT e t k) ∧
      ∀ t, e'.get t = tvAt recs LT e t recs.length
  | [], i, e, h, ht => ⟨ht.2, fun k rc hk => by simp [nth] at hk, ht.1⟩
  | rc :: rs, i, e, h, ht => by
    obtain ⟨h1, h2, h3, h4, h5, h6, h7⟩ := ht
    obtain ⟨i1, i2, i3⟩ := TrOk.idx rs (i + 1) _ _ h7
    refine ⟨h2, fun k r hk => ?_, fun t => ?_⟩
    · cases k with
      | zero =>
        simp only [nth, Option.some.injEq] at hk
        subst hk
        exact ⟨h1, i1.symm, h4, h5, h6, h3⟩
      | succ k =>
        obtain ⟨j1, j2, j3, j4, j5, j6⟩ := i2 k r hk
        refine ⟨by rw [show i + (k + 1) = i + 1 + k by omega]; exact j1, j2, j3, j4, j5, fun t => ?_⟩
        rw [tvAt_cons h3]; exact j6 t
    · rw [i3 t, List.length_cons, tvAt_cons h3]

structure Cx (P : Program) (N : Nat) (ops : Array Oper) (recs : List Rec) (e0 eN : Env) (h0 hN : GH) : Prop where
  len : recs.length = ops.size
  zero : Hf recs hN 0 = h0
  idx : ∀ k rc, nth recs k = some rc → nth ops.toList k = some rc.o ∧ rc.h' = Hf recs hN (k + 1) ∧ (∀ x, rc.o.dst = some x → x < N) ∧ GuardOk ops.toList rc ∧ StepOk P rc ∧ ∀ t, rc.e.get t = tvAt recs LT e0 t k
  fin : ∀ t, eN.get t = tvAt recs LT e0 t recs.length
  edges : ∀ k o, nth ops.toList k = some o → ∀ ed ∈ o.after.toList, bindE ed = true → ed.on < k
  tmps : ∀ j o i oi, nth ops.toList j = some o → nth ops.toList i = some oi → ∀ d, oi.dst = some d → d ∈ namesOf ops.toList o → i ≠ j → Reach ops.toList (max i j) (min i j)
  effs : ∀ i j oi oj, i < j → nth ops.toList i = some oi → nth ops.toList j = some oj → isEff P oi = true → isEff P oj = true → Reach ops.toList j i
  rds : ∀ i j ri rj t x g off, nth recs i = some ri → nth recs j = some rj → ri.ran = true → rj.ran = true → ri.o.op = .load t x → ri.e.eval x = .pointer (some ⟨g, off, none⟩) → isEff P rj.o = true → ¬ Reach ops.toList (max i j) (min i j) →
    ∀ k, k < loadN P t → rj.h.cell ⟨g, off + k, none⟩ = rj.h'.cell ⟨g, off + k, none⟩ ∧ (rj.h.cell ⟨g, off + k, none⟩).isSome = true

section
variable {N : Nat} {ops : Array Oper} {recs : List Rec} {e0 eN : Env} {h0 hN : GH}
def EffAt (P : Program) (recs : List Rec) (k : Nat) : Prop := ∃ rc, nth recs k = some rc ∧ rc.ran = true ∧ isEff P rc.o = true
def Born (P : Program) (recs : List Rec) (k g : Nat) : Prop := ∃ rc, nth recs k = some rc ∧ rc.ran = true ∧ opKind P rc.o.op = .alloc ∧ rc.h.next = g
theorem Hf_at {rc : Rec} {k : Nat} (h : nth recs k = some rc) : Hf recs hN k = rc.h := by unfold Hf; rw [h]
theorem Hf_end : Hf recs hN recs.length = hN := by unfold Hf; rw [nth_eq, List.getElem?_eq_none (Nat.le_refl _)]
theorem rec_at {k : Nat} (h : k < recs.length) : ∃ rc, nth recs k = some rc := ⟨recs[k], by rw [nth_eq]; exact List.getElem?_eq_getElem h⟩
/-- one step, between effects: what is there stays -/
theorem Cx.one (cx : Cx P N ops recs e0 eN h0 hN) {k : Nat} {rc : Rec} (hk : nth recs k = some rc) : (Hf recs hN k).next ≤ (Hf recs hN (k + 1)).next ∧ (¬ EffAt P recs k → ∀ g, g < (Hf recs hN k).next → (Hf recs hN (k + 1)).get g = (Hf recs hN k).get g) := by
  obtain ⟨_, h1, _, _, h2, _⟩ := cx.idx k rc hk
  rw [Hf_at hk, ← h1]
  cases h2 with
  | skip h hv hh => rw [hh]; exact ⟨Nat.le_refl _, fun _ _ _ => rfl⟩
  | pure h hk' hh hs => rw [hh]; exact ⟨Nat.le_refl _, fun _ _ _ => rfl⟩
  | read h hk' hh => rw [hh]; exact ⟨Nat.le_refl _, fun _ _ _ => rfl⟩
  | alloc h hk' blk hh hs => rw [hh]; exact ⟨Nat.le_succ _, fun _ g hg => get_push_ne _ _ (by omega)⟩
  | eff h hk' hs => exact ⟨hs.1, fun hn => (hn ⟨rc, hk, h, hk'⟩).elim⟩
theorem Cx.next_mono (cx : Cx P N ops recs e0 eN h0 hN) {i : Nat} : ∀ {j : Nat}, i ≤ j → j ≤ recs.length → (Hf recs hN i).next ≤ (Hf recs hN j).next := by
  intro j
  induction j with
  | zero => intro h _; have : i = 0 := by omega
            subst this; exact Nat.le_refl _
  | succ j ih =>
    intro h hj
    by_cases e : i = j + 1
    · subst e; exact Nat.le_refl _
    · obtain ⟨rc, hrc⟩ := rec_at (recs := recs) (k := j) (by omega)
      exact Nat.le_trans (ih (by omega) (by omega)) (cx.one hrc).1
theorem Cx.grow (cx : Cx P N ops recs e0 eN h0 hN) {i g : Nat} (hg : g < (Hf recs hN i).next) : ∀ {j : Nat}, i ≤ j → j ≤ recs.length → (∀ k, i ≤ k → k < j → ¬ EffAt P recs k) → (Hf recs hN j).get g = (Hf recs hN i).get g := by
  intro j
  induction j with
  | zero => intro h _ _; have : i = 0 := by omega
            subst this; rfl
  | succ j ih =>
    intro h hj hn
    by_cases e : i = j + 1
    · subst e; rfl
    · obtain ⟨rc, hrc⟩ := rec_at (recs := recs) (k := j) (by omega)
      have := ih (by omega) (by omega) (fun k h1 h2 => hn k h1 (by omega))
      rw [← this]
      exact (cx.one hrc).2 (hn j (by omega) (by omega)) g (Nat.lt_of_lt_of_le hg (cx.next_mono (by omega) (by omega)))
theorem Cx.born (cx : Cx P N ops recs e0 eN h0 hN) {k g : Nat} (h : Born P recs k g) : k < recs.length ∧ g = (Hf recs hN k).next ∧ (Hf recs hN (k + 1)).next = g + 1 := by
  obtain ⟨rc, h1, h2, h3, h4⟩ := h
  obtain ⟨_, i1, _, _, i2, _⟩ := cx.idx k rc h1
  refine ⟨nth_lt h1, by rw [Hf_at h1, h4], ?_⟩
  rw [← i1]
  cases i2 with
  | skip h => rw [h2] at h; cases h
  | pure _ hk => rw [h3] at hk; cases hk
  | read _ hk => rw [h3] at hk; cases hk
  | eff _ hk => unfold isEff at hk; rw [h3] at hk; cases hk
  | alloc _ _ blk hh => rw [hh, ← h4]; rfl
theorem Cx.born_unique (cx : Cx P N ops recs e0 eN h0 hN) {k k' g : Nat} (h : Born P recs k g) (h' : Born P recs k' g) : k = k' := by
  obtain ⟨a1, a2, a3⟩ := cx.born h
  obtain ⟨b1, b2, b3⟩ := cx.born h'
  rcases Nat.lt_trichotomy k k' with hl | hl | hl
  · have := cx.next_mono (i := k + 1) (j := k') hl (by omega); omega
  · exact hl
  · have := cx.next_mono (i := k' + 1) (j := k) hl (by omega); omega
theorem tvAt_stop {L : Nat → Bool} {e : Env} {t i : Nat} : ∀ {m : Nat}, i ≤ m → (∀ k rc, i ≤ k → k < m → nth recs k = some rc → rc.o.dst = some t → L k = false) → tvAt recs L e t m = tvAt recs L e t i := by
  intro m
  induction m with
  | zero => intro h _; have : i = 0 := by omega
            subst this; rfl
  | succ m ih =>
    intro h hn
    by_cases e' : i = m + 1
    · subst e'; rfl
    · rw [← ih (by omega) (fun k rc h1 h2 => hn k rc h1 (by omega))]
      show (match nth recs m with | some rc => if L m = true ∧ rc.o.dst = some t then rc.v else tvAt recs L e t m | none => tvAt recs L e t m) = _
      split
      · rename_i rc hrc
        rw [if_neg]
        rintro ⟨h1, h2⟩
        rw [hn m rc (by omega) (by omega) hrc h2] at h1; cases h1
      · rfl
theorem tvAt_congr {L L' : Nat → Bool} {e : Env} {t : Nat} : ∀ {m : Nat}, (∀ k rc, k < m → nth recs k = some rc → rc.o.dst = some t → L k = L' k) → tvAt recs L e t m = tvAt recs L' e t m := by
  intro m
  induction m with
  | zero => intro _; rfl
  | succ m ih =>
    intro hn
    show (match nth recs m with | some rc => if L m = true ∧ rc.o.dst = some t then rc.v else tvAt recs L e t m | none => tvAt recs L e t m) = (match nth recs m with | some rc => if L' m = true ∧ rc.o.dst = some t then rc.v else tvAt recs L' e t m | none => tvAt recs L' e t m)
    rw [ih fun k rc h1 => hn k rc (by omega)]
    split
    · rename_i rc hrc
      by_cases hd : rc.o.dst = some t
      · rw [hn m rc (by omega) hrc hd]
      · rw [if_neg (fun h => hd h.2), if_neg (fun h => hd h.2)]
    · rfl
def LL (listed : Array Bool) (k : Nat) : Bool := listed.getD k false
theorem LL_set {listed : Array Bool} {i : Nat} (hi : i < listed.size) (k : Nat) : LL (listed.setIfInBounds i true) k = if k = i then true else LL listed k := by
  unfold LL
  by_cases h : k = i
  · subst h; simp [hi]
  · rw [if_neg h]
    simp only [Array.getD_eq_getD_getElem?]
    rw [Array.getElem?_setIfInBounds_ne (Ne.symm h)]

structure Inv (ds : List Deferred) (P : Program) (N : Nat) (ops : Array Oper) (recs : List Rec) (e0 : Env) (h0 hN : GH) (ι0 : Inj) (w0 : World) (listed : Array Bool) (a : Act) (w : World) (ι : Inj) (lo : Nat) (V : GH) : Prop where
  closed : Closed ops.toList (LL listed)
  lsz : listed.size = ops.size
  asz : a.tmps.size = N
  adf : a.defers = ds
  tv : ∀ t, VR ι (tvAt recs (LL listed) e0 t recs.length) (a.tmps.getD t undef)
  lole : lo ≤ recs.length
  lo0 : lo = 0 ∨ ∃ k, lo = k + 1 ∧ EffAt P recs k ∧ LL listed k = true
  hiE : ∀ k, lo ≤ k → EffAt P recs k → LL listed k = false
  vn : V.next = hN.next
  hr : HR ι V w
  vold : ∀ g, g < (Hf recs hN lo).next → ι g ≠ .unborn → V.get g = (Hf recs hN lo).get g
  vnew : ∀ g, (Hf recs hN lo).next ≤ g → g < hN.next → ι g ≠ .unborn → ∃ k, lo ≤ k ∧ Born P recs k g ∧ LL listed k = true ∧ V.get g = (Hf recs hN (k + 1)).get g
  unb : ∀ k g, Born P recs k g → LL listed k = false → ι g = .unborn
  kept : ∀ k g, Born P recs k g → LL listed k = false → k < lo → (Hf recs hN lo).get g = (Hf recs hN (k + 1)).get g
  oldn : ∀ g, g < h0.next → ι g = ι0 g ∨ ((∃ p, ι0 g = .live p ∧ p.ro = false) ∧ ι g = .dead)
  farn : ∀ g, hN.next ≤ g → ι g = ι0 g
  samen : ∀ g, g < h0.next → ι0 g = .unborn → (Hf recs hN lo).get g = h0.get g
  fr : Fr (Cov h0.next ι0) w0 w
  cov : ∀ b i, b < w0.heap.size → Cov hN.next ι b i → Cov h0.next ι0 b i

variable {ι0 : Inj} {w0 : World} {listed : Array Bool} {a : Act} {w : World} {ι : Inj} {lo : Nat} {V : GH}
/-- what an operation that is ready finds in the slots that it names -/
theorem Inv.named (cx : Cx P N ops recs e0 eN h0 hN) (inv : Inv ds P N ops recs e0 h0 hN ι0 w0 listed a w ι lo V) {i : Nat} {rc : Rec} (hi : nth recs i = some rc) (hL : LL listed i = false)
    (hrd : ∀ o, nth ops.toList i = some o → ∀ ed ∈ o.after.toList, bindE ed = true → LL listed ed.on = true) {t : Nat} (ht : t ∈ namesOf ops.toList rc.o) : tvAt recs (LL listed) e0 t recs.length = rc.e.get t := by
  obtain ⟨ho, _, _, _, _, he⟩ := cx.idx i rc hi
  rw [he t, tvAt_stop (i := i) (Nat.le_of_lt (nth_lt hi)) (fun k rk h1 h2 hk hd => ?_)]
  · refine tvAt_congr fun k rk h1 hk hd => ?_
    have hr := cx.tmps i rc.o k rk.o ho (cx.idx k rk hk).1 t hd ht (by omega)
    rw [Nat.max_eq_right (by omega), Nat.min_eq_left (by omega)] at hr
    rw [hr.ready inv.closed hrd]; rfl
  · by_cases e : k = i
    · subst e; exact hL
    · have hr := cx.tmps i rc.o k rk.o ho (cx.idx k rk hk).1 t hd ht e
      rw [Nat.max_eq_left (by omega), Nat.min_eq_right (by omega)] at hr
      cases hlk : LL listed k with
      | false => rfl
      | true => rw [hr.mem inv.closed hlk] at hL; cases hL
theorem Inv.slots (cx : Cx P N ops recs e0 eN h0 hN) (inv : Inv ds P N ops recs e0 h0 hN ι0 w0 listed a w ι lo V) {i : Nat} {rc : Rec} (hi : nth recs i = some rc) (hL : LL listed i = false)
    (hrd : ∀ o, nth ops.toList i = some o → ∀ ed ∈ o.after.toList, bindE ed = true → LL listed ed.on = true) : ER ι (eo rc.o rc.e) a := fun t => by
  by_cases ht : t ∈ tmpsOf rc.o.op.operands.toList
  · have h1 : (eo rc.o rc.e).get t = rc.e.get t := only_mem ht
    rw [h1, ← inv.named cx hi hL hrd (t := t) (by unfold namesOf; simp [ht])]
    exact inv.tv t
  · have : (eo rc.o rc.e).get t = undef := only_not ht
    rw [this]
    exact .un _
/-- the slots behind an operation -/
theorem Inv.tvput (cx : Cx P N ops recs e0 eN h0 hN) (inv : Inv ds P N ops recs e0 h0 hN ι0 w0 listed a w ι lo V) {i : Nat} {rc : Rec} (hi : nth recs i = some rc) (hL : LL listed i = false)
    {ι' : Inj} (hl : Le ι ι') {rv : Value} (hv : VR ι' rc.v rv) (t : Nat) : VR ι' (tvAt recs (LL (listed.setIfInBounds i true)) e0 t recs.length) ((a.put rc.o.dst rv).tmps.getD t undef) := by
  obtain ⟨ho, _, hd, _, _, _⟩ := cx.idx i rc hi
  have hlt : i < listed.size := by rw [inv.lsz, ← cx.len]; exact nth_lt hi
  rw [put_get _ _ _ _ (by rw [inv.asz]; exact hd)]
  by_cases hdt : rc.o.dst = some t
  · rw [if_pos hdt, tvAt_stop (i := i + 1) (nth_lt hi) (fun k rk h1 h2 hk hkd => ?_)]
    · have : tvAt recs (LL (listed.setIfInBounds i true)) e0 t (i + 1) = rc.v := by
        show (match nth recs i with | some rc => if LL (listed.setIfInBounds i true) i = true ∧ rc.o.dst = some t then rc.v else _ | none => _) = _
        rw [hi]
        simp only []
        rw [if_pos ⟨by rw [LL_set hlt, if_pos rfl], hdt⟩]
      rw [this]
      exact hv
    · rw [LL_set hlt, if_neg (by omega)]
      have hr := cx.tmps i rc.o k rk.o ho (cx.idx k rk hk).1 t hkd (by unfold namesOf; rw [hdt]; simp) (by omega)
      rw [Nat.max_eq_left (by omega), Nat.min_eq_right (by omega)] at hr
      cases hlk : LL listed k with
      | false => rfl
      | true => rw [hr.mem inv.closed hlk] at hL; cases hL
  · rw [if_neg hdt, tvAt_congr (L' := LL listed) (fun k rk h1 hk hkd => ?_)]
    · exact (inv.tv t).mono hl
    · rw [LL_set hlt, if_neg]
      intro e; subst e
      rw [hi] at hk; cases hk
      exact hdt hkd
theorem Inv.closedput (cx : Cx P N ops recs e0 eN h0 hN) (inv : Inv ds P N ops recs e0 h0 hN ι0 w0 listed a w ι lo V) {i : Nat} {rc : Rec} (hi : nth recs i = some rc)
    (hrd : ∀ o, nth ops.toList i = some o → ∀ ed ∈ o.after.toList, bindE ed = true → LL listed ed.on = true) : Closed ops.toList (LL (listed.setIfInBounds i true)) := by
  have hlt : i < listed.size := by rw [inv.lsz, ← cx.len]; exact nth_lt hi
  intro j o ho hj ed he hb
  rw [LL_set hlt] at hj ⊢
  split
  · rfl
  · split at hj
    · rename_i h; subst h; exact hrd o ho ed he hb
    · exact inv.closed j o ho hj ed he hb
theorem LL_set_false (cx : Cx P N ops recs e0 eN h0 hN) (inv : Inv ds P N ops recs e0 h0 hN ι0 w0 listed a w ι lo V) {i : Nat} {rc : Rec} (hi : nth recs i = some rc) {k : Nat} (h : LL (listed.setIfInBounds i true) k = false) : k ≠ i ∧ LL listed k = false := by
  have hlt : i < listed.size := by rw [inv.lsz, ← cx.len]; exact nth_lt hi
  rw [LL_set hlt] at h
  split at h
  · cases h
  · rename_i hne; exact ⟨hne, h⟩
theorem LL_set_true (cx : Cx P N ops recs e0 eN h0 hN) (inv : Inv ds P N ops recs e0 h0 hN ι0 w0 listed a w ι lo V) {i : Nat} {rc : Rec} (hi : nth recs i = some rc) {k : Nat} (h : LL listed k = true) : LL (listed.setIfInBounds i true) k = true := by
  have hlt : i < listed.size := by rw [inv.lsz, ← cx.len]; exact nth_lt hi
  rw [LL_set hlt]
  split
  · rfl
  · exact h
/-- an operation that turns no memory -/
theorem Inv.quiet (cx : Cx P N ops recs e0 eN h0 hN) (inv : Inv ds P N ops recs e0 h0 hN ι0 w0 listed a w ι lo V) {i : Nat} {rc : Rec} (hi : nth recs i = some rc) (hL : LL listed i = false)
    (hrd : ∀ o, nth ops.toList i = some o → ∀ ed ∈ o.after.toList, bindE ed = true → LL listed ed.on = true) (hne : ¬ EffAt P recs i) (hnb : ∀ g, ¬ Born P recs i g) {rv : Value} (hv : VR ι rc.v rv) :
    Inv ds P N ops recs e0 h0 hN ι0 w0 (listed.setIfInBounds i true) (a.put rc.o.dst rv) w ι lo V where
  closed := inv.closedput cx hi hrd
  lsz := by simp [inv.lsz]
  asz := by rw [put_size]; exact inv.asz
  adf := by rw [put_defers]; exact inv.adf
  tv := inv.tvput cx hi hL (Le.refl ι) hv
  lole := inv.lole
  lo0 := by
    rcases inv.lo0 with h | ⟨k, h1, h2, h3⟩
    · exact .inl h
    · exact .inr ⟨k, h1, h2, LL_set_true cx inv hi h3⟩
  hiE k h1 h2 := by
    have hlt : i < listed.size := by rw [inv.lsz, ← cx.len]; exact nth_lt hi
    have hki : k ≠ i := fun e => by subst e; exact hne h2
    rw [LL_set hlt, if_neg hki]
    exact inv.hiE k h1 h2
  vn := inv.vn
  hr := inv.hr
  vold := inv.vold
  vnew g h1 h2 h3 := by
    obtain ⟨k, k1, k2, k3, k4⟩ := inv.vnew g h1 h2 h3
    exact ⟨k, k1, k2, LL_set_true cx inv hi k3, k4⟩
  unb k g h1 h2 := inv.unb k g h1 (LL_set_false cx inv hi h2).2
  kept k g h1 h2 h3 := inv.kept k g h1 (LL_set_false cx inv hi h2).2 h3
  oldn := inv.oldn
  farn := inv.farn
  samen := inv.samen
  fr := inv.fr
  cov := inv.cov
end
end Go.Proofs.Ytephmpbccajaaaa.Gx

