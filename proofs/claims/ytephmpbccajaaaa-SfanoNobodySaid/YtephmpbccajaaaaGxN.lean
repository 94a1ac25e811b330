/- The plain machine and the model: regions that draw their order: what was run in the text's order, written down. No condition. -/
import Derived.Test.YtephmpbccajaaaaGxM
namespace Go.Proofs.Ytephmpbccajaaaa.Gx
open Go Go.RowKit
set_option linter.unusedVariables false
set_option linter.unusedSimpArgs false
variable {P : Program} {β : Type} {r : β}

/-! ### what waits for what -/
inductive Reach (all : List Oper) : Nat → Nat → Prop
  | one {j : Nat} {o : Oper} {ed : Edge} (h : nth all j = some o) (he : ed ∈ o.after.toList) (hb : bindE ed = true) : Reach all j ed.on
  | more {j i : Nat} {o : Oper} {ed : Edge} (h : nth all j = some o) (he : ed ∈ o.after.toList) (hb : bindE ed = true) (t : Reach all ed.on i) : Reach all j i
theorem ancOne_bit {acc : List Nat} {i : Nat} : ∀ {es : List Edge}, (ancOne acc es).testBit i = true → ∃ ed ∈ es, bindE ed = true ∧ (ed.on = i ∨ ∃ b, nth acc ed.on = some b ∧ b.testBit i = true)
  | [], h => by simp [ancOne] at h
  | e :: es, h => by
    unfold ancOne at h
    cases hb : bindE e with
    | false =>
      rw [hb] at h
      obtain ⟨ed, h1, h2⟩ := ancOne_bit (es := es) h
      exact ⟨ed, List.mem_cons_of_mem _ h1, h2⟩
    | true =>
      rw [hb] at h
      simp only [cond_true, Nat.testBit_or, Bool.or_eq_true] at h
      rcases h with (h | h) | h
      · refine ⟨e, List.mem_cons_self .., hb, .inl ?_⟩
        rw [Nat.testBit_two_pow] at h
        simpa using h
      · refine ⟨e, List.mem_cons_self .., hb, .inr ?_⟩
        split at h
        · rename_i b hb'; exact ⟨b, hb', h⟩
        · simp at h
      · obtain ⟨ed, h1, h2⟩ := ancOne_bit (es := es) h
        exact ⟨ed, List.mem_cons_of_mem _ h1, h2⟩
theorem nth_append_left {α : Type} {l m : List α} {i : Nat} (h : i < l.length) : nth (l ++ m) i = nth l i := by rw [nth_eq, nth_eq, List.getElem?_append_left h]
theorem nth_append_right {α : Type} {l m : List α} {i : Nat} (h : l.length ≤ i) : nth (l ++ m) i = nth m (i - l.length) := by rw [nth_eq, nth_eq, List.getElem?_append_right h]
theorem nth_lt {α : Type} {l : List α} {i : Nat} {x : α} (h : nth l i = some x) : i < l.length := by rw [nth_eq] at h; exact (List.getElem?_eq_some_iff.1 h).1
theorem ancs_reach {all : List Oper} : ∀ (l : List Oper) (acc : List Nat), all.drop acc.length = l → (∀ j b i, nth acc j = some b → b.testBit i = true → Reach all j i) →
    ∀ j b i, nth (ancs l acc) j = some b → b.testBit i = true → Reach all j i
  | [], acc, _, h => h
  | o :: l, acc, hd, h => by
    unfold ancs
    have hdl : all.drop (acc.length + 1) = l := by
      have : (all.drop acc.length).drop 1 = l := by rw [hd]; rfl
      simpa [List.drop_drop] using this
    have ho : nth all acc.length = some o := by
      rw [nth_eq]
      have : (all.drop acc.length)[0]? = some o := by rw [hd]; rfl
      simpa using this
    refine ancs_reach l (acc ++ [ancOne acc o.after.toList]) (by simpa using hdl) (fun j b i hj hb => ?_)
    by_cases hlt : j < acc.length
    · rw [nth_append_left hlt] at hj
      exact h j b i hj hb
    · have : j = acc.length := by have := nth_lt hj; simp at this; omega
      subst this
      rw [nth_append_right (Nat.le_refl _), Nat.sub_self] at hj
      simp only [nth, Option.some.injEq] at hj
      subst hj
      obtain ⟨ed, h1, h2, h3⟩ := ancOne_bit hb
      rcases h3 with rfl | ⟨b', h4, h5⟩
      · exact .one ho h1 h2
      · exact .more ho h1 h2 (h _ _ _ h4 h5)
theorem waits_reach {all : List Oper} {j i : Nat} (h : waits (ancs all []) j i = true) : Reach all j i := by
  unfold waits at h
  split at h
  · rename_i b hb
    exact ancs_reach all [] rfl (fun j b i hj => by simp [nth] at hj) j b i hb h
  · cases h
/-- a set that holds whatever its members wait for -/
def Closed (all : List Oper) (L : Nat → Bool) : Prop := ∀ j o, nth all j = some o → L j = true → ∀ ed ∈ o.after.toList, bindE ed = true → L ed.on = true
theorem Reach.mem {all : List Oper} {L : Nat → Bool} (hc : Closed all L) {j i : Nat} (h : Reach all j i) : L j = true → L i = true := by
  induction h with
  | one h he hb => exact fun hj => hc _ _ h hj _ he hb
  | more h he hb _ ih => exact fun hj => ih (hc _ _ h hj _ he hb)
theorem Reach.ready {all : List Oper} {L : Nat → Bool} (hc : Closed all L) {j i : Nat} (h : Reach all j i) (hr : ∀ o, nth all j = some o → ∀ ed ∈ o.after.toList, bindE ed = true → L ed.on = true) : L i = true := by
  cases h with
  | one h he hb => exact hr _ h _ he hb
  | more h he hb t => exact t.mem hc (hr _ h _ he hb)

/-! ### the checks -/
theorem edgesOk_spec {all : List Oper} : ∀ (l : List Oper) (i : Nat), all.drop i = l → edgesOk l i = true → ∀ k o, nth l k = some o → ∀ ed ∈ o.after.toList, bindE ed = true → ed.on < i + k
  | [], _, _, _ => fun k o h => by simp [nth] at h
  | x :: l, i, hd, h => by
    unfold edgesOk at h
    simp only [Bool.and_eq_true] at h
    intro k o hk
    cases k with
    | zero =>
      simp only [nth, Option.some.injEq] at hk
      subst hk
      intro ed he hb
      have := List.all_eq_true.1 h.1.1 ed he
      rw [hb] at this
      simp at this
      omega
    | succ k =>
      have := edgesOk_spec l (i + 1) (by
        have : (all.drop i).drop 1 = l := by rw [hd]; rfl
        simpa [List.drop_drop] using this) h.2 k o hk
      intro ed he hb
      have := this ed he hb
      omega
theorem memN_iff {t : Nat} : ∀ {l : List Nat}, t ∈ l → memN t l = true
  | x :: l, h => by
    unfold memN
    rcases List.mem_cons.1 h with rfl | h
    · simp [beq_self]
    · simp [memN_iff h]
theorem tmpsOkAt_spec {bits : List Nat} {names : List Tmp} {j : Nat} : ∀ (l : List Oper) (i : Nat), tmpsOkAt bits names j l i = true → ∀ k o, nth l k = some o → ∀ d, o.dst = some d → d ∈ names → i + k ≠ j → waits bits (max (i + k) j) (min (i + k) j) = true
  | [], _, _ => fun k o h => by simp [nth] at h
  | x :: l, i, h => by
    unfold tmpsOkAt at h
    simp only [Bool.and_eq_true] at h
    intro k o hk d hd hm hne
    cases k with
    | zero =>
      simp only [nth, Option.some.injEq] at hk
      subst hk
      have h1 := h.1
      rw [hd] at h1
      simp only [memN_iff hm, Bool.not_true, Bool.false_or] at h1
      rw [Nat.add_zero] at hne ⊢
      rw [beq_ne hne] at h1
      simpa using h1
    | succ k =>
      have := tmpsOkAt_spec l (i + 1) h.2 k o hk d hd hm (by omega)
      rwa [show i + 1 + k = i + (k + 1) by omega] at this
theorem tmpsOk_spec {bits : List Nat} {all : List Oper} : ∀ (l : List Oper) (j : Nat), tmpsOk bits all l j = true → ∀ k o, nth l k = some o → ∀ i oi, nth all i = some oi → ∀ d, oi.dst = some d → d ∈ namesOf all o → i ≠ j + k → waits bits (max i (j + k)) (min i (j + k)) = true
  | [], _, _ => fun k o h => by simp [nth] at h
  | x :: l, j, h => by
    unfold tmpsOk at h
    simp only [Bool.and_eq_true] at h
    intro k o hk
    cases k with
    | zero =>
      simp only [nth, Option.some.injEq] at hk
      subst hk
      intro i oi hi d hd hm hne
      have := tmpsOkAt_spec all 0 h.1 i oi hi d hd hm (by omega)
      simpa using this
    | succ k =>
      intro i oi hi d hd hm hne
      have := tmpsOk_spec l (j + 1) h.2 k o hk i oi hi d hd hm (by omega)
      rwa [show j + 1 + k = j + (k + 1) by omega] at this
theorem effsOk_spec {bits : List Nat} : ∀ (l : List Oper) (j : Nat) (seen : List Nat), effsOk P bits l j seen = true →
    (∀ k o, nth l k = some o → isEff P o = true → ∀ i ∈ seen, waits bits (j + k) i = true) ∧ (∀ k o k' o', k < k' → nth l k = some o → nth l k' = some o' → isEff P o = true → isEff P o' = true → waits bits (j + k') (j + k) = true)
  | [], _, _, _ => ⟨fun k o h => by simp [nth] at h, fun k o _ _ _ h => by simp [nth] at h⟩
  | x :: l, j, seen, h => by
    unfold effsOk at h
    cases hx : isEff P x with
    | true =>
      rw [hx] at h
      simp only [cond_true, Bool.and_eq_true] at h
      obtain ⟨h1, h2⟩ := effsOk_spec l (j + 1) (j :: seen) h.2
      refine ⟨fun k o hk he i hi => ?_, fun k o k' o' hlt hk hk' he he' => ?_⟩
      · cases k with
        | zero => exact List.all_eq_true.1 h.1 i hi
        | succ k => rw [show j + (k + 1) = j + 1 + k by omega]; exact h1 k o hk he i (List.mem_cons_of_mem _ hi)
      · cases k' with
        | zero => omega
        | succ k' =>
          cases k with
          | zero => rw [show j + (k' + 1) = j + 1 + k' by omega]; exact h1 k' o' hk' he' j (List.mem_cons_self ..)
          | succ k => rw [show j + (k' + 1) = j + 1 + k' by omega, show j + (k + 1) = j + 1 + k by omega]; exact h2 k o k' o' (by omega) hk hk' he he'
    | false =>
      rw [hx] at h
      simp only [cond_false] at h
      obtain ⟨h1, h2⟩ := effsOk_spec l (j + 1) seen h
      refine ⟨fun k o hk he i hi => ?_, fun k o k' o' hlt hk hk' he he' => ?_⟩
      · cases k with
        | zero => simp only [nth, Option.some.injEq] at hk; subst hk; rw [hx] at he; cases he
        | succ k => rw [show j + (k + 1) = j + 1 + k by omega]; exact h1 k o hk he i hi
      · cases k' with
        | zero => omega
        | succ k' =>
          cases k with
          | zero => simp only [nth, Option.some.injEq] at hk; subst hk; rw [hx] at he; cases he
          | succ k => rw [show j + (k' + 1) = j + 1 + k' by omega, show j + (k + 1) = j + 1 + k by omega]; exact h2 k o k' o' (by omega) hk hk' he he'
theorem veq_eq {a b : Value} (h : veq a b = true) : a = b := by
  unfold veq at h
  split at h <;> simp_all
theorem veqO_eq {a b : Option Value} (h : veqO a b = true) : a = b ∧ a.isSome = true := by
  unfold veqO at h
  split at h
  · rw [veq_eq h]; exact ⟨rfl, rfl⟩
  · cases h
theorem sameAt_spec {g : Nat} {h h' : GH} : ∀ {n o : Nat}, sameAt g o n h h' = true → ∀ k, k < n → h.cell ⟨g, o + k, none⟩ = h'.cell ⟨g, o + k, none⟩ ∧ (h.cell ⟨g, o + k, none⟩).isSome = true
  | 0, _, _ => fun k hk => by omega
  | n + 1, o, hs => by
    unfold sameAt at hs
    simp only [Bool.and_eq_true] at hs
    intro k hk
    cases k with
    | zero => exact veqO_eq hs.1
    | succ k => have := sameAt_spec hs.2 k (by omega); rwa [show o + 1 + k = o + (k + 1) by omega] at this
theorem chkOne_spec {bits : List Nat} {i : Nat} {p : Option Addr} {n : Nat} {K : Option β} : ∀ {ef : Efs}, chkOne bits i p n ef K = some r → K = some r ∧ ∀ j h h', (j, h, h') ∈ ef → apartB bits i j = true → ∃ g o, p = some ⟨g, o, none⟩ ∧ sameAt g o n h h' = true
  | [], hh => ⟨hh, fun j h h' hm => by cases hm⟩
  | (j, h, h') :: ef, hh => by
    unfold chkOne at hh
    cases ha : apartB bits i j with
    | true =>
      rw [ha] at hh
      simp only [cond_true] at hh
      obtain ⟨g, o, hp, hh'⟩ := exA_some hh
      have h1 := (cond_none hh').1
      obtain ⟨h2, h3⟩ := chkOne_spec (cond_none hh').2
      refine ⟨h2, fun j' x x' hm ha' => ?_⟩
      rcases List.mem_cons.1 hm with e | hm
      · cases e; exact ⟨g, o, hp, h1⟩
      · exact h3 _ _ _ hm ha'
    | false =>
      rw [ha] at hh
      simp only [cond_false] at hh
      obtain ⟨h2, h3⟩ := chkOne_spec hh
      refine ⟨h2, fun j' x x' hm ha' => ?_⟩
      rcases List.mem_cons.1 hm with e | hm
      · cases e; rw [ha] at ha'; cases ha'
      · exact h3 _ _ _ hm ha'
theorem chkAll_spec {bits : List Nat} {ef : Efs} {K : Option β} : ∀ {rd : Rds}, chkAll bits ef rd K = some r → K = some r ∧ ∀ i p n, (i, p, n) ∈ rd → ∀ j h h', (j, h, h') ∈ ef → apartB bits i j = true → ∃ g o, p = some ⟨g, o, none⟩ ∧ sameAt g o n h h' = true
  | [], hh => ⟨hh, fun i p n hm => by cases hm⟩
  | (i, p, n) :: rd, hh => by
    unfold chkAll at hh
    obtain ⟨h1, h2⟩ := chkOne_spec hh
    obtain ⟨h3, h4⟩ := chkAll_spec h1
    refine ⟨h3, fun i' p' n' hm => ?_⟩
    rcases List.mem_cons.1 hm with e | hm
    · cases e; exact h2
    · exact h4 _ _ _ hm

/-! ### what was run -/
structure Rec where
  o : Oper
  e : Env
  h : GH
  ran : Bool
  v : Value
  h' : GH
def eo (o : Oper) (e : Env) : Env := e.only (tmpsOf o.op.operands.toList)
theorem only_mem {e : Env} {l : List Nat} {t : Nat} (h : t ∈ l) : (e.only l).get t = e.get t := by
  induction l with
  | nil => cases h
  | cons x l ih =>
    rw [show e.only (x :: l) = (x, e.get x) :: e.only l from rfl, env_get_cons]
    split
    · rename_i h'; rw [h']
    · rename_i h'
      rcases List.mem_cons.1 h with rfl | h
      · exact (h' rfl).elim
      · exact ih h
theorem only_not {e : Env} {l : List Nat} {t : Nat} (h : t ∉ l) : (e.only l).get t = undef := by
  induction l with
  | nil => rfl
  | cons x l ih =>
    rw [show e.only (x :: l) = (x, e.get x) :: e.only l from rfl, env_get_cons]
    rw [if_neg (fun h' => h (by rw [h']; exact List.mem_cons_self ..))]
    exact ih fun h' => h (List.mem_cons_of_mem _ h')
theorem mem_tmpsOf {t : Tmp} : ∀ {l : List Operand}, Operand.tmp t ∈ l → t ∈ tmpsOf l
  | x :: l, h => by
    rcases List.mem_cons.1 h with e | h'
    · subst e; exact List.mem_cons_self ..
    · cases x with
      | tmp u => exact List.mem_cons_of_mem _ (mem_tmpsOf h')
      | const v => exact mem_tmpsOf (l := l) h'
      | global g => exact mem_tmpsOf (l := l) h'
      | func f => exact mem_tmpsOf (l := l) h'
theorem eo_eval {o : Oper} {e : Env} {x : Operand} (hx : x ∈ o.op.operands.toList) : (eo o e).eval x = e.eval x := by
  cases x with
  | tmp t => exact only_mem (mem_tmpsOf hx)
  | const v => rfl
  | global g => rfl
  | func f => rfl
inductive StepOk (P : Program) (rc : Rec) : Prop
  | skip (h : rc.ran = false) (hv : rc.v = skipV) (hh : rc.h' = rc.h)
  | pure (h : rc.ran = true) (hk : opKind P rc.o.op = .pure) (hh : rc.h' = rc.h) (hs : ∀ ι a, ER ι (eo rc.o rc.e) a → ∃ rv, VR ι rc.v rv ∧ ∀ w, (execOp a.eval rc.o).run P w = .ok (.value rv) w)
  | alloc (h : rc.ran = true) (hk : opKind P rc.o.op = .alloc) (blk : Blk) (hh : rc.h' = rc.h.push (.row blk)) (hs : Makes P rc.o (eo rc.o rc.e) rc.h rc.v blk)
  | read (h : rc.ran = true) (hk : opKind P rc.o.op = .read) (hh : rc.h' = rc.h) (t : TypeId) (x : Operand) (g off : Nat) (b : Blk) (ho : rc.o.op = .load t x) (hx : rc.e.eval x = .pointer (some ⟨g, off, none⟩)) (hpos : 0 < loadN P t) (hb : rc.h.look g = some (.row b)) (hle : off + loadN P t ≤ b.cells.length)
      (hs : ∀ (b' : Blk), off + loadN P t ≤ b'.cells.length → (∀ i, i < loadN P t → nth b'.cells (off + i) = nth b.cells (off + i)) → ∀ ι p w, RowOk ι p b' w →
        ∃ rv, VR ι rc.v rv ∧ (Instr.loadAt t (.pointer (some ⟨p.blk, p.off + off, none⟩))).run P w = .ok rv w)
  | eff (h : rc.ran = true) (hk : isEff P rc.o = true) (hs : OpSim P rc.o (eo rc.o rc.e) rc.h rc.v rc.h')
def GuardOk (all : List Oper) (rc : Rec) : Prop := match rc.o.guard with
  | none => rc.ran = true
  | some (j, want) => ∃ t, dstOf all j = some t ∧ ((∃ b, rc.e.get t = .bool b ∧ rc.ran = (b == want)) ∨ (isSkip (rc.e.get t) = true ∧ rc.ran = false))
def TrOk (P : Program) (N : Nat) (all : List Oper) : Nat → Env → GH → List Rec → Env → GH → Prop
  | _, e, h, [], e', h' => (∀ t, e'.get t = e.get t) ∧ h' = h
  | i, e, h, rc :: rs, e', h' => nth all i = some rc.o ∧ rc.h = h ∧ (∀ t, rc.e.get t = e.get t) ∧ (∀ x, rc.o.dst = some x → x < N) ∧ GuardOk all rc ∧ StepOk P rc ∧ TrOk P N all (i + 1) (rc.e.put rc.o.dst rc.v) rc.h' rs e' h'
theorem gop_step {C : Orc β} (hC : SimOrc P C) {o : Oper} {e : Env} {h : GH} {K : Value → GH → Option β} (hg : gop P C o e h K = some r) : ∃ v h', K v h' = some r ∧ StepOk P ⟨o, e, h, true, v, h'⟩ := by
  have hg' : gop P C o (eo o e) h K = some r := by rw [gop_congr (e' := e) (fun x hx => eo_eval hx)]; exact hg
  cases hk : opKind P o.op with
  | pure =>
    obtain ⟨v, h1, h2⟩ := gop_pure (by rw [hk]) hg'
    exact ⟨v, h, h1, .pure rfl hk rfl h2⟩
  | alloc =>
    obtain ⟨v, blk, h1, h2⟩ := gop_alloc (by rw [hk]) hg'
    exact ⟨v, _, h1, .alloc rfl hk blk rfl h2⟩
  | read =>
    obtain ⟨t, x, g, off, v, b, ho, hx, h1, hpos, hb, hle, hs⟩ := gop_read (by rw [hk]) hg
    exact ⟨v, h, h1, .read rfl hk rfl t x g off b ho hx hpos hb hle hs⟩
  | eff =>
    have he : isEff P o = true := by unfold isEff; rw [hk]
    obtain ⟨v, h', h1, h2⟩ := gop_eff hC he hg'
    exact ⟨v, h', h1, .eff rfl he h2⟩
theorem loadLen_eq (t : TypeId) : loadLen P t = loadN P t := rfl
theorem gopsD_tr {C : Orc β} (hC : SimOrc P C) {N : Nat} {all : List Oper} : ∀ (l : List Oper) (i : Nat), all.drop i = l → ∀ {e : Env} {h : GH} {rd : Rds} {ef : Efs} {K : Env → GH → Rds → Efs → Option β}, gopsD P C N all l i e h rd ef K = some r →
    ∃ recs e' h' rd' ef', K e' h' rd' ef' = some r ∧ TrOk P N all i e h recs e' h' ∧ recs.length = l.length ∧ (∀ x ∈ rd, x ∈ rd') ∧ (∀ x ∈ ef, x ∈ ef') ∧
      (∀ k rc, nth recs k = some rc → rc.ran = true → isEff P rc.o = true → (i + k, rc.h, rc.h') ∈ ef') ∧
      (∀ k rc t x g off, nth recs k = some rc → rc.ran = true → rc.o.op = .load t x → rc.e.eval x = .pointer (some ⟨g, off, none⟩) → (i + k, some ⟨g, off, none⟩, loadN P t) ∈ rd') := by
  intro l
  induction l with
  | nil => exact fun i hi e h rd ef K hg => ⟨[], e, h, rd, ef, hg, ⟨fun _ => rfl, rfl⟩, rfl, fun _ h => h, fun _ h => h, fun k rc h => by simp [nth] at h, fun k rc t x g off h => by simp [nth] at h⟩
  | cons o l ih =>
    intro i hi e h rd ef K hg
    have hio : nth all i = some o := by
      rw [nth_eq]
      have : (all.drop i)[0]? = some o := by rw [hi]; rfl
      simpa using this
    have hil : all.drop (i + 1) = l := by
      have : (all.drop i).drop 1 = l := by rw [hi]; rfl
      simpa [List.drop_drop] using this
    unfold gopsD at hg
    have hd := dstOk_lt (cond_none hg).1
    replace hg := (cond_none hg).2
    have run : ∀ (e1 : Env), (∀ t, e1.get t = e.get t) → (∀ rc : Rec, rc.o = o → rc.e = e1 → rc.ran = true → GuardOk all rc) →
        gop P C o e1 h (fun v h' => gopsD P C N all l (i + 1) (e1.put o.dst v) h' (rdOf P i o e1 rd) (efOf P i o h h' ef) K) = some r →
        ∃ recs e' h' rd' ef', K e' h' rd' ef' = some r ∧ TrOk P N all i e h recs e' h' ∧ recs.length = (o :: l).length ∧ (∀ x ∈ rd, x ∈ rd') ∧ (∀ x ∈ ef, x ∈ ef') ∧
          (∀ k rc, nth recs k = some rc → rc.ran = true → isEff P rc.o = true → (i + k, rc.h, rc.h') ∈ ef') ∧
          (∀ k rc t x g off, nth recs k = some rc → rc.ran = true → rc.o.op = .load t x → rc.e.eval x = .pointer (some ⟨g, off, none⟩) → (i + k, some ⟨g, off, none⟩, loadN P t) ∈ rd') := by
      intro e1 he1 hgo hg
      obtain ⟨v, h1, hg, hst⟩ := gop_step hC hg
      obtain ⟨recs, e', h', rd', ef', hK, ht, hlen, hrd, hef, h3, h4⟩ := ih (i + 1) hil hg
      refine ⟨⟨o, e1, h, true, v, h1⟩ :: recs, e', h', rd', ef', hK, ⟨hio, rfl, he1, hd, hgo _ rfl rfl rfl, hst, ht⟩, by simp [hlen], fun x hx => hrd x ?_, fun x hx => hef x ?_, ?_, ?_⟩
      · unfold rdOf; split
        · split
          · exact List.mem_cons_of_mem _ hx
          · exact hx
        · exact hx
      · unfold efOf; cases isEff P o
        · exact hx
        · exact List.mem_cons_of_mem _ hx
      · intro k rc hk hr he
        cases k with
        | zero =>
          simp only [nth, Option.some.injEq] at hk
          subst hk
          refine hef _ ?_
          unfold efOf
          rw [show isEff P o = true from he]
          exact List.mem_cons_self ..
        | succ k => have := h3 k rc hk hr he; rwa [show i + 1 + k = i + (k + 1) by omega] at this
      · intro k rc t x g off hk hr ho hx
        cases k with
        | zero =>
          simp only [nth, Option.some.injEq] at hk
          subst hk
          refine hrd _ ?_
          unfold rdOf
          simp only at ho hx
          rw [ho]
          simp only [hx]
          exact List.mem_cons_self ..
        | succ k => have := h4 k rc t x g off hk hr ho hx; rwa [show i + 1 + k = i + (k + 1) by omega] at this
    have skip : ∀ (e1 : Env), (∀ t, e1.get t = e.get t) → (∀ rc : Rec, rc.o = o → rc.e = e1 → rc.ran = false → GuardOk all rc) → gopsD P C N all l (i + 1) (e1.put o.dst skipV) h rd ef K = some r →
        ∃ recs e' h' rd' ef', K e' h' rd' ef' = some r ∧ TrOk P N all i e h recs e' h' ∧ recs.length = (o :: l).length ∧ (∀ x ∈ rd, x ∈ rd') ∧ (∀ x ∈ ef, x ∈ ef') ∧
          (∀ k rc, nth recs k = some rc → rc.ran = true → isEff P rc.o = true → (i + k, rc.h, rc.h') ∈ ef') ∧
          (∀ k rc t x g off, nth recs k = some rc → rc.ran = true → rc.o.op = .load t x → rc.e.eval x = .pointer (some ⟨g, off, none⟩) → (i + k, some ⟨g, off, none⟩, loadN P t) ∈ rd') := by
      intro e1 he1 hgo hg
      obtain ⟨recs, e', h', rd', ef', hK, ht, hlen, hrd, hef, h3, h4⟩ := ih (i + 1) hil hg
      refine ⟨⟨o, e1, h, false, skipV, h⟩ :: recs, e', h', rd', ef', hK, ⟨hio, rfl, he1, hd, hgo _ rfl rfl rfl, .skip rfl rfl rfl, ht⟩, by simp [hlen], hrd, hef, ?_, ?_⟩
      · intro k rc hk hr he
        cases k with
        | zero => simp only [nth, Option.some.injEq] at hk; subst hk; cases hr
        | succ k => have := h3 k rc hk hr he; rwa [show i + 1 + k = i + (k + 1) by omega] at this
      · intro k rc t x g off hk hr ho hx
        cases k with
        | zero => simp only [nth, Option.some.injEq] at hk; subst hk; cases hr
        | succ k => have := h4 k rc t x g off hk hr ho hx; rwa [show i + 1 + k = i + (k + 1) by omega] at this
    split at hg
    · rename_i hgd
      exact run e (fun _ => rfl) (fun rc h1 h2 h3 => by unfold GuardOk; rw [h1, hgd]; exact h3) hg
    · rename_i j want hgd
      split at hg
      · cases hg
      · rename_i t ht
        split at hg
        · rename_i b hb
          have hgo : ∀ rc : Rec, rc.o = o → rc.e = (t, .bool b) :: e → rc.ran = (b == want) → GuardOk all rc := fun rc h1 h2 h3 => by
            unfold GuardOk; rw [h1, hgd]; exact ⟨t, ht, .inl ⟨b, by rw [h2, env_get_cons, if_pos rfl], h3⟩⟩
          cases b with
          | true =>
            simp only [cond_true] at hg
            cases want with
            | true => exact run _ (env_lit e t _ hb) hgo hg
            | false => exact skip _ (env_lit e t _ hb) hgo hg
          | false =>
            simp only [cond_false] at hg
            cases want with
            | true => exact skip _ (env_lit e t _ hb) hgo hg
            | false => exact run _ (env_lit e t _ hb) hgo hg
        · have hsk := (cond_none hg).1
          exact skip e (fun _ => rfl) (fun rc h1 h2 h3 => by unfold GuardOk; rw [h1, hgd]; exact ⟨t, ht, .inr ⟨by rw [h2]; exact hsk, h3⟩⟩) (cond_none hg).2
end Go.Proofs.Ytephmpbccajaaaa.Gx

