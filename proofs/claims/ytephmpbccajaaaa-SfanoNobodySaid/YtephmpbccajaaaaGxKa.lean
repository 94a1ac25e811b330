/- The plain machine and the model: maps. No condition. -/
import Derived.Test.YtephmpbccajaaaaGxK
import Derived.MapKept
namespace Go.Proofs.Ytephmpbccajaaaa.Gx
open Go Go.RowKit
set_option linter.unusedVariables false
set_option linter.unusedSimpArgs false
variable {P : Program} {β : Type} {r : β}
def CkS (P : Program) (D : Nat) (t : TypeId) (x : Value) : Prop := ∀ ι rx, VR ι x rx → ∀ em w, (Instr.checkKey em D t rx).run P w = .ok () w
theorem gkeyFs_sim {E : TypeId → Value → Option β → Option β} {d : Nat} (hE : ∀ t x K, E t x K = some r → K = some r ∧ ∀ D, CkS P (D + d) t x) {xs : List Value} : ∀ (fs : List Field) {K : Option β}, gkeyFs P E xs fs K = some r →
    K = some r ∧ ∀ D ι (rx : Array Value), All2 (VR ι) xs rx.toList → ∀ em w, (forIn fs PUnit.unit (fun f _ => do
      if f.name ≠ "_" then
        let a ← part f.type rx f.offset
        Instr.checkKey em (D + d) f.type a
        pure (ForInStep.yield PUnit.unit)
      else pure (ForInStep.yield PUnit.unit)) : Sem PUnit).run P w = .ok PUnit.unit w
  | [], K, h => ⟨h, fun D ι rx _ em w => by simp⟩
  | f :: fs, K, h => by
    unfold gkeyFs at h
    obtain ⟨hn, h⟩ := cond_none' h
    obtain ⟨a, h, ha⟩ := exCells_sim h
    obtain ⟨h, hp⟩ := hE _ _ _ h
    obtain ⟨h, hq⟩ := gkeyFs_sim hE fs h
    refine ⟨h, fun D ι rx hx em w => ?_⟩
    obtain ⟨ra, va, pa⟩ := ha ι rx hx
    have hn' : f.name ≠ "_" := by simpa using hn
    simp only [List.forIn_cons, hn', ne_eq, not_false_eq_true, if_true, Sem.run_bind, pa w, hp D ι _ va em w, Result.andThen_ok, Sem.run_pure]
    exact hq D ι rx hx em w
theorem gkeyIs_sim {E : Value → Option β → Option β} {d : Nat} {e : TypeId} (hE : ∀ x K, E x K = some r → K = some r ∧ ∀ D, CkS P (D + d) e x) {z : Nat} (hz : sizeT P e = some z) {xs : List Value} : ∀ (n i : Nat) {K : Option β}, gkeyIs P E e z xs n i K = some r →
    K = some r ∧ ∀ D ι (rx : Array Value), All2 (VR ι) xs rx.toList → ∀ em w, (forIn (List.range' i n) PUnit.unit (fun j _ => do
        let s ← sizeOf e
        let a ← part e rx (j * s)
        Instr.checkKey em (D + d) e a
        pure (ForInStep.yield PUnit.unit)) : Sem PUnit).run P w = .ok PUnit.unit w
  | 0, i, K, h => ⟨h, fun D ι rx _ em w => by simp⟩
  | n + 1, i, K, h => by
    unfold gkeyIs at h
    obtain ⟨a, h, ha⟩ := exCells_sim h
    obtain ⟨h, hp⟩ := hE _ _ h
    obtain ⟨h, hq⟩ := gkeyIs_sim hE hz n (i + 1) h
    refine ⟨h, fun D ι rx hx em w => ?_⟩
    obtain ⟨ra, va, pa⟩ := ha ι rx hx
    simp only [List.range'_succ, List.forIn_cons, Sem.run_bind, sizeOf_run hz, pa w, hp D ι _ va em w, Result.andThen_ok, Sem.run_pure]
    exact hq D ι rx hx em w
theorem gkeyC_sim : ∀ (d : Nat) {t : TypeId} {x : Value} {K : Option β}, gkeyC P d t x K = some r → K = some r ∧ ∀ D, CkS P (D + d) t x
  | 0, t, x, K, h => by cases h
  | d + 1, t, x, K, h => by
    unfold gkeyC at h
    split at h
    · rename_i hu
      exact ⟨h, fun D ι rx hx em w => by rw [show D + (d + 1) = (D + d) + 1 from rfl, Instr.checkKey]; simp [run_underlying hu]⟩
    · rename_i k hu
      exact ⟨h, fun D ι rx hx em w => by rw [show D + (d + 1) = (D + d) + 1 from rfl, Instr.checkKey]; simp [run_underlying hu]⟩
    · rename_i hu
      exact ⟨h, fun D ι rx hx em w => by rw [show D + (d + 1) = (D + d) + 1 from rfl, Instr.checkKey]; simp [run_underlying hu]⟩
    · rename_i fs xs hu
      obtain ⟨h, hb⟩ := gkeyFs_sim (P := P) (d := d) (fun t x K h => gkeyC_sim d h) fs.toList h
      refine ⟨h, fun D ι rx hx em w => ?_⟩
      obtain ⟨rxs, rfl, h1⟩ := hx.aggL
      rw [show D + (d + 1) = (D + d) + 1 from rfl, Instr.checkKey]
      simp only [Sem.run_bind, run_underlying hu, Result.andThen_ok]
      rw [← Array.forIn_toList]
      rw [hb D ι rxs h1 em w]; rfl
    · rename_i n e xs hu
      split at h
      · rename_i z hz
        obtain ⟨i, hi, hc⟩ := info_underlying hz
        obtain ⟨h, hb⟩ := gkeyIs_sim (P := P) (d := d) (fun x K h => gkeyC_sim d h) hz n 0 h
        refine ⟨h, fun D ι rx hx em w => ?_⟩
        obtain ⟨rxs, rfl, h1⟩ := hx.aggL
        rw [show D + (d + 1) = (D + d) + 1 from rfl, Instr.checkKey]
        simp only [Sem.run_bind, run_underlying hu, Result.andThen_ok, Std.Legacy.Range.forIn_eq_forIn_range', Std.Legacy.Range.size, Nat.sub_zero, Nat.add_one_sub_one, Nat.div_one]
        rw [hb D ι rxs h1 em w]; rfl
      · cases h
    · cases h
theorem leafB_spec {a b : Value} (h : leafB a b = true) : a = b ∧ plain1 a = true ∧ ∀ n, Instr.sameBits n a a = true := by
  unfold leafB at h
  split at h
  · rename_i a b
    have : a = b := by simpa using h
    subst this
    exact ⟨rfl, rfl, fun n => by cases n <;> simp [Instr.sameBits]⟩
  · simp only [Bool.and_eq_true, decide_eq_true_eq, beq_iff_eq] at h
    obtain ⟨rfl, rfl⟩ := h
    exact ⟨rfl, rfl, fun n => by cases n <;> simp [Instr.sameBits]⟩
  · rename_i a b
    have h2 : a.data.toList = b.data.toList := by unfold beqS at h; simpa using h
    have : a = b := by
      obtain ⟨⟨x⟩⟩ := a
      obtain ⟨⟨y⟩⟩ := b
      simp only at h2
      subst h2; rfl
    subst this
    have hb : (a == a) = true := by rw [beq_toListBytes]; simp
    exact ⟨rfl, rfl, fun n => by cases n <;> simp [Instr.sameBits, hb]⟩
  · cases h
theorem leafsB_spec : ∀ {xs ys : List Value}, leafsB xs ys = true → xs = ys ∧ plains xs = true ∧ ∀ n, (xs.zip xs).all (fun (x, y) => Instr.sameBits n x y) = true
  | [], [], _ => ⟨rfl, rfl, fun _ => rfl⟩
  | a :: x, b :: y, h => by
    simp only [leafsB, Bool.and_eq_true] at h
    obtain ⟨rfl, h1, h2⟩ := leafB_spec h.1
    obtain ⟨rfl, h3, h4⟩ := leafsB_spec h.2
    exact ⟨rfl, by simp [plains, h1, h3], fun n => by simp only [List.zip_cons_cons, List.all_cons, h2 n, h4 n, Bool.and_self]⟩
  | [], _ :: _, h => by cases h
  | _ :: _, [], h => by cases h
theorem plains_eq {ι : Inj} {xs ys : List Value} (h : All2 (VR ι) xs ys) (hp : plains xs = true) : xs = ys := by
  induction h with
  | nil => rfl
  | cons h t ih =>
    simp only [plains, Bool.and_eq_true] at hp
    rw [ih hp.2]
    congr 1
    have := hp.1
    cases h <;> first | rfl | (simp [plain1] at this)
theorem plain1_eq {ι : Inj} {x y : Value} (h : VR ι x y) (hp : plain1 x = true) : x = y := by cases h <;> first | rfl | (simp [plain1] at hp)
theorem sameG_spec {a b : Value} (h : sameG a b = true) : ∀ ι ra rb, VR ι a ra → VR ι b rb → Instr.sameBits 10000 ra rb = true := by
  unfold sameG at h
  split at h
  · rename_i xs ys
    obtain ⟨h1, h2, h3⟩ := leafsB_spec h
    intro ι ra rb ha hb
    obtain ⟨rxs, rfl, q1⟩ := ha.aggL
    obtain ⟨rys, rfl, q2⟩ := hb.aggL
    have e1 := plains_eq q1 h2
    have e2 := plains_eq q2 (h1 ▸ h2)
    have : rxs.toList = rys.toList := by rw [← e1, ← e2, h1]
    have : rxs = rys := by apply Array.ext'; exact this
    subst this
    rw [show (10000 : Nat) = 9999 + 1 from rfl, Instr.sameBits, ← e1]
    simp [h3]
  · obtain ⟨rfl, h2, h3⟩ := leafB_spec h
    intro ι ra rb ha hb
    rw [← plain1_eq ha h2, ← plain1_eq hb h2]
    exact h3 10000
/-- what is found, both ways -/
def FR (ι : Inj) : Option (Nat × Value) → Option (Nat × Value) → Prop
  | none, none => True
  | some (i, v), some (j, u) => i = j ∧ VR ι v u
  | _, _ => False
theorem gfind_sim {t : TypeId} {k : Value} : ∀ {es : List (Value × Value)} {i : Nat} {K : Option (Nat × Value) → Option β}, gfind P t k es i K = some r →
    ∃ o, K o = some r ∧ (∀ j v, o = some (j, v) → i ≤ j ∧ j < i + es.length) ∧ ∀ ι rk ents, VR ι k rk → All2 (MR ι) es ents → ∀ w, (∃ o', (Instr.findAsking t rk ents i).run P w = .ok o' w ∧ FR ι o o') ∧
      ∀ kd, P.underlying t = some kd → ∀ o'', Instr.findNow kd rk ents i = some o'' → (Instr.findAsking t rk ents i).run P w = .ok o'' w
  | [], i, K, h => ⟨none, h, fun j v h => by (cases h), fun ι rk ents hk he w => by
    cases he
    exact ⟨⟨none, by simp [Instr.findAsking], trivial⟩, fun kd hkd o'' ho => by cases ho; simp [Instr.findAsking]⟩⟩
  | (k', v) :: es, i, K, h => by
    unfold gfind at h
    obtain ⟨b, h, hb⟩ := geqC_sim 16 h
    have head : ∀ ι rk e ents, VR ι k rk → MR ι (k', v) e → ∀ w, (Instr.findAsking t rk (e :: ents) i).run P w = (if b then .ok (some (i, e.val)) w else (Instr.findAsking t rk ents (i + 1)).run P w) ∧
        ∀ kd, P.underlying t = some kd → ∀ q, Instr.sameNow kd rk e.key = some q → q = b := fun ι rk e ents hk hm w => by
      have he := hb 9984 ι _ _ hk hm.1 w
      refine ⟨?_, fun kd hkd q hq => ?_⟩
      · have he' : (Op.equal t rk e.key).run P w = .ok b w := he
        simp only [Instr.findAsking, Sem.run_bind, he', Result.andThen_ok]
        cases b <;> simp
      · unfold Instr.sameNow at hq
        split at hq
        · rename_i q1 k1 a k2 b2 heq
          split at hq
          · rename_i hkk
            cases hq
            subst hkk
            have := run_equalIn_int w 9999 t k1 q1 a b2 hkd
            rw [heq, show (9984 + 16 : Nat) = 9999 + 1 from rfl, this] at he
            cases he; rfl
          · cases hq
        · rename_i a b2 heq
          cases hq
          have := run_equalIn_string w 9999 t a b2 hkd
          rw [heq, show (9984 + 16 : Nat) = 9999 + 1 from rfl, this, ← beq_toListBytes] at he
          cases he; rfl
        · rename_i a b2 heq
          cases hq
          have := run_equalIn_bool w 9999 t a b2 hkd
          rw [heq, show (9984 + 16 : Nat) = 9999 + 1 from rfl, this] at he
          cases he; rfl
        · cases hq
    cases b with
    | true =>
      simp only [cond_true] at h
      refine ⟨_, h, fun j u hj => by cases hj; simp, fun ι rk ents hk he w => ?_⟩
      cases he with
      | cons hm ht =>
        obtain ⟨h1, h2⟩ := head ι rk _ _ hk hm w
        refine ⟨⟨some (i, _), by rw [h1, if_pos rfl], show _ = _ ∧ _ from ⟨rfl, hm.2⟩⟩, fun kd hkd o'' ho => ?_⟩
        unfold Instr.findNow at ho
        split at ho
        · cases ho; rw [h1, if_pos rfl]
        · rename_i hq; have := h2 kd hkd _ hq; cases this
        · cases ho
    | false =>
      simp only [cond_false] at h
      obtain ⟨o, h, hj, ih⟩ := gfind_sim (es := es) h
      refine ⟨o, h, fun j u e => by have := hj j u e; simp; omega, fun ι rk ents hk he w => ?_⟩
      cases he with
      | cons hm ht =>
        obtain ⟨h1, h2⟩ := head ι rk _ _ hk hm w
        obtain ⟨⟨o', q1, q2⟩, q3⟩ := ih ι rk _ hk ht w
        refine ⟨⟨o', by rw [h1, if_neg (by simp)]; exact q1, q2⟩, fun kd hkd o'' ho => ?_⟩
        rw [h1, if_neg (by simp)]
        unfold Instr.findNow at ho
        split at ho
        · rename_i hq; have := h2 kd hkd _ hq; cases this
        · exact q3 kd hkd o'' ho
        · cases ho
theorem findKey_sim {t : TypeId} {k : Value} {es : List (Value × Value)} {K : Option (Nat × Value) → Option β} (hd : (P.underlying t).isSome = true) (h : gfind P t k es 0 K = some r) :
    ∃ o, K o = some r ∧ (∀ j v, o = some (j, v) → j < es.length) ∧ ∀ ι rk ents, VR ι k rk → All2 (MR ι) es ents → ∀ w, ∃ o', (Instr.findKey t rk ents).run P w = .ok o' w ∧ FR ι o o' := by
  obtain ⟨o, h, hj, hs⟩ := gfind_sim h
  refine ⟨o, h, fun j v e => by have := hj j v e; omega, fun ι rk ents hk he w => ?_⟩
  obtain ⟨⟨o', q1, q2⟩, q3⟩ := hs ι rk ents hk he w
  obtain ⟨kd, hkd⟩ := Option.isSome_iff_exists.1 hd
  refine ⟨o', ?_, q2⟩
  unfold Instr.findKey
  simp only [Sem.run_bind, run_underlying hkd, Result.andThen_ok]
  cases hf : Instr.findNow kd rk ents 0 with
  | none => exact q1
  | some o'' =>
    have := q3 kd hkd o'' hf
    rw [q1] at this
    cases this
    simp
theorem getObj_mapG {w : World} {b : Nat} {ents : Array MapEntry} {c : Nat} (hb : w.heap[b]? = some (.map ents c)) : (getObj b).run P w = .ok (.map ents c) w := by simp [getObj, Sem.run, hb]
theorem gkeyC_und {d : Nat} {t : TypeId} {x : Value} {K : Option β} (h : gkeyC P d t x K = some r) : (P.underlying t).isSome = true := by
  cases d with
  | zero => cases h
  | succ d =>
    unfold gkeyC at h
    split at h <;> first | (rename_i hu; rw [hu]; rfl) | (rename_i hu; simp [hu]) | skip
    all_goals first | (cases h; done) | simp_all
theorem map_at {ι : Inj} {h : GH} {w : World} (hr : HR ι h w) {g : Nat} {p : Pl} {es : List (Value × Value)} (hg : g < h.next) (hp : ι g = .live p) (hb : h.get g = some (.map es)) : MapOk ι p es w := by
  have := hr.obj g p hg hp; rw [hb] at this; exact this
theorem VR.someM {ι : Inj} {g : Nat} {rv : Value} (h : VR ι (.map (some g)) rv) : (∃ p, ι g = .live p ∧ rv = .map (some p.blk)) ∨ (ι g = .dead ∧ ∃ q, rv = .map (some q)) := by
  cases h with
  | same _ h => cases h
  | map _ p h => exact .inl ⟨p, h, rfl⟩
  | mapD _ q h => exact .inr ⟨h, q, rfl⟩
theorem gmapOf_some {x : Value} {h : GH} {K : List (Value × Value) → Option β} (hh : gmapOf x h K = some r) :
    ∃ es, K es = some r ∧ ((x = .map none ∧ es = []) ∨ ∃ g, x = .map (some g) ∧ g < h.next ∧ h.get g = some (.map es)) := by
  unfold gmapOf at hh
  split at hh
  · exact ⟨[], hh, .inl ⟨rfl, rfl⟩⟩
  · rename_i g
    split at hh
    · rename_i es hl
      obtain ⟨h1, h2⟩ := look_get hl
      exact ⟨es, hh, .inr ⟨g, rfl, h1, h2⟩⟩
    · cases hh
  · cases hh
theorem castV0_sim {t : TypeId} {v : Value} {K : Value → Option β} (hg : castV0 P t v K = some r) : K v = some r := by
  unfold castV0 at hg
  split at hg
  · cases hg
  · rename_i d hd
    cases ha : aggD d with
    | true => rw [ha] at hg; cases hg
    | false =>
      rw [ha] at hg
      simp only [cond_false] at hg
      obtain ⟨v', hv, hg⟩ := exK_some hg
      cases hv
      exact hg
theorem glookup_sim {xT : TypeId} {x k : Value} {ok : Bool} {h : GH} {K : Value → Option β} (hh : glookup P xT x k ok h K = some r) :
    ∃ v, K v = some r ∧ ∀ ι w rx rk, HR ι h w → VR ι x rx → VR ι k rk → ∃ rv, VR ι v rv ∧ (Instr.lookup xT rx rk ok).run P w = .ok rv w := by
  unfold glookup at hh
  split at hh
  · rename_i kt et hu
    obtain ⟨es, hh, hes⟩ := gmapOf_some hh
    have hkt := gkeyC_und hh
    obtain ⟨hh, hck⟩ := gkeyC_sim 16 hh
    obtain ⟨o, hh, hj, hs⟩ := findKey_sim hkt hh
    have hreal : ∀ ι w rx, HR ι h w → VR ι x rx → ∃ ents : Array MapEntry, All2 (MR ι) es ents.toList ∧ ((rx = .map none ∧ ents = #[]) ∨ ∃ b c, rx = .map (some b) ∧ w.heap[b]? = some (.map ents c)) := fun ι w rx hr hx => by
      rcases hes with ⟨rfl, rfl⟩ | ⟨g, rfl, h1, h2⟩
      · cases hx with
        | same => exact ⟨#[], .nil, .inl ⟨rfl, rfl⟩⟩
      · rcases hx.someM with ⟨p, hp, rfl⟩ | ⟨hd, _⟩
        · obtain ⟨_, _, _, ents, c, h4, h5⟩ := map_at hr h1 hp h2
          exact ⟨ents, h5, .inr ⟨_, c, rfl, h4⟩⟩
        · rw [hr.dead g h1 hd] at h2; cases h2
    have key : ∀ (v : Value), (∀ ι o', FR ι o o' → ∃ rv, VR ι (bif ok then .tuple #[v, .bool o.isSome] else v) rv ∧ ∀ w, (match o' with | some (_, v) => pure (if ok then .tuple #[v, .bool true] else v) | none => do { let z ← zeroValue et; pure (if ok then .tuple #[z, .bool false] else z) } : Sem Value).run P w = .ok rv w) →
        ∀ ι w rx rk, HR ι h w → VR ι x rx → VR ι k rk → ∃ rv, VR ι (bif ok then .tuple #[v, .bool o.isSome] else v) rv ∧ (Instr.lookup xT rx rk ok).run P w = .ok rv w := fun v hv ι w rx rk hr hx hk => by
      obtain ⟨ents, h1, h2⟩ := hreal ι w rx hr hx
      obtain ⟨o', h3, h4⟩ := hs ι rk ents.toList hk h1 w
      obtain ⟨rv, h5, h6⟩ := hv ι o' h4
      refine ⟨rv, h5, ?_⟩
      have h7 := hck 9984 ι rk hk ents.isEmpty w
      have h8 := h6 w
      unfold Instr.lookup
      rcases h2 with ⟨rfl, rfl⟩ | ⟨b, c, rfl, hb⟩
      · simp only [Sem.run_bind, run_underlying hu, Result.andThen_ok, Sem.run_pure, h7, h3]
        cases o' with
        | none => cases ok <;> simpa using h8
        | some ju => cases ok <;> simpa using h8
      · simp only [Sem.run_bind, run_underlying hu, Result.andThen_ok, getObj_mapG hb, Sem.run_pure, h7, h3]
        cases o' with
        | none => cases ok <;> simpa using h8
        | some ju => cases ok <;> simpa using h8
    cases o with
    | some iv =>
      obtain ⟨i, v⟩ := iv
      have hh := castV0_sim hh
      refine ⟨_, hh, key v fun ι o' hf => ?_⟩
      cases o' with
      | none => exact hf.elim
      | some ju =>
        obtain ⟨j, u⟩ := ju
        refine ⟨if ok then .tuple #[u, .bool true] else u, ?_, fun w => by simp⟩
        cases ok
        · exact hf.2
        · exact .mkTup (.cons hf.2 (.cons (.same _ rfl) .nil))
    | none =>
      simp only [] at hh
      split at hh
      · rename_i z hz
        obtain ⟨hp, hh⟩ := cond_none hh
        refine ⟨_, hh, key z fun ι o' hf => ?_⟩
        cases o' with
        | some _ => exact hf.elim
        | none =>
          refine ⟨if ok then .tuple #[z, .bool false] else z, ?_, fun w => by simp [zero_run hz]⟩
          cases ok
          · exact .plainC hp ι
          · exact .mkTup (.cons (.plainC hp ι) (.cons (.same _ rfl) .nil))
      · cases hh
  · cases hh
theorem nset_eq {α : Type} (l : List α) : ∀ (i : Nat) (y : α), nset l i y = l.set i y := by
  induction l with
  | nil => intro i y; cases i <;> rfl
  | cons x r ih => intro i y; cases i with | zero => rfl | succ i => simp [nset, ih]
theorem All2.set {α γ : Type} {R : α → γ → Prop} {as : List α} {cs : List γ} (h : All2 R as cs) : ∀ (i : Nat) {a : α} {c : γ}, R a c → All2 R (as.set i a) (cs.set i c) := by
  induction h with
  | nil => intro i a c _; exact .nil
  | cons h t ih => intro i a c hr; cases i with | zero => exact .cons hr t | succ i => exact .cons h (ih i hr)
theorem setObj_mapG {w : World} {b : Nat} {ents : Array MapEntry} {c : Nat} (o : Obj) (hb : w.heap[b]? = some (.map ents c)) : (setObj b o).run P w = .ok () { w with heap := w.heap.setIfInBounds b o } := by
  simp [setObj, Sem.run, hb]
theorem gmapPut_sim {mT : TypeId} {x k v : Value} {h : GH} {K : GH → Option β} (hh : gmapPut P mT x k v h K = some r) :
    ∃ h', K h' = some r ∧ h'.next = h.next ∧ ∀ ι w rx rk rv, Good ι h h'.next w → VR ι x rx → VR ι k rk → VR ι v rv → ∃ w', (Instr.mapUpdate mT rx rk rv).run P w = .ok () w' ∧ Stp h ι w h' ι w' := by
  unfold gmapPut at hh
  split at hh
  · rename_i kt et g hu
    split at hh
    · rename_i es hl
      obtain ⟨hg, hb⟩ := look_get hl
      have hkt := gkeyC_und hh
      obtain ⟨hh, hck⟩ := gkeyC_sim 16 hh
      obtain ⟨o, hh, hj, hs⟩ := findKey_sim hkt hh
      have hreal : ∀ ι w rx, HR ι h w → VR ι (.map (some g)) rx → ∃ p, ι g = .live p ∧ rx = .map (some p.blk) ∧ ∃ ents c, w.heap[p.blk]? = some (.map ents c) ∧ All2 (MR ι) es ents.toList := fun ι w rx hr hx => by
        rcases hx.someM with ⟨p, hp, rfl⟩ | ⟨hd, _⟩
        · obtain ⟨_, _, _, ents, c, h4, h5⟩ := map_at hr hg hp hb
          exact ⟨p, hp, rfl, ents, c, h4, h5⟩
        · rw [hr.dead g hg hd] at hb; cases hb
      cases o with
      | none =>
        refine ⟨_, hh, rfl, fun ι w rx rk rv gd hx hk hv => ?_⟩
        obtain ⟨p, hp, rfl, ents, c, h1, h2⟩ := hreal ι w rx gd.hr hx
        obtain ⟨o', h3, h4⟩ := hs ι rk ents.toList hk h2 w
        have h7 := hck 9984 ι rk hk false w
        cases o' with
        | some _ => exact h4.elim
        | none =>
          refine ⟨_, ?_, putmap_stp gd.hr hg hp hb (ents.push { key := rk, val := rv, born := c }) (c + 1) ?_⟩
          · unfold Instr.mapUpdate
            simp only [Sem.run_bind, run_underlying hu, Result.andThen_ok, getObj_mapG h1, h7, h3, setObj_mapG _ h1]
          · rw [Array.toList_push]
            exact h2.append (.cons ⟨hk, hv⟩ .nil)
      | some iv =>
        obtain ⟨i, v0⟩ := iv
        simp only [] at hh
        split at hh
        · rename_i k' v' hn
          obtain ⟨hsm, hh⟩ := cond_none hh
          refine ⟨_, hh, rfl, fun ι w rx rk rv gd hx hk hv => ?_⟩
          obtain ⟨p, hp, rfl, ents, c, h1, h2⟩ := hreal ι w rx gd.hr hx
          obtain ⟨o', h3, h4⟩ := hs ι rk ents.toList hk h2 w
          have h7 := hck 9984 ι rk hk false w
          obtain ⟨e, he, hme⟩ := h2.get hn
          have hei : ents[i]? = some e := by rw [nth_eq] at he; simpa using he
          have hsb := sameG_spec hsm ι e.key rk hme.1 hk
          cases o' with
          | none => exact h4.elim
          | some ju =>
            obtain ⟨j, u⟩ := ju
            obtain ⟨rfl, _⟩ := (h4 : i = j ∧ _)
            refine ⟨_, ?_, putmap_stp gd.hr hg hp hb (ents.modify i fun e => { e with key := rk, val := rv }) c ?_⟩
            · unfold Instr.mapUpdate
              simp only [Sem.run_bind, run_underlying hu, Result.andThen_ok, getObj_mapG h1, h7, h3, hei, Option.map_some, Option.getD_some, Instr.keyThatStays, hsb, if_true, Sem.run_pure, setObj_mapG _ h1]
            · have : (ents.modify i fun e => { e with key := rk, val := rv }).toList = ents.toList.set i { e with key := rk, val := rv } := by
                apply List.ext_getElem?
                intro n
                rw [Array.getElem?_toList, Array.getElem?_modify, List.getElem?_set]
                by_cases hni : i = n
                · subst hni
                  obtain ⟨q1, q2⟩ := Array.getElem?_eq_some_iff.1 hei
                  simp [hei, q1, q2]
                · simp [hni]
              rw [this, nset_eq]
              exact h2.set i ⟨hk, hv⟩
        · cases hh
    · cases hh
  · cases hh
end Go.Proofs.Ytephmpbccajaaaa.Gx

