/- The document's plan is the program's; what was updated is kept as it is. In plain words. -/
import Derived.Test.YtgobiibalepaaaaP31b
import Derived.Test.YtgobiibalepaaaaQx7
import Derived.Test.YtgobiibalepaaaaQx8
import Derived.Test.YtgobiibalepaaaaQx9
namespace Go.Proofs.Ytgobiibalepaaaa.Q
open Go.RowKit Go.Proofs.YtgobiibalepaaaaW.PrintWords Go.Proofs.YtgobiibalepaaaaW.PrintLast Go.Proofs.YtgobiibalepaaaaW.PrintMore

abbrev Ar := S55
def actR (a : Int × Int × Int) : Ar := ⟨a.1, a.2.1, a.2.2⟩
abbrev ltR (o n : List Th) : Nat → Nat → Bool := ltT (o.map convT) (n.map convT)
theorem later_f (a b : Th) : duffelref31_Later.f a.f0 a.f1 a.f2 b.f0 b.f1 b.f2 = some (laterT (convT a) (convT b)) := by
  show (if a.f2 > b.f2 then some true else if a.f2 = b.f2 then some (decide (a.f1 > b.f1)) else some false) = some (if a.f2 = b.f2 then decide (b.f1 < a.f1) else decide (b.f2 < a.f2))
  by_cases h : a.f2 = b.f2
  · rw [if_neg (by omega), if_pos h, if_pos h]
  · rw [if_neg h, if_neg h]
    by_cases h2 : a.f2 > b.f2
    · rw [if_pos h2, decide_eq_true (show b.f2 < a.f2 from h2)]
    · rw [if_neg h2, decide_eq_false (show ¬ b.f2 < a.f2 from h2)]
theorem conv_at {l : List Th} {i : Nat} (h : i < l.length) : (l.map convT).getD i z54 = convT (rd_T36 l (i : Int)) := by
  rw [rdT_get h]
  simp [List.getD_eq_getElem?_getD, h]
set_option maxRecDepth 10000 in
theorem planref_f {m : Int} {o n : List Th} (h2 : 2 ≤ m) (h4 : m ≤ 4) (ho : thOk o) (hn : thOk n) :
    Ev (fun k => duffelref31_Plan.f k m o n) ((olds m (keysR o) (keysR n) (ltR o n) o.length ++ news m (keysR o) (keysR n) n.length).map actR, 0) := by
  have ho1 := ho.1
  have hn1 := hn.1
  refine Ev.congr (fun k => by rw [duffelref31_Plan.f, if_neg (by omega), decide_eq_false (by omega)]) ?_
  refine evS (fun k => by rw [duffelref31_Plan.j0, if_neg (by simp)]) ?_
  have hol : ∀ i, (olds m (keysR o) (keysR n) (ltR o n) i).length = i := by intro i; simp [olds]
  have hB : Ev (fun k => duffelref31_Plan.l1 k m o n ((olds m (keysR o) (keysR n) (ltR o n) o.length).map actR) 0) ((olds m (keysR o) (keysR n) (ltR o n) o.length ++ news m (keysR o) (keysR n) n.length).map actR, 0) := by
    have key := ev_up (n := n.length) (r := ((olds m (keysR o) (keysR n) (ltR o n) o.length ++ news m (keysR o) (keysR n) n.length).map actR, 0)) (fun k j => duffelref31_Plan.l1 k m o n ((olds m (keysR o) (keysR n) (ltR o n) o.length ++ news m (keysR o) (keysR n) j).map actR) (j : Int)) ?_ ?_ 0 (by omega)
    · simpa [news] using key
    · refine evS (fun k => by rw [duffelref31_Plan.l1, if_neg (by omega)]) ?_
      exact evS (fun k => by rw [duffelref31_Plan.j5, if_neg (by simp)]) evR
    · intro j hj ih
      have hlen : ((olds m (keysR o) (keysR n) (ltR o n) o.length ++ news m (keysR o) (keysR n) j).map actR).length < 5864062014805 := by
        have := news_len m (keysR o) (keysR n) j
        simp [hol]; omega
      refine evS (fun k => by rw [duffelref31_Plan.l1, if_pos (by omega)]) ?_
      rw [← wrap_inc (by omega)] at ih
      by_cases h3 : m = 3
      · have hno : isNew m (keysR o) (keysR n) j = false := by simp [isNew, h3]
        rw [news_no hno] at ih
        refine evS (fun k => by rw [duffelref31_Plan.j5, if_neg (by simp [h3])]) ?_
        -- Freshen: nothing new at all
        have hz : ∀ q, news m (keysR o) (keysR n) q = [] := by intro q; simp [news, isNew, h3]
        exact evE evR (by rw [hz, hz])
      · refine evS (fun k => by rw [duffelref31_Plan.j5, if_pos (by simp [h3]), if_pos (by omega), if_pos (by omega)]) ?_
        refine evB (first_f o _ ho (thOk_rd hn hj)) ?_
        have hk : (keysR n).getD j [] = foldN (rd_T36 n (j : Int)).f0 := keysR_at hj
        by_cases hf : fstU (keysR o) (foldN (rd_T36 n (j : Int)).f0) o.length = none
        · refine evP (optI_neg.2 hf) ?_
          refine evB (last_f n _ hn (thOk_rd hn hj)) ?_
          by_cases hl : lstU (keysR n) (foldN (rd_T36 n (j : Int)).f0) n.length = some j
          · have hy : isNew m (keysR o) (keysR n) j = true := by simp only [isNew, decide_eq_true_eq]; rw [hk, keysR_len, keysR_len]; exact ⟨h3, hf, hl⟩
            refine evP (by rw [hl]; rfl) (evP hlen ?_)
            rw [news_yes hy, ← List.append_assoc, List.map_append] at ih
            exact ih
          · have hno : isNew m (keysR o) (keysR n) j = false := by simp only [isNew, decide_eq_false_iff_not]; rw [hk, keysR_len, keysR_len]; exact fun h => hl h.2.2
            rw [news_no hno] at ih
            refine evN ?_ ih
            intro he
            apply hl
            cases hc : lstU (keysR n) (foldN (rd_T36 n (j : Int)).f0) n.length with
            | none => rw [hc] at he; simp only [optI] at he; omega
            | some q => rw [hc] at he; simp only [optI] at he; congr 1; omega
        · have hno : isNew m (keysR o) (keysR n) j = false := by simp only [isNew, decide_eq_false_iff_not]; rw [hk, keysR_len, keysR_len]; exact fun h => hf h.2.1
          rw [news_no hno] at ih
          exact evN (fun h => hf (optI_neg.1 h)) ih
  have key := ev_up (n := o.length) (r := ((olds m (keysR o) (keysR n) (ltR o n) o.length ++ news m (keysR o) (keysR n) n.length).map actR, 0)) (fun k i => duffelref31_Plan.l0 k m o n ((olds m (keysR o) (keysR n) (ltR o n) i).map actR) (i : Int)) ?_ ?_ 0 (by omega)
  · simpa [olds] using key
  · exact evS (fun k => by rw [duffelref31_Plan.l0, if_neg (by omega)]) hB
  · intro i hi ih
    have hlen : ((olds m (keysR o) (keysR n) (ltR o n) i).map actR).length < 5864062014805 := by simp [hol]; omega
    rw [← wrap_inc (by omega), olds_succ, List.map_append] at ih
    have hk : (keysR o).getD i [] = foldN (rd_T36 o (i : Int)).f0 := keysR_at hi
    have hact : actOld m (keysR o) (keysR n) (ltR o n) i = (match lstU (keysR n) (foldN (rd_T36 o (i : Int)).f0) n.length with
        | none => if m = 4 then (4, (i : Int), -1) else (1, (i : Int), -1)
        | some j => if fstU (keysR o) (foldN (rd_T36 o (i : Int)).f0) o.length = some i ∧ (m = 1 ∨ ltR o n j i = true) then (2, (i : Int), (j : Int)) else (1, (i : Int), -1)) := by
      unfold actOld; rw [hk, keysR_len, keysR_len]; rfl
    refine evS (fun k => by rw [duffelref31_Plan.l0, if_pos (by omega), if_pos (by omega)]) ?_
    refine evB (last_f n _ hn (thOk_rd ho hi)) ?_
    cases hL : lstU (keysR n) (foldN (rd_T36 o (i : Int)).f0) n.length with
    | none =>
      rw [hL] at hact
      simp only at hact
      refine evP (by simp [optI]) ?_
      by_cases hm : m = 4
      · rw [if_pos hm] at hact
        rw [hact] at ih
        refine evS (fun k => by rw [duffelref31_Plan.j2, if_pos (by simpa using hm)]) ?_
        refine evS (fun k => by rw [duffelref31_Plan.j3, if_neg (by simp [optI])]) ?_
        exact evP hlen ih
      · rw [if_neg hm] at hact
        rw [hact] at ih
        refine evS (fun k => by rw [duffelref31_Plan.j2, if_neg (by simpa using hm)]) ?_
        refine evS (fun k => by rw [duffelref31_Plan.j3, if_neg (by simp [optI])]) ?_
        exact evP hlen ih
    | some j =>
      rw [hL] at hact
      simp only at hact
      have hjn := lstU_lt hL
      refine evN (by simp [optI]) ?_
      refine evS (fun k => by rw [duffelref31_Plan.j2, if_neg (by simp)]) ?_
      refine evS (fun k => by rw [duffelref31_Plan.j3, if_pos (by simp [optI]), if_pos (by omega), if_pos (by omega)]) ?_
      refine evB (first_f o _ ho (thOk_rd ho hi)) ?_
      by_cases hF : fstU (keysR o) (foldN (rd_T36 o (i : Int)).f0) o.length = some i
      · refine evP (by rw [hF]; rfl) ?_
        refine evN (by omega) (evP (by simp [optI]) (evP (by simp only [optI]; omega) ?_))
        have hlt : ltR o n j i = laterT (convT (rd_T36 n (j : Int))) (convT (rd_T36 o (i : Int))) := by
          unfold ltR ltT
          rw [conv_at hjn, conv_at hi]
        rw [show optI (some j) = (j : Int) from rfl]
        refine evC (later_f _ _) ?_
        rw [← hlt]
        by_cases hc : ltR o n j i = true
        · rw [if_pos ⟨hF, .inr hc⟩] at hact
          rw [hact] at ih
          exact evP hc (evP hlen ih)
        · rw [if_neg (fun h => hc (h.2.resolve_left (by omega)))] at hact
          rw [hact] at ih
          exact evN hc (evP hlen ih)
      · rw [if_neg (fun h => hF h.1)] at hact
        rw [hact] at ih
        refine evN ?_ (evP hlen ih)
        intro he
        apply hF
        cases hc : fstU (keysR o) (foldN (rd_T36 o (i : Int)).f0) o.length with
        | none => rw [hc] at he; simp only [optI] at he; omega
        | some q => rw [hc] at he; simp only [optI] at he; congr 1; omega
theorem sameA_f (T : List (Int × Int × Int)) (hT : T.length ≤ 5000) : Ev (fun k => duffellaw31_same.f k (T.map actS) (T.map actR)) true := by
  refine Ev.congr (fun k => by rw [duffellaw31_same.f, if_pos (by simp)]) ?_
  have key := ev_up (n := T.length) (r := true) (fun k i => duffellaw31_same.l0 k (T.map actS) (T.map actR) (i : Int)) ?_ ?_ 0 (by omega)
  · exact key
  · exact evS (fun k => by rw [duffellaw31_same.l0, if_neg (by simp)]) evR
  · intro i hi ih
    have e1 : rd_T32 (T.map actS) (i : Int) = actS T[i] := by
      show (T.map actS).getD i _ = _
      simp [List.getD_eq_getElem?_getD, hi]
    have e2 : rd_T55 (T.map actR) (i : Int) = actR T[i] := by
      show (T.map actR).getD i _ = _
      simp [List.getD_eq_getElem?_getD, hi]
    refine evS (fun k => by rw [duffellaw31_same.l0, if_pos (by simp; omega), if_pos (by omega), if_pos (by simp; omega), e1, e2, wrap_inc (by omega)]) ?_
    exact evP rfl (evP rfl (evP rfl ih))
/-! ### what stands behind the acts -/
def elemsOf (o n : List Th) (a : Int × Int × Int) : List Th :=
  if a.1 = 1 then [rd_T36 o a.2.1] else if a.1 = 2 ∨ a.1 = 3 then [rd_T36 n a.2.2] else []
theorem elemsOf_le (o n : List Th) (a : Int × Int × Int) : (elemsOf o n a).length ≤ 1 := by
  unfold elemsOf
  split
  · simp
  · split <;> simp
def actIn (o n : List Th) (a : Int × Int × Int) : Prop := (a.1 = 1 → 0 ≤ a.2.1 ∧ a.2.1 < o.length) ∧ (a.1 = 2 ∨ a.1 = 3 → 0 ≤ a.2.2 ∧ a.2.2 < n.length)
theorem after_f (o n : List Th) (T : List (Int × Int × Int)) (hT : T.length ≤ 5000) (hin : ∀ a ∈ T, actIn o n a) : Ev (fun k => duffellaw31_after.f k (T.map actS) o n) (T.flatMap (elemsOf o n)) := by
  refine Ev.congr (fun k => by rw [duffellaw31_after.f]) ?_
  have hl : ∀ i, ((T.take i).flatMap (elemsOf o n)).length ≤ i := by
    intro i
    induction i with
    | zero => simp
    | succ i ih =>
      by_cases h : i < T.length
      · rw [List.take_succ_eq_append_getElem h, List.flatMap_append, List.length_append]
        have := elemsOf_le o n T[i]
        have e2 : List.flatMap (elemsOf o n) [T[i]] = elemsOf o n T[i] := by simp
        rw [e2]; omega
      · rw [List.take_of_length_le (by omega)]
        rw [List.take_of_length_le (by omega)] at ih
        omega
  have key := ev_up (n := T.length) (r := T.flatMap (elemsOf o n)) (fun k i => duffellaw31_after.l0 k (T.map actS) o n ((T.take i).flatMap (elemsOf o n)) (i : Int)) ?_ ?_ 0 (by omega)
  · simpa using key
  · refine evS (fun k => by rw [duffellaw31_after.l0, if_neg (by simp)]) ?_
    exact evE evR (by rw [List.take_length])
  · intro i hi ih
    have e1 : rd_T32 (T.map actS) (i : Int) = actS T[i] := by
      show (T.map actS).getD i _ = _
      simp [List.getD_eq_getElem?_getD, hi]
    have hii := hin T[i] (List.getElem_mem hi)
    have hli := hl i
    rw [List.take_succ_eq_append_getElem hi, List.flatMap_append, ← wrap_inc (by omega)] at ih
    generalize T[i] = a at e1 hii ih
    have e2 : List.flatMap (elemsOf o n) [a] = elemsOf o n a := by simp
    rw [e2] at ih
    refine evS (fun k => by rw [duffellaw31_after.l0, if_pos (by simp; omega), if_pos (by omega), e1]) ?_
    unfold elemsOf at ih
    by_cases h1 : a.1 = 1
    · rw [if_pos h1] at ih
      have := hii.1 h1
      exact evP h1 (evP this.1 (evP this.2 (evP (by omega) ih)))
    · rw [if_neg h1] at ih
      refine evN h1 ?_
      by_cases h2 : a.1 = 2
      · rw [if_pos (.inl h2)] at ih
        have := hii.2 (.inl h2)
        exact evP h2 (evP this.1 (evP this.2 (evP (by omega) ih)))
      · refine evN h2 ?_
        by_cases h3 : a.1 = 3
        · rw [if_pos (.inr h3)] at ih
          have := hii.2 (.inr h3)
          exact evP h3 (evP this.1 (evP this.2 (evP (by omega) ih)))
        · rw [if_neg (by omega), List.append_nil] at ih
          exact evN h3 ih
open Go.RowKit Go.Proofs.YtgobiibalepaaaaW.PrintWords Go.Proofs.YtgobiibalepaaaaW.PrintLast Go.Proofs.YtgobiibalepaaaaW.PrintMore

theorem fstU_at {ks : List (List Int)} {k : List Int} {n j : Nat} (h : fstU ks k n = some j) : ks.getD j [] = k ∧ ∀ i, i < j → ks.getD i [] ≠ k := by
  induction n with
  | zero => cases h
  | succ n ih =>
    rw [fstU] at h
    split at h
    · rename_i q hq
      have e : q = j := by injection h
      subst e
      exact ih hq
    · rename_i hno
      split at h
      · rename_i hk
        have e : n = j := by injection h
        subst e
        refine ⟨hk, ?_⟩
        clear ih h hk
        intro i hi
        induction n with
        | zero => omega
        | succ n ih =>
          rw [fstU] at hno
          split at hno
          · cases hno
          · rename_i hno2
            split at hno
            · cases hno
            · rename_i hne
              rcases Nat.lt_or_ge i n with h1 | h1
              · exact ih hno2 h1
              · obtain rfl : i = n := by omega
                exact hne
      · cases h
theorem fstU_no {ks : List (List Int)} {k : List Int} {n : Nat} (h : fstU ks k n = none) : ∀ i, i < n → ks.getD i [] ≠ k := by
  induction n with
  | zero => intro i hi; omega
  | succ n ih =>
    rw [fstU] at h
    split at h
    · cases h
    · rename_i hno
      split at h
      · cases h
      · rename_i hne
        intro i hi
        rcases Nat.lt_or_ge i n with h1 | h1
        · exact ih hno i h1
        · obtain rfl : i = n := by omega
          exact hne
theorem fstU_is {ks : List (List Int)} {n q : Nat} (hq : q < n) (h : ∀ i, i < q → ks.getD i [] ≠ ks.getD q []) : fstU ks (ks.getD q []) n = some q := by
  cases hc : fstU ks (ks.getD q []) n with
  | none => exact absurd rfl (fstU_no hc q hq)
  | some j =>
    obtain ⟨h1, h2⟩ := fstU_at hc
    rcases Nat.lt_trichotomy j q with h3 | h3 | h3
    · exact absurd h1 (h j h3)
    · rw [h3]
    · exact absurd rfl (h2 q h3)
theorem lstU_at {ks : List (List Int)} {k : List Int} {n j : Nat} (h : lstU ks k n = some j) : ks.getD j [] = k := by
  induction n with
  | zero => cases h
  | succ n ih =>
    rw [lstU] at h
    split at h
    · rename_i hk
      have e : n = j := by injection h
      subst e
      exact hk
    · exact ih h
section
variable {α β : Type} {e : α → List β}
theorem flat_split (he : ∀ a, (e a).length ≤ 1) : ∀ (T : List α) (i : Nat) (hi : i < (T.flatMap e).length), ∃ q, ∃ hq : q < T.length, e T[q] = [(T.flatMap e)[i]] ∧ ((T.take q).flatMap e).length = i := by
  intro T
  induction T with
  | nil => intro i hi; simp at hi
  | cons a T ih =>
    intro i hi
    have h1 := he a
    have hcons : (a :: T).flatMap e = e a ++ T.flatMap e := by simp
    rcases Nat.lt_or_ge i (e a).length with h | h
    · refine ⟨0, by simp, ?_, by simp; omega⟩
      obtain ⟨x, hx⟩ : ∃ x, e a = [x] := by
        match hea : e a, h1 with
        | [], _ => rw [hea] at h; simp at h
        | [x], _ => exact ⟨x, rfl⟩
      have h0 : i = 0 := by rw [hx] at h; simpa using h
      subst h0
      simp [hx]
    · have hlt : i - (e a).length < (T.flatMap e).length := by rw [hcons, List.length_append] at hi; omega
      obtain ⟨q, hq, h3, h4⟩ := ih (i - (e a).length) hlt
      refine ⟨q + 1, by simp; omega, ?_, ?_⟩
      · have : (a :: T)[q + 1]'(by simp; omega) = T[q] := by simp
        rw [this, h3]
        congr 1
        simp only [hcons]
        rw [List.getElem_append_right h]
      · rw [List.take_succ_cons]
        have : (a :: T.take q).flatMap e = e a ++ (T.take q).flatMap e := by simp
        rw [this, List.length_append, h4]
        omega
theorem flat_pos {T : List α} {q : Nat} (hq : q < T.length) {x : β} (hx : e T[q] = [x]) : (T.flatMap e)[((T.take q).flatMap e).length]? = some x := by
  have h : T = T.take q ++ T[q] :: T.drop (q + 1) := by
    rw [List.getElem_cons_drop]
    exact (List.take_append_drop q T).symm
  conv => lhs; arg 1; rw [h]
  rw [List.flatMap_append, List.getElem?_append_right (Nat.le_refl _)]
  have : (T[q] :: T.drop (q + 1)).flatMap e = e T[q] ++ (T.drop (q + 1)).flatMap e := List.flatMap_cons
  rw [this, hx]
  simp
theorem flat_lt {T : List α} {p q : Nat} (hpq : p < q) (hq : q < T.length) {x : β} (hx : e (T[p]'(by omega)) = [x]) : ((T.take p).flatMap e).length < ((T.take q).flatMap e).length := by
  have h : T.take q = T.take p ++ (T[p]'(by omega) :: (T.take q).drop (p + 1)) := by
    have h1 : p < (T.take q).length := by simp; omega
    have h2 := (List.take_append_drop p (T.take q)).symm
    rw [List.take_take, Nat.min_eq_left (by omega), List.drop_eq_getElem_cons h1] at h2
    simpa using h2
  rw [h, List.flatMap_append, List.length_append]
  have : (T[p]'(by omega) :: (T.take q).drop (p + 1)).flatMap e = e (T[p]'(by omega)) ++ ((T.take q).drop (p + 1)).flatMap e := List.flatMap_cons
  rw [this, hx]
  simp
end
section
variable {m : Int} {o n : List Th}
def actsT (m : Int) (o n : List Th) : List (Int × Int × Int) := olds m (keysR o) (keysR n) (ltR o n) o.length ++ news m (keysR o) (keysR n) n.length
theorem actsT_old {q : Nat} (h : q < o.length) (hq : q < (actsT m o n).length) : (actsT m o n)[q] = actOld m (keysR o) (keysR n) (ltR o n) q := by
  have h2 : q < (olds m (keysR o) (keysR n) (ltR o n) o.length).length := by simpa [olds] using h
  have e : ∀ (A B : List (Int × Int × Int)) (hA : q < (A ++ B).length) (h : q < A.length), (A ++ B)[q] = A[q] := fun A B hA h => List.getElem_append_left h
  exact (e _ _ hq h2).trans (by simp [olds])
theorem actsT_len : o.length ≤ (actsT m o n).length ∧ (actsT m o n).length ≤ o.length + n.length := by
  have := news_len m (keysR o) (keysR n) n.length
  simp [actsT, olds]; omega
theorem actsT_new {q : Nat} (h : o.length ≤ q) (hq : q < (actsT m o n).length) : ∃ j, j < n.length ∧ isNew m (keysR o) (keysR n) j = true ∧ (actsT m o n)[q] = (3, -1, (j : Int)) := by
  have h2 : (olds m (keysR o) (keysR n) (ltR o n) o.length).length ≤ q := by simpa [olds] using h
  have hm : (actsT m o n)[q] ∈ news m (keysR o) (keysR n) n.length := by
    have e : ∀ (A B : List (Int × Int × Int)) (hA : q < (A ++ B).length) (h : A.length ≤ q), (A ++ B)[q] ∈ B := fun A B hA h => by
      rw [List.getElem_append_right h]
      exact List.getElem_mem _
    exact e _ _ hq h2
  simp only [news, List.mem_map, List.mem_filter, List.mem_range] at hm
  obtain ⟨j, ⟨hj, hn⟩, he⟩ := hm
  exact ⟨j, hj, hn, he.symm⟩
theorem actsT_has {j : Nat} (hj : j < n.length) (hn : isNew m (keysR o) (keysR n) j = true) : ∃ q, ∃ hq : q < (actsT m o n).length, (actsT m o n)[q] = (3, -1, (j : Int)) := by
  have hm : (3, -1, (j : Int)) ∈ actsT m o n := by
    unfold actsT
    refine List.mem_append_right _ ?_
    simp only [news, List.mem_map, List.mem_filter, List.mem_range]
    exact ⟨j, ⟨hj, hn⟩, rfl⟩
  obtain ⟨q, hq, he⟩ := List.getElem_of_mem hm
  exact ⟨q, hq, he⟩
theorem elems_old {q j : Nat} (h : q < o.length) (hL : lstU (keysR n) ((keysR o).getD q []) n.length = some j) : ∃ x, elemsOf o n (actOld m (keysR o) (keysR n) (ltR o n) q) = [x] ∧ foldN x.f0 = (keysR o).getD q [] := by
  have hj := lstU_lt hL
  unfold actOld
  rw [keysR_len, hL]
  simp only
  split
  · refine ⟨rd_T36 n (j : Int), by simp [elemsOf], ?_⟩
    rw [← keysR_at hj]
    exact lstU_at hL
  · exact ⟨rd_T36 o (q : Int), by simp [elemsOf], (keysR_at h).symm⟩
theorem actsT_in : ∀ a ∈ actsT m o n, actIn o n a := by
  intro a ha
  obtain ⟨q, hq, rfl⟩ := List.getElem_of_mem ha
  rcases Nat.lt_or_ge q o.length with h | h
  · rw [actsT_old h hq]
    unfold actOld
    rw [keysR_len]
    cases hL : lstU (keysR n) ((keysR o).getD q []) n.length with
    | none =>
      simp only
      split <;> simp [actIn, h]
    | some j =>
      have := lstU_lt hL
      simp only
      split <;> simp [actIn, h, this]
  · obtain ⟨j, hj, _, e⟩ := actsT_new h hq
    rw [e]
    simp [actIn, hj]
def nextT (m : Int) (o n : List Th) : List Th := (actsT m o n).flatMap (elemsOf o n)
theorem nextT_len : (nextT m o n).length ≤ o.length + n.length := by
  have h : ∀ T : List (Int × Int × Int), (T.flatMap (elemsOf o n)).length ≤ T.length := by
    intro T
    induction T with
    | nil => simp
    | cons a T ih =>
      have h1 := elemsOf_le o n a
      have : (a :: T).flatMap (elemsOf o n) = elemsOf o n a ++ T.flatMap (elemsOf o n) := by simp
      rw [this, List.length_append, List.length_cons]
      omega
  have h1 := h (actsT m o n)
  have h2 := (actsT_len (m := m) (o := o) (n := n)).2
  unfold nextT
  omega
theorem nextT_ok (ho : thOk o) (hn : thOk n) (hl : o.length + n.length ≤ 1000) : thOk (nextT m o n) := by
  refine ⟨Nat.le_trans nextT_len hl, fun x hx => ?_⟩
  simp only [nextT, List.mem_flatMap] at hx
  obtain ⟨a, ha, hx⟩ := hx
  have hin := actsT_in a ha
  unfold elemsOf at hx
  split at hx
  · rename_i h1
    obtain ⟨h2, h3⟩ := hin.1 h1
    simp only [List.mem_singleton] at hx
    subst hx
    have := thOk_rd ho (i := a.2.1.toNat) (by omega)
    rwa [show ((a.2.1.toNat : Nat) : Int) = a.2.1 by omega] at this
  · split at hx
    · rename_i h1
      obtain ⟨h2, h3⟩ := hin.2 h1
      simp only [List.mem_singleton] at hx
      subst hx
      have := thOk_rd hn (i := a.2.2.toNat) (by omega)
      rwa [show ((a.2.2.toNat : Nat) : Int) = a.2.2 by omega] at this
    · cases hx
theorem nextT_key {q : Nat} (hq : q < (actsT m o n).length) {x : Th} (hx : elemsOf o n (actsT m o n)[q] = [x]) : (keysR (nextT m o n)).getD (((actsT m o n).take q).flatMap (elemsOf o n)).length [] = foldN x.f0 := by
  have := flat_pos hq hx
  unfold nextT keysR
  rw [List.getD_eq_getElem?_getD, List.getElem?_map, this]
  rfl
theorem nextT_pos {q : Nat} (hq : q < (actsT m o n).length) {x : Th} (hx : elemsOf o n (actsT m o n)[q] = [x]) : (((actsT m o n).take q).flatMap (elemsOf o n)).length < (nextT m o n).length := by
  have := flat_pos hq hx
  exact (List.getElem?_eq_some_iff.1 this).1
theorem later_self (x : Uh) : laterT x x = false := by simp [laterT]
theorem keep_all (h2 : 2 ≤ m) {i : Nat} (hi : i < (nextT m o n).length) : actOld m (keysR (nextT m o n)) (keysR n) (ltR (nextT m o n) n) i = (1, (i : Int), -1) := by
  obtain ⟨q, hq, hx, hpos⟩ := flat_split (elemsOf_le o n) (actsT m o n) i hi
  have hxi : (nextT m o n)[i] = ((actsT m o n).flatMap (elemsOf o n))[i]'hi := rfl
  rw [← hxi] at hx
  have hk : (keysR (nextT m o n)).getD i [] = foldN (nextT m o n)[i].f0 := by rw [keysR_at hi, rdT_get hi]
  have hrd : rd_T36 (nextT m o n) (i : Int) = (nextT m o n)[i] := rdT_get hi
  generalize hX : (nextT m o n)[i] = x at hx hk hrd
  have hlt : ∀ j, j < n.length → ltR (nextT m o n) n j i = laterT (convT (rd_T36 n (j : Int))) (convT x) := by
    intro j hj
    unfold ltR ltT
    rw [conv_at hj, conv_at hi, hrd]
  unfold actOld
  rw [keysR_len, hk]
  rcases Nat.lt_or_ge q o.length with h | h
  · rw [actsT_old h hq] at hx
    have hx0 := hx
    unfold actOld at hx
    rw [keysR_len] at hx
    cases hL : lstU (keysR n) ((keysR o).getD q []) n.length with
    | none =>
      rw [hL] at hx
      simp only at hx
      by_cases h4 : m = 4
      · rw [if_pos h4] at hx
        simp [elemsOf] at hx
      · rw [if_neg h4] at hx
        have hxe : x = rd_T36 o (q : Int) := by simpa [elemsOf] using hx.symm
        have hkx : foldN x.f0 = (keysR o).getD q [] := by rw [hxe, keysR_at h]
        rw [hkx, hL]
        simp only
        rw [if_neg h4]
    | some j =>
      have hj := lstU_lt hL
      obtain ⟨x2, hx2, hkx⟩ := elems_old (m := m) h hL
      have hxx : x = x2 := by
        rw [hx0] at hx2
        simpa using hx2
      subst hxx
      rw [hkx, hL]
      simp only
      rw [if_neg]
      rintro ⟨hf, hl⟩
      have hl := hl.resolve_left (by omega)
      rw [hlt j hj] at hl
      rw [hL] at hx
      simp only at hx
      by_cases hc : fstU (keysR o) ((keysR o).getD q []) (keysR o).length = some q ∧ (m = 1 ∨ ltR o n j q = true)
      · rw [if_pos hc] at hx
        have hxe : x = rd_T36 n (j : Int) := by simpa [elemsOf] using hx.symm
        rw [hxe, later_self] at hl
        cases hl
      · rw [if_neg hc] at hx
        have hxe : x = rd_T36 o (q : Int) := by simpa [elemsOf] using hx.symm
        have hl2 : ltR o n j q = true := by
          unfold ltR ltT
          rw [conv_at hj, conv_at h, ← hxe]
          exact hl
        have hnf : ¬ fstU (keysR o) ((keysR o).getD q []) (keysR o).length = some q := fun hf => hc ⟨hf, .inr hl2⟩
        obtain ⟨p, hp, hpk⟩ : ∃ p, p < q ∧ (keysR o).getD p [] = (keysR o).getD q [] := by
          refine Decidable.byContradiction fun hno => hnf (fstU_is (by rw [keysR_len]; exact h) (fun p hp he => hno ⟨p, hp, he⟩))
        have hpo : p < o.length := by omega
        have hpT : p < (actsT m o n).length := by omega
        obtain ⟨y, hy, hyk⟩ := elems_old (m := m) hpo (by rw [hpk]; exact hL)
        rw [← actsT_old hpo hpT] at hy
        have hkp := nextT_key hpT hy
        have hlp := flat_lt (e := elemsOf o n) hp hq hy
        rw [hpos] at hlp
        rw [hyk, hpk] at hkp
        exact (fstU_at hf).2 _ hlp hkp
  · obtain ⟨j, hj, hnw, he⟩ := actsT_new h hq
    rw [he] at hx
    have hxe : x = rd_T36 n (j : Int) := by simpa [elemsOf] using hx.symm
    simp only [isNew, decide_eq_true_eq] at hnw
    have hkx : foldN x.f0 = (keysR n).getD j [] := by rw [hxe, keysR_at hj]
    have hL := hnw.2.2
    rw [keysR_len] at hL
    rw [hkx, hL]
    simp only
    rw [if_neg]
    rintro ⟨_, hl⟩
    have hl := hl.resolve_left (by omega)
    rw [hlt j hj, hxe, later_self] at hl
    cases hl
theorem none_new {j : Nat} (hj : j < n.length) : isNew m (keysR (nextT m o n)) (keysR n) j = false := by
  unfold isNew
  rw [decide_eq_false_iff_not]
  rintro ⟨h3, hf, hL⟩
  rw [keysR_len] at hf hL
  have hnone := fstU_no hf
  cases hc : fstU (keysR o) ((keysR n).getD j []) o.length with
  | none =>
    have hnw : isNew m (keysR o) (keysR n) j = true := by
      unfold isNew
      rw [decide_eq_true_eq, keysR_len, keysR_len]
      exact ⟨h3, hc, hL⟩
    obtain ⟨q, hq, he⟩ := actsT_has hj hnw
    have hx : elemsOf o n (actsT m o n)[q] = [rd_T36 n (j : Int)] := by rw [he]; simp [elemsOf]
    refine hnone _ (nextT_pos hq hx) ?_
    rw [nextT_key hq hx, keysR_at hj]
  | some p =>
    have hp := fstU_lt hc
    have hpk := (fstU_at hc).1
    have hpT : p < (actsT m o n).length := by have := (actsT_len (m := m) (o := o) (n := n)).1; omega
    obtain ⟨y, hy, hyk⟩ := elems_old (m := m) hp (by rw [hpk]; exact hL)
    rw [← actsT_old hp hpT] at hy
    refine hnone _ (nextT_pos hpT hy) ?_
    rw [nextT_key hpT hy, hyk, hpk]
theorem plan_twice (h2 : 2 ≤ m) : planT m ((nextT m o n).map convT) (n.map convT) = (List.range (nextT m o n).length).map fun (i : Nat) => (⟨1, (i : Int), -1⟩ : Ac) := by
  unfold planT
  rw [keysT_conv, keysT_conv, List.length_map, List.length_map]
  have h1 : news m (keysR (nextT m o n)) (keysR n) n.length = [] := by
    unfold news
    rw [List.map_eq_nil_iff, List.filter_eq_nil_iff]
    intro j hj
    rw [none_new (List.mem_range.1 hj)]
    simp
  rw [h1, List.append_nil]
  unfold olds
  rw [List.map_map]
  apply List.map_congr_left
  intro i hi
  have := keep_all (o := o) (n := n) h2 (List.mem_range.1 hi)
  simp only [Function.comp]
  rw [show ltT ((nextT m o n).map convT) (n.map convT) = ltR (nextT m o n) n from rfl, this]
  rfl
end
theorem updateTwice_f (a0 : Int) (l1 l2 : List Th) (h1 : ∀ x ∈ l1, bytesOk x.f0 = true) (h2 : ∀ x ∈ l2, bytesOk x.f0 = true) : Ev (fun k => duffellaw31_UpdateTwice.f k a0 l1 l2) true := by
  refine Ev.congr (fun k => by rw [duffellaw31_UpdateTwice.f]) ?_
  refine evB (few_f l1) ?_
  refine evB (few_f l2) ?_
  refine evC (within_f a0 2 4) ?_
  have hm := withinI_bd (x := a0) (lo := 2) (hi := 4) (by omega)
  have ho := few_ok h1
  have hn := few_ok h2
  have ho2 : (fewT l1).length ≤ 12 := by simp [fewT]; omega
  have hn2 : (fewT l2).length ≤ 12 := by simp [fewT]; omega
  generalize withinI a0 2 4 = m at hm
  generalize fewT l1 = o at ho ho2
  generalize fewT l2 = n at hn hn2
  refine evB (things_f o ho.1) ?_
  refine evB (things_f n hn.1) ?_
  refine evC (plan_f (by omega) hm.2 ho hn) ?_
  refine evB (planref_f hm.1 hm.2 ho hn) ?_
  refine evP rfl ?_
  have e1 : planT m (o.map convT) (n.map convT) = (actsT m o n).map actS := by
    unfold planT
    rw [keysT_conv, keysT_conv, List.length_map, List.length_map]
    rfl
  have hT : (actsT m o n).length ≤ 24 := by have := (actsT_len (m := m) (o := o) (n := n)).2; omega
  refine evB (a := true) ?_ ?_
  · rw [e1]
    exact sameA_f (actsT m o n) (by omega)
  refine evS (fun k => by rw [duffellaw31_UpdateTwice.j0, if_neg (by simp)]) ?_
  have hnx := nextT_ok (m := m) ho hn (by omega)
  have hnl := nextT_len (m := m) (o := o) (n := n)
  refine evB (a := nextT m o n) ?_ ?_
  · rw [e1]
    exact after_f o n (actsT m o n) (by omega) actsT_in
  refine evB (things_f _ hnx.1) ?_
  refine evB (things_f n hn.1) ?_
  refine evC (plan_f (by omega) hm.2 hnx hn) ?_
  rw [plan_twice hm.1]
  generalize (nextT m o n).length = N at hnl
  have hlen : ((List.range N).map fun (i : Nat) => (⟨1, (i : Int), -1⟩ : Ac)).length = N := by simp
  refine evP rfl ?_
  refine evS (fun k => by rw [duffellaw31_UpdateTwice.j1, if_neg (by simp)]) ?_
  have key := ev_up (n := N) (r := true) (fun k i => duffellaw31_UpdateTwice.l0 k ((List.range N).map fun (i : Nat) => (⟨1, (i : Int), -1⟩ : Ac)) (i : Int)) ?_ ?_ 0 (by omega)
  · exact key
  · refine evS (fun k => by rw [duffellaw31_UpdateTwice.l0, if_neg (by rw [hlen]; omega)]) ?_
    exact evC rfl evR
  · intro i hi ih
    have e2 : rd_T32 ((List.range N).map fun (i : Nat) => (⟨1, (i : Int), -1⟩ : Ac)) (i : Int) = ⟨1, (i : Int), -1⟩ := by
      show ((List.range N).map fun (i : Nat) => (⟨1, (i : Int), -1⟩ : Ac)).getD i _ = _
      simp [List.getD_eq_getElem?_getD, hi]
    refine evS (fun k => by rw [duffellaw31_UpdateTwice.l0, if_pos (by rw [hlen]; omega), if_pos (by omega), e2, wrap_inc (by omega)]) ?_
    exact evN (by simp) ih
end Go.Proofs.Ytgobiibalepaaaa.Q

