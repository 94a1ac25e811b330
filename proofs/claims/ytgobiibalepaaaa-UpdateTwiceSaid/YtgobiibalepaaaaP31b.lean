/- UpdateEach in plain words: each old has one act, Freshen and Sync are as they are said. -/
import Derived.Test.YtgobiibalepaaaaP31
import Derived.Test.YtgobiibalepaaaaGLives31
import Derived.Test.YtgobiibalepaaaaQx2
import Derived.Test.YtgobiibalepaaaaQx3
import Derived.Test.YtgobiibalepaaaaQx5
namespace Go.Proofs.Ytgobiibalepaaaa.Q
open Go.RowKit Go.Proofs.YtgobiibalepaaaaW.PrintWords Go.Proofs.YtgobiibalepaaaaW.PrintLast Go.Proofs.YtgobiibalepaaaaW.PrintMore

abbrev Uh := S54
abbrev Ac := S32
def cutT (x : Th) : Th := ⟨x.f0.take 30, x.f1, x.f2⟩
def fewT (l : List Th) : List Th := (l.take 12).map cutT
theorem few_f (l : List Th) : Ev (fun k => duffelref31_Few.f k l 12) (fewT l) := by
  refine Ev.congr (fun k => by rw [duffelref31_Few.f]) ?_
  have hend : ∀ i, i ≤ 12 → i ≤ l.length → (i = 12 ∨ i = l.length) → Ev (fun k => duffelref31_Few.l0 k l 12 ((l.take i).map cutT) (i : Int)) (fewT l) := by
    intro i h12 hl hor
    have e : (l.take i).map cutT = fewT l := by
      rcases hor with rfl | rfl
      · rfl
      · unfold fewT; rw [List.take_length, List.take_of_length_le h12]
    by_cases hlt : i < l.length
    · obtain rfl : i = 12 := by omega
      refine evS (fun k => by rw [duffelref31_Few.l0, if_pos (by omega)]) ?_
      refine evS (fun k => by rw [duffelref31_Few.j1, if_neg (by simp)]) ?_
      exact evE evR e
    · refine evS (fun k => by rw [duffelref31_Few.l0, if_neg (by omega)]) ?_
      refine evS (fun k => by rw [duffelref31_Few.j1, if_neg (by simp)]) ?_
      exact evE evR e
  have key := ev_up (n := min 12 l.length) (r := fewT l) (fun k i => duffelref31_Few.l0 k l 12 ((l.take i).map cutT) (i : Int)) (hend _ (by omega) (by omega) (by omega)) ?_ 0 (by omega)
  · exact key
  · intro i hi ih
    refine evS (fun k => by rw [duffelref31_Few.l0, if_pos (by omega)]) ?_
    refine evS (fun k => by rw [duffelref31_Few.j1, if_pos (by simp; omega), if_pos (by omega), if_pos (by omega)]) ?_
    refine evC (cut_f _ 30) ?_
    refine evC (copy_f _ (by rw [List.length_take]; omega)) ?_
    refine evP (by rw [List.length_map, List.length_take]; omega) ?_
    rw [wrap_inc (by omega)]
    have e : (l.take (i + 1)).map cutT = (l.take i).map cutT ++ [⟨(rd_T36 l (i : Int)).f0.take 30, (rd_T36 l (i : Int)).f1, (rd_T36 l (i : Int)).f2⟩] := by
      rw [take_snoc' l i z36 (by omega), List.map_append]
      rfl
    rw [← e]
    exact ih
def convT (x : Th) : Uh := ⟨x.f0, x.f1, x.f2⟩
theorem things_f (l : List Th) (hl : l.length ≤ 1000) : Ev (fun k => duffellaw31_things.f k l) (l.map convT) := by
  refine Ev.congr (fun k => by rw [duffellaw31_things.f]) ?_
  have key := ev_up (n := l.length) (r := l.map convT) (fun k i => duffellaw31_things.l0 k l ((l.take i).map convT) (i : Int)) ?_ ?_ 0 (by omega)
  · exact key
  · refine evS (fun k => by rw [duffellaw31_things.l0, if_neg (by omega)]) ?_
    exact evE evR (by rw [List.take_length])
  · intro i hi ih
    refine evS (fun k => by rw [duffellaw31_things.l0, if_pos (by omega), if_pos (by omega)]) ?_
    refine evP (by rw [List.length_map, List.length_take]; omega) ?_
    rw [wrap_inc (by omega)]
    have e : (l.take (i + 1)).map convT = (l.take i).map convT ++ [⟨(rd_T36 l (i : Int)).f0, (rd_T36 l (i : Int)).f1, (rd_T36 l (i : Int)).f2⟩] := by
      rw [take_snoc' l i z36 (by omega), List.map_append]
      rfl
    rw [← e]
    exact ih
theorem keysT_conv (l : List Th) : keysT (l.map convT) = keysR l := by simp [keysT, keysR, convT]
theorem thingsOk_conv {l : List Th} (h : thOk l) : thingsOk (l.map convT) = true := by
  unfold thingsOk
  simp only [List.length_map, Bool.and_eq_true, decide_eq_true_eq, List.all_map, List.all_eq_true]
  refine ⟨h.1, fun x hx => ?_⟩
  have := h.2 x hx
  show (decide (x.f0.length ≤ 1000) && bytesOk x.f0) = true
  rw [Bool.and_eq_true]
  exact ⟨decide_eq_true this.2, this.1⟩
theorem few_ok {l : List Th} (h : ∀ x ∈ l, bytesOk x.f0 = true) : thOk (fewT l) := by
  refine ⟨by simp [fewT]; omega, fun x hx => ?_⟩
  simp only [fewT, List.mem_map] at hx
  obtain ⟨y, hy, rfl⟩ := hx
  have hb := h y (List.mem_of_mem_take hy)
  refine ⟨?_, by simp [cutT]; omega⟩
  unfold bytesOk
  refine List.all_eq_true.2 fun z hz => ?_
  have := bytesOk_get hb (List.mem_of_mem_take (show z ∈ y.f0.take 30 from hz))
  simpa using this
theorem plan_f {a0 : Int} (h1 : 1 ≤ a0) (h4 : a0 ≤ 4) {o n : List Th} (ho : thOk o) (hn : thOk n) : update_Plan.f a0 (o.map convT) (n.map convT) = some (planT a0 (o.map convT) (n.map convT), 0) := by
  unfold update_Plan.f
  rw [if_pos (by simp [thingsOk_conv ho, thingsOk_conv hn]), if_neg (by omega)]
/-! ### the acts, one by one -/
def newsI (mode : Int) (ok nk : List (List Int)) (n : Nat) : List Nat := (List.range n).filter (isNew mode ok nk)
section
variable {mode : Int} {ok nk : List (List Int)} {lt : Nat → Nat → Bool} {no nn : Nat}
def actsL (mode : Int) (ok nk : List (List Int)) (lt : Nat → Nat → Bool) (no nn : Nat) : List Ac := (olds mode ok nk lt no ++ news mode ok nk nn).map actS
theorem acts_len : (actsL mode ok nk lt no nn).length = no + (newsI mode ok nk nn).length := by simp [actsL, olds, news, newsI]
theorem acts_old {i : Nat} (h : i < no) : rd_T32 (actsL mode ok nk lt no nn) (i : Int) = actS (actOld mode ok nk lt i) := by
  show (actsL mode ok nk lt no nn).getD i _ = _
  rw [List.getD_eq_getElem?_getD]
  have h2 : i < ((olds mode ok nk lt no).map actS).length := by simpa [olds] using h
  rw [actsL, List.map_append, List.getElem?_append_left h2]
  simp [olds, h]
theorem acts_new {i : Nat} (h0 : no ≤ i) (h : i < no + (newsI mode ok nk nn).length) : rd_T32 (actsL mode ok nk lt no nn) (i : Int) = ⟨3, -1, ((newsI mode ok nk nn).getD (i - no) 0 : Nat)⟩ := by
  show (actsL mode ok nk lt no nn).getD i _ = _
  rw [List.getD_eq_getElem?_getD]
  have h2 : ((olds mode ok nk lt no).map actS).length ≤ i := by simpa [olds] using h0
  have h3 : ((olds mode ok nk lt no).map actS).length = no := by simp [olds]
  have h4 : i - no < (newsI mode ok nk nn).length := by omega
  rw [actsL, List.map_append, List.getElem?_append_right h2, h3]
  unfold news
  rw [show List.filter (isNew mode ok nk) (List.range nn) = newsI mode ok nk nn from rfl]
  simp [List.getD_eq_getElem?_getD, List.getElem?_eq_getElem h4, actS]
theorem newsI_at {q : Nat} (h : q < (newsI mode ok nk nn).length) : (newsI mode ok nk nn).getD q 0 < nn ∧ isNew mode ok nk ((newsI mode ok nk nn).getD q 0) = true := by
  have e : (newsI mode ok nk nn).getD q 0 = (newsI mode ok nk nn)[q] := by simp [List.getD_eq_getElem?_getD, h]
  rw [e]
  have := List.getElem_mem h
  simp only [newsI, List.mem_filter, List.mem_range] at this
  exact this
theorem newsI_ne {p q : Nat} (hpq : p < q) (h : q < (newsI mode ok nk nn).length) : (newsI mode ok nk nn).getD p 0 ≠ (newsI mode ok nk nn).getD q 0 := by
  have e : ∀ q (h : q < (newsI mode ok nk nn).length), (newsI mode ok nk nn).getD q 0 = (newsI mode ok nk nn)[q] := fun q h => by simp [List.getD_eq_getElem?_getD, h]
  have hp : (newsI mode ok nk nn).Pairwise (· < ·) := List.Pairwise.filter _ List.pairwise_lt_range
  rw [e q h, e p (by omega)]
  have := List.pairwise_iff_getElem.1 hp p q (by omega) h hpq
  omega
end
theorem lst_fst {ks : List (List Int)} {k : List Int} {n j : Nat} (h : lstU ks k n = some j) : fstU ks k n ≠ none := by
  induction n with
  | zero => cases h
  | succ n ih =>
    rw [lstU] at h
    rw [fstU]
    split at h
    · rename_i he
      intro hc
      split at hc
      · cases hc
      · rw [if_pos he] at hc; cases hc
    · have := ih h
      intro hc
      split at hc
      · cases hc
      · rename_i hn
        exact this hn
theorem optI_neg {o : Option Nat} : (optI o < 0) ↔ o = none := by
  cases o with
  | none => simp [optI]
  | some j => simp [optI]
theorem actOld_kind (mode : Int) (ok nk : List (List Int)) (lt : Nat → Nat → Bool) (i : Nat) : (actOld mode ok nk lt i).1 ≠ 3 ∧ (actOld mode ok nk lt i).2.1 = i ∧ (mode = 4 → (actOld mode ok nk lt i).1 ≠ 4 → lstU nk (ok.getD i []) nk.length ≠ none) := by
  unfold actOld
  cases h : lstU nk (ok.getD i []) nk.length with
  | none =>
    simp only
    split
    · exact ⟨(by simp), rfl, fun _ h => absurd rfl h⟩
    · rename_i h4
      exact ⟨(by simp), rfl, fun h => absurd h h4⟩
  | some j =>
    simp only
    split
    · exact ⟨(by simp), rfl, fun _ _ => by simp⟩
    · exact ⟨(by simp), rfl, fun _ _ => by simp⟩
theorem updateEach_f (a0 : Int) (l1 l2 : List Th) (h1 : ∀ x ∈ l1, bytesOk x.f0 = true) (h2 : ∀ x ∈ l2, bytesOk x.f0 = true) : Ev (fun k => duffellaw31_UpdateEach.f k a0 l1 l2) true := by
  refine Ev.congr (fun k => by rw [duffellaw31_UpdateEach.f]) ?_
  refine evB (few_f l1) ?_
  refine evB (few_f l2) ?_
  refine evC (within_f a0 1 4) ?_
  have hm := withinI_bd (x := a0) (lo := 1) (hi := 4) (by omega)
  have ho := few_ok h1
  have hn := few_ok h2
  generalize withinI a0 1 4 = m at hm
  generalize fewT l1 = o at ho
  generalize fewT l2 = n at hn
  refine evB (things_f o ho.1) ?_
  refine evB (things_f n hn.1) ?_
  refine evC (plan_f hm.1 hm.2 ho hn) ?_
  refine evP rfl ?_
  show Ev (fun k => duffellaw31_UpdateEach.l0 k m o n (planT m (o.map convT) (n.map convT)) 0 0) true
  unfold planT
  rw [keysT_conv, keysT_conv, List.length_map, List.length_map]
  generalize ltT (o.map convT) (n.map convT) = lt
  show Ev (fun k => duffellaw31_UpdateEach.l0 k m o n (actsL m (keysR o) (keysR n) lt o.length n.length) 0 0) true
  have hlen := acts_len (mode := m) (ok := keysR o) (nk := keysR n) (lt := lt) (no := o.length) (nn := n.length)
  have hnl : (newsI m (keysR o) (keysR n) n.length).length ≤ n.length := Nat.le_trans (List.length_filter_le _ _) (by simp)
  have ho1 := ho.1
  have hn1 := hn.1
  obtain ⟨A, hA⟩ : ∃ A, A = actsL m (keysR o) (keysR n) lt o.length n.length := ⟨_, rfl⟩
  rw [← hA] at hlen ⊢
  have key := ev_up (n := A.length) (r := true) (fun k i => duffellaw31_UpdateEach.l0 k m o n A ((min i o.length : Nat) : Int) (i : Int)) ?_ ?_ 0 (by omega)
  · simpa using key
  · refine evS (fun k => by rw [duffellaw31_UpdateEach.l0, if_neg (by omega)]) ?_
    refine evP (by omega) ?_
    exact evC rfl evR
  · intro i hi ih
    by_cases hio : i < o.length
    · have ha : rd_T32 A (i : Int) = actS (actOld m (keysR o) (keysR n) lt i) := by rw [hA]; exact acts_old hio
      obtain ⟨k1, k2, k3⟩ := actOld_kind m (keysR o) (keysR n) lt i
      generalize actOld m (keysR o) (keysR n) lt i = a at ha k1 k2 k3
      have e1 : ((min i o.length : Nat) : Int) = i := by omega
      have e2 : ((min (i + 1) o.length : Nat) : Int) = ((i + 1 : Nat) : Int) := by omega
      rw [e2] at ih
      rw [e1]
      refine evS (fun k => by rw [duffellaw31_UpdateEach.l0, if_pos (by omega), if_pos (by omega), if_neg (by rw [ha]; exact k1), if_pos (by rw [ha]; exact k2)]) ?_
      refine evS (fun k => by rw [duffellaw31_UpdateEach.j1, if_neg (by simp; omega)]) ?_
      rw [wrap_inc (by omega)]
      by_cases h4 : m = 4
      · refine evP h4 ?_
        by_cases hk4 : (rd_T32 A (i : Int)).f0 = 4
        · exact evP hk4 ih
        · refine evN hk4 ?_
          have hf1 : (rd_T32 A (i : Int)).f1 = i := by rw [ha]; exact k2
          rw [hf1]
          refine evP (by omega) (evP (by omega) ?_)
          refine evB (first_f n _ hn (thOk_rd ho hio)) ?_
          refine evN ?_ ih
          rw [optI_neg]
          have hkk := k3 h4 (by rw [ha] at hk4; exact hk4)
          rw [keysR_at hio, keysR_len] at hkk
          cases hc : lstU (keysR n) (foldN (rd_T36 o (i : Int)).f0) n.length with
          | none => exact absurd hc hkk
          | some j => exact lst_fst hc
      · exact evN h4 ih
    · have hq : i - o.length < (newsI m (keysR o) (keysR n) n.length).length := by omega
      have ha : rd_T32 A (i : Int) = ⟨3, -1, ((newsI m (keysR o) (keysR n) n.length).getD (i - o.length) 0 : Nat)⟩ := by rw [hA]; exact acts_new (by omega) (by omega)
      obtain ⟨hj, hnw⟩ := newsI_at hq
      have hjn := hnw
      simp only [isNew, decide_eq_true_eq] at hjn
      obtain ⟨hm3, _, hlast⟩ := hjn
      have e1 : ((min i o.length : Nat) : Int) = (o.length : Int) := by omega
      have e2 : ((min (i + 1) o.length : Nat) : Int) = (o.length : Int) := by omega
      rw [e2] at ih
      rw [e1]
      obtain ⟨j, hjj⟩ : ∃ j, j = (newsI m (keysR o) (keysR n) n.length).getD (i - o.length) 0 := ⟨_, rfl⟩
      rw [← hjj] at ha hj hlast
      refine evS (fun k => by rw [duffellaw31_UpdateEach.l0, if_pos (by omega), if_pos (by omega), ha, if_pos rfl, if_neg hm3, if_neg (by simp), if_neg (by simp; omega)]) ?_
      refine evS (fun k => by rw [duffellaw31_UpdateEach.j2, if_neg (by simp)]) ?_
      have hl1 : ∀ p, p ≤ i → Ev (fun k => duffellaw31_UpdateEach.l1 k m o n A (o.length : Int) (i : Int) (p : Int) 3 (-1) (j : Int)) true := by
        refine ev_up (n := i) (fun k p => duffellaw31_UpdateEach.l1 k m o n A (o.length : Int) (i : Int) (p : Int) 3 (-1) (j : Int)) ?_ ?_
        · refine evS (fun k => by rw [duffellaw31_UpdateEach.l1, if_neg (by omega), wrap_inc (by omega)]) ?_
          exact ih
        · intro p hp ihp
          refine evS (fun k => by rw [duffellaw31_UpdateEach.l1, if_pos (by omega), if_pos (by omega), if_pos (by omega)]) ?_
          rw [wrap_inc (by omega)]
          by_cases hpo : p < o.length
          · have hap : rd_T32 A (p : Int) = actS (actOld m (keysR o) (keysR n) lt p) := by rw [hA]; exact acts_old hpo
            have := (actOld_kind m (keysR o) (keysR n) lt p).1
            exact evN (by rw [hap]; exact this) ihp
          · have hqp : p - o.length < (newsI m (keysR o) (keysR n) n.length).length := by omega
            have hap : rd_T32 A (p : Int) = ⟨3, -1, ((newsI m (keysR o) (keysR n) n.length).getD (p - o.length) 0 : Nat)⟩ := by rw [hA]; exact acts_new (by omega) (by omega)
            obtain ⟨hjp, hnp⟩ := newsI_at hqp
            have hne := newsI_ne (mode := m) (ok := keysR o) (nk := keysR n) (nn := n.length) (p := p - o.length) (q := i - o.length) (by omega) hq
            simp only [isNew, decide_eq_true_eq] at hnp
            obtain ⟨_, _, hlastp⟩ := hnp
            rw [← hjj] at hne
            generalize (newsI m (keysR o) (keysR n) n.length).getD (p - o.length) 0 = jp at hap hjp hlastp hne
            rw [hap]
            refine evP rfl ?_
            refine evP (by simp) (evP (by simp; omega) (evP (by omega) (evP (by omega) ?_)))
            refine evB (same31_f _ _ (thOk_rd hn hjp) (thOk_rd hn hj)) ?_
            refine evN ?_ ihp
            simp only [decide_eq_true_eq]
            intro he
            rw [keysR_at hjp, he, ← keysR_at hj, hlast] at hlastp
            injection hlastp with hlastp
            exact hne hlastp.symm
      exact hl1 0 (Nat.zero_le _)
end Go.Proofs.Ytgobiibalepaaaa.Q

