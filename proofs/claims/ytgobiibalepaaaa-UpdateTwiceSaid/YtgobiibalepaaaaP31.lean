/- Update's plan by the document, as printed, in plain words. -/
import Derived.Test.YtgobiibalepaaaaP01
import Derived.Test.YtgobiibalepaaaaGUpdS
import Derived.Test.YtgobiibalepaaaaQx3
import Derived.Test.YtgobiibalepaaaaQx4
import Derived.Test.YtgobiibalepaaaaQx6
namespace Go.Proofs.Ytgobiibalepaaaa.Q
open Go.RowKit Go.Proofs.YtgobiibalepaaaaW.PrintWords Go.Proofs.YtgobiibalepaaaaW.PrintLast Go.Proofs.YtgobiibalepaaaaW.PrintMore

theorem fold29_f (c : Int) (h : 0 ≤ c ∧ c ≤ 255) : Ev (fun k => duffelref29_Fold.f k c) (foldB c) := by
  have key : ∀ n : Fin 256, duffelref29_Fold.f 20 (n.val : Int) = some (foldB n.val) := by decide +kernel
  have := key ⟨c.toNat, by omega⟩
  have e : ((⟨c.toNat, by omega⟩ : Fin 256).val : Int) = c := by simp; omega
  rw [e] at this
  exact evK (fun k => duffelref29_Fold.mono c k) 20 this
theorem all29_f (l : List Int) (h : bytesOk l = true) (hn : l.length < 140737488355328) : Ev (fun k => duffelref29_All.f k l) (foldN l) := by
  refine Ev.congr (fun k => by rw [duffelref29_All.f]) ?_
  have key := ev_up (n := l.length) (r := foldN l) (fun k i => duffelref29_All.l0 k l (foldN (l.take i)) (i : Int)) ?_ ?_ 0 (Nat.zero_le _)
  · exact key
  · refine evS (fun k => by rw [duffelref29_All.l0, if_neg (by omega)]) ?_
    exact evE evR (by rw [List.take_length])
  · intro i hi ih
    have hb : 0 ≤ rd l (i : Int) ∧ rd l (i : Int) ≤ 255 := by
      rw [rd_nat, List.getD_eq_getElem?_getD, List.getElem?_eq_getElem hi]
      exact bytesOk_get h (List.getElem_mem hi)
    refine evS (fun k => by rw [duffelref29_All.l0, if_pos (by omega), if_pos (by omega)]) ?_
    refine evB (fold29_f _ hb) ?_
    refine evP (by rw [foldN_len, List.length_take]; omega) ?_
    rw [wrap_inc (by omega)]
    have e : foldN (l.take (i + 1)) = foldN (l.take i) ++ [foldB (rd l (i : Int))] := by
      rw [take_snoc' l i 0 hi, rd_nat]
      simp [foldN]
    rw [← e]
    exact ih
def nameOk (l : List Int) : Prop := bytesOk l = true ∧ l.length ≤ 1000
theorem same31_f (a b : List Int) (ha : nameOk a) (hb : nameOk b) : Ev (fun k => duffelref31_Same.f k a b) (decide (foldN a = foldN b)) := by
  refine Ev.congr (fun k => by rw [duffelref31_Same.f]) ?_
  refine evB (all29_f a ha.1 (by have := ha.2; omega)) ?_
  refine evB (all29_f b hb.1 (by have := hb.2; omega)) ?_
  refine evB (same01_f _ _ (by rw [foldN_len]; have := ha.2; omega)) evR
abbrev Th := S36
def keysR (l : List Th) : List (List Int) := l.map fun x => foldN x.f0
def thOk (l : List Th) : Prop := l.length ≤ 1000 ∧ ∀ x ∈ l, nameOk x.f0
theorem rdT_get {l : List Th} {i : Nat} (h : i < l.length) : rd_T36 l (i : Int) = l[i] := by
  show l.getD i _ = _
  rw [List.getD_eq_getElem?_getD, List.getElem?_eq_getElem h]; rfl
theorem thOk_rd {l : List Th} (h : thOk l) {i : Nat} (hi : i < l.length) : nameOk (rd_T36 l (i : Int)).f0 := by
  rw [rdT_get hi]
  exact h.2 _ (List.getElem_mem hi)
theorem keysR_at {l : List Th} {i : Nat} (h : i < l.length) : (keysR l).getD i [] = foldN (rd_T36 l (i : Int)).f0 := by
  rw [rdT_get h, List.getD_eq_getElem?_getD]
  simp [keysR, List.getElem?_eq_getElem h]
theorem keysR_len (l : List Th) : (keysR l).length = l.length := by simp [keysR]
def optI : Option Nat → Int
  | none => -1
  | some j => j
theorem fstU_mono {ks : List (List Int)} {k : List Int} {n j : Nat} (h : fstU ks k n = some j) : ∀ m, n ≤ m → fstU ks k m = some j := by
  intro m hm
  induction m with
  | zero =>
    obtain rfl : n = 0 := by omega
    exact h
  | succ m ih =>
    by_cases e : n = m + 1
    · rw [← e]; exact h
    · rw [fstU, ih (by omega)]
theorem first_f (l : List Th) (name : List Int) (hl : thOk l) (hn : nameOk name) : Ev (fun k => duffelref31_First.f k l name) (optI (fstU (keysR l) (foldN name) l.length)) := by
  refine Ev.congr (fun k => by rw [duffelref31_First.f]) ?_
  have key : ∀ i, i ≤ l.length → fstU (keysR l) (foldN name) i = none → Ev (fun k => duffelref31_First.l0 k l name (i : Int)) (optI (fstU (keysR l) (foldN name) l.length)) := by
    intro i hi hno
    obtain ⟨d, hd⟩ : ∃ d, l.length - i = d := ⟨_, rfl⟩
    induction d generalizing i with
    | zero =>
      obtain rfl : i = l.length := by omega
      refine evS (fun k => by rw [duffelref31_First.l0, if_neg (by omega)]) ?_
      exact evE evR (by rw [hno]; rfl)
    | succ d ih =>
      have hlt : i < l.length := by omega
      refine evS (fun k => by rw [duffelref31_First.l0, if_pos (by omega), if_pos (by omega)]) ?_
      refine evB (same31_f _ _ (thOk_rd hl hlt) hn) ?_
      have hs : fstU (keysR l) (foldN name) (i + 1) = if (keysR l).getD i [] = foldN name then some i else none := by rw [fstU, hno]
      rw [keysR_at hlt] at hs
      by_cases e : foldN (rd_T36 l (i : Int)).f0 = foldN name
      · refine evP (by simp [e]) ?_
        rw [if_pos e] at hs
        exact evE evR (by rw [fstU_mono hs _ (by omega)]; rfl)
      · refine evN (by simp [e]) ?_
        rw [if_neg e] at hs
        rw [wrap_inc (by have := hl.1; omega)]
        exact ih (i + 1) (by omega) hs (by omega)
  exact key 0 (Nat.zero_le _) rfl
theorem last_f (l : List Th) (name : List Int) (hl : thOk l) (hn : nameOk name) : Ev (fun k => duffelref31_Last.f k l name) (optI (lstU (keysR l) (foldN name) l.length)) := by
  have key : ∀ i, i ≤ l.length → lstU (keysR l) (foldN name) l.length = lstU (keysR l) (foldN name) i → Ev (fun k => duffelref31_Last.l0 k l name ((i : Int) - 1)) (optI (lstU (keysR l) (foldN name) l.length)) := by
    intro i
    induction i with
    | zero =>
      intro _ h
      refine evS (fun k => by rw [duffelref31_Last.l0, if_neg (by omega)]) ?_
      exact evE evR (by rw [h]; rfl)
    | succ i ih =>
      intro hi h
      have hlt : i < l.length := by omega
      have e0 : ((i + 1 : Nat) : Int) - 1 = (i : Int) := by omega
      rw [e0]
      refine evS (fun k => by rw [duffelref31_Last.l0, if_pos (by omega), if_pos (by omega), if_pos (by omega)]) ?_
      refine evB (same31_f _ _ (thOk_rd hl hlt) hn) ?_
      rw [lstU, keysR_at hlt] at h
      by_cases e : foldN (rd_T36 l (i : Int)).f0 = foldN name
      · refine evP (by simp [e]) ?_
        rw [if_pos e] at h
        exact evE evR (by rw [h]; rfl)
      · refine evN (by simp [e]) ?_
        rw [if_neg e] at h
        have hw : wrap64 ((i : Int) - 1) = (i : Int) - 1 := by have := hl.1; unfold wrap64; omega
        rw [hw]
        exact ih (by omega) h
  refine Ev.congr (fun k => by rw [duffelref31_Last.f, show wrap64 ((l.length : Int) - 1) = (l.length : Int) - 1 by have := hl.1; unfold wrap64; omega]) ?_
  exact key l.length (Nat.le_refl _) rfl
end Go.Proofs.Ytgobiibalepaaaa.Q

