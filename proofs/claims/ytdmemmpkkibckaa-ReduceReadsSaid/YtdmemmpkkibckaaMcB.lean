/- Copies within an output, the program's in pieces and the document's byte by byte. No condition. -/
import Derived.Test.YtdmemmpkkibckaaMcA
namespace Go.Proofs.Ytdmemmpkkibckaa.Gx
open Go
set_option linter.unusedVariables false
variable {R : Nat}
/-- what a copy tells, byte by byte -/
def nextB (d : Nat) (bs : List Int) : Int := if d ≤ bs.length then bs.getD (bs.length - d) 0 else 0
def grow (d : Nat) : Nat → List Int → List Int
  | 0, bs => bs
  | n + 1, bs => grow d n (bs ++ [nextB d bs])
theorem grow_add (d : Nat) : ∀ (a b : Nat) (bs : List Int), grow d (a + b) bs = grow d b (grow d a bs)
  | 0, b, bs => by simp [grow]
  | a + 1, b, bs => by rw [show a + 1 + b = (a + b) + 1 by omega]; exact grow_add d a b _
theorem grow_length (d : Nat) : ∀ (a : Nat) (bs : List Int), (grow d a bs).length = bs.length + a
  | 0, bs => rfl
  | a + 1, bs => by rw [grow, grow_length d a]; simp; omega
theorem grow_chunk {d : Nat} {bs : List Int} (hd : d ≤ bs.length) : ∀ c, c ≤ d → grow d c bs = bs ++ (bs.drop (bs.length - d)).take c
  | 0, _ => by simp [grow]
  | c + 1, hc => by
    have hl : (bs ++ (bs.drop (bs.length - d)).take c).length = bs.length + c := by simp; omega
    have hi : bs.length - d + c < bs.length := by omega
    have h1 : nextB d (bs ++ (bs.drop (bs.length - d)).take c) = bs.getD (bs.length - d + c) 0 := by
      unfold nextB
      rw [hl, if_pos (by omega), show bs.length + c - d = bs.length - d + c by omega, List.getD_eq_getElem?_getD, List.getElem?_append_left hi, ← List.getD_eq_getElem?_getD]
    have h2 : (bs.drop (bs.length - d)).take (c + 1) = (bs.drop (bs.length - d)).take c ++ [bs.getD (bs.length - d + c) 0] := by
      rw [List.take_add_one, List.getElem?_drop, List.getD_eq_getElem?_getD, List.getElem?_eq_getElem hi]; rfl
    rw [grow_add d c 1, grow_chunk hd c (by omega), h2, ← List.append_assoc]
    show (bs ++ (bs.drop (bs.length - d)).take c) ++ [nextB d (bs ++ (bs.drop (bs.length - d)).take c)] = _
    rw [h1]
theorem u8s_sub (bs : List Int) (a b : Nat) : ((u8s bs).drop a).take b = u8s ((bs.drop a).take b) := by simp [u8s, List.map_drop, List.map_take]
section
variable {β : Type}
theorem Buf.read {h : GH} {s : Sl} {bs : List Int} (b : Buf h s bs) (i : Int) (h0 : 0 ≤ i) (h1 : i < bs.length) (K : Int → Option β) :
    (exA s.a fun g o => within i s.n (exI .u8 (h.cell ⟨g, o + i.toNat * 1, none⟩) K)) = K (bs.getD i.toNat 0) := by
  have hlt : i.toNat < bs.length := by omega
  rcases b.at_ with ⟨_, h2⟩ | ⟨r, h2, h3⟩
  · subst h2; simp at hlt
  · simp only [h2, exA, cell_of h3, within]
    rw [decide_eq_true h0, decide_eq_true (show i < ((s.n : Nat) : Int) by rw [b.n]; exact h1), nth_u8s, Nat.zero_add, Nat.mul_one, List.getElem?_eq_getElem hlt, List.getD_eq_getElem?_getD, List.getElem?_eq_getElem hlt]
    rfl
theorem Buf.some {h : GH} {s : Sl} {bs : List Int} (b : Buf h s bs) (h1 : 0 < bs.length) : ∃ r, s.a = some ⟨r, 0, none⟩ ∧ h.look r = some (.row ⟨u8s bs, 1, false⟩) := by
  rcases b.at_ with ⟨_, h2⟩ | h2
  · subst h2; simp at h1
  · exact h2
theorem ref_copy {g d : Nat} {size : Int} (hd : 1 ≤ d) (hd2 : d < 274877906944) (R : Nat) : ∀ (m n : Nat) (i e : Int) {h : GH} {s : Sl} {bs : List Int} (o : Out h g size s bs), m < n → 0 ≤ i → e = i + m → e < 274877906944 → bs.length + m < 274877906944 →
    ∃ h' s', (∀ (β : Type) (K : GH → Option β), F_ref07_Out_Copy_l0 R n (some ⟨g, 0, none⟩) d e i h K = K h') ∧ Out h' g size s' (grow d m bs) ∧ Keep h h' (ownO g s) ∧ ∀ k ∈ ownO g s', k ∈ ownO g s ∨ h.next ≤ k
  | 0, n, i, e, h, s, bs, o, hn, h0, he, _, _ => by
    obtain ⟨n, rfl⟩ : ∃ k, n = k + 1 := ⟨n - 1, by omega⟩
    refine ⟨h, s, fun β K => ?_, o, .refl _ _, fun k hk => .inl hk⟩
    rw [F_ref07_Out_Copy_l0_succ, decide_eq_false (show ¬ i < e by omega)]; rfl
  | m + 1, n, i, e, h, s, bs, o, hn, h0, he, he2, hl => by
    obtain ⟨n, rfl⟩ : ∃ k, n = k + 1 := ⟨n - 1, by omega⟩
    obtain ⟨h1, s1, e1, o1, k1, n1⟩ := app_one o (nextB d bs) (by omega)
    obtain ⟨h2, s2, e2, o2, k2, n2⟩ := ref_copy hd hd2 R m n (i + 1) e o1 (by omega) (by omega) (by omega) he2 (by simp; omega)
    refine ⟨h2, s2, fun β K => ?_, o2, k1.trans k2 n1, fun k hk => (n2 k hk).elim (n1 k) fun h => .inr (by have := k1.1; omega)⟩
    rw [F_ref07_Out_Copy_l0_succ, decide_eq_true (show i < e by omega), IntWalk.i64_in (i + 1) (by omega)]
    by_cases hc : d ≤ bs.length
    · have hw : IntKind.i64.wrap (((s.n : Nat) : Int) - d) = ((bs.length - d : Nat) : Int) := by rw [o.buf.n, IntWalk.i64_in _ (by omega)]; omega
      simp only [cond_true, exA, o.c3, exS]
      rw [decide_eq_true (show ((d : Nat) : Int) ≤ ((s.n : Nat) : Int) by rw [o.buf.n]; omega), hw]
      simp only [cond_true]
      have hr := fun K => o.buf.read (β := β) ((bs.length - d : Nat) : Int) (by omega) (by omega) K
      simp only [exA] at hr
      rw [hr]
      have hx : bs.getD (((bs.length - d : Nat) : Int)).toNat 0 = nextB d bs := by rw [nextB, if_pos hc]; rfl
      rw [hx]
      exact (e1 β _).trans (e2 β K)
    · simp only [cond_true, exA, o.c3, exS]
      rw [decide_eq_false (show ¬ ((d : Nat) : Int) ≤ ((s.n : Nat) : Int) by rw [o.buf.n]; omega)]
      have hx : nextB d bs = 0 := by rw [nextB, if_neg hc]
      rw [hx] at e1
      exact (e1 β _).trans (e2 β K)
theorem own_copy {g d : Nat} {size : Int} (hd : 1 ≤ d) (hd2 : d < 274877906944) (R : Nat) : ∀ (m n : Nat) {h : GH} {s : Sl} {bs : List Int} (o : Out h g size s bs), m < n → bs.length + m < 274877906944 →
    ∃ m' bs' h' s', (∀ (β : Type) (F : Option Addr → GH → (Bool → GH → Option β) → Option β) (K : Option Addr → Int → Int → GH → Option β), F_hist_Out_Copy_l0 F R n (some ⟨g, 0, none⟩) d m h K = K (some ⟨g, 0, none⟩) d (m' : Nat) h') ∧ m' ≤ m ∧ grow d m bs = grow d m' bs' ∧ (m' = 0 ∨ d ≤ bs'.length) ∧ bs'.length + m' = bs.length + m ∧ Out h' g size s' bs' ∧ Keep h h' (ownO g s) ∧ ∀ k ∈ ownO g s', k ∈ ownO g s ∨ h.next ≤ k
  | 0, n, h, s, bs, o, hn, _ => by
    obtain ⟨n, rfl⟩ : ∃ k, n = k + 1 := ⟨n - 1, by omega⟩
    refine ⟨0, bs, h, s, fun β F K => ?_, by omega, rfl, .inl rfl, rfl, o, .refl _ _, fun k hk => .inl hk⟩
    rw [F_hist_Out_Copy_l0_succ, decide_eq_false (show ¬ ((0 : Nat) : Int) > 0 by omega)]; rfl
  | m + 1, n, h, s, bs, o, hn, hl => by
    obtain ⟨n, rfl⟩ : ∃ k, n = k + 1 := ⟨n - 1, by omega⟩
    by_cases hc : d ≤ bs.length
    · refine ⟨m + 1, bs, h, s, fun β F K => ?_, by omega, rfl, .inr hc, rfl, o, .refl _ _, fun k hk => .inl hk⟩
      rw [F_hist_Out_Copy_l0_succ, decide_eq_true (show ((m + 1 : Nat) : Int) > 0 by omega)]
      simp only [cond_true, exA, o.c3, exS]
      rw [decide_eq_false (show ¬ ((d : Nat) : Int) > ((s.n : Nat) : Int) by rw [o.buf.n]; omega)]; rfl
    · obtain ⟨h1, s1, e1, o1, k1, n1⟩ := app_one o 0 (by omega)
      obtain ⟨m', bs', h2, s2, e2, hm, hg, hc', hl', o2, k2, n2⟩ := own_copy hd hd2 R m n o1 (by omega) (by simp; omega)
      have hx : nextB d bs = 0 := by rw [nextB, if_neg hc]
      refine ⟨m', bs', h2, s2, fun β F K => ?_, by omega, by rw [grow, hx, hg], hc', by simp at hl'; omega, o2, k1.trans k2 n1, fun k hk => (n2 k hk).elim (n1 k) fun h => .inr (by have := k1.1; omega)⟩
      rw [F_hist_Out_Copy_l0_succ, decide_eq_true (show ((m + 1 : Nat) : Int) > 0 by omega), show ((m + 1 : Nat) : Int) - 1 = (m : Nat) by omega, IntWalk.i64_in _ (by omega)]
      simp only [cond_true, exA, o.c3, exS]
      rw [decide_eq_true (show ((d : Nat) : Int) > ((s.n : Nat) : Int) by rw [o.buf.n]; omega)]
      exact (e1 β _).trans (e2 β F K)
theorem own_chunks {g d : Nat} {size : Int} (hd : 1 ≤ d) (hd2 : d < 274877906944) (R : Nat) : ∀ (q m n : Nat) {h : GH} {s : Sl} {bs : List Int} (o : Out h g size s bs), m ≤ q → m < n → bs.length + m < 274877906944 → (m = 0 ∨ d ≤ bs.length) →
    ∃ h' s', (∀ (β : Type) (F : Option Addr → GH → (Bool → GH → Option β) → Option β) (K : GH → Option β), F_hist_Out_Copy_l1 F R n (some ⟨g, 0, none⟩) d m h K = K h') ∧ Out h' g size s' (grow d m bs) ∧ Keep h h' (ownO g s) ∧ ∀ k ∈ ownO g s', k ∈ ownO g s ∨ h.next ≤ k
  | _, 0, n, h, s, bs, o, _, hn, _, _ => by
    obtain ⟨n, rfl⟩ : ∃ k, n = k + 1 := ⟨n - 1, by omega⟩
    refine ⟨h, s, fun β F K => ?_, o, .refl _ _, fun k hk => .inl hk⟩
    rw [F_hist_Out_Copy_l1_succ, decide_eq_false (show ¬ ((0 : Nat) : Int) > 0 by omega)]; rfl
  | 0, m + 1, n, h, s, bs, o, hq, hn, hl, hc => by omega
  | q + 1, m + 1, n, h, s, bs, o, hq, hn, hl, hc => by
    obtain ⟨n, rfl⟩ : ∃ k, n = k + 1 := ⟨n - 1, by omega⟩
    have hc : d ≤ bs.length := hc.resolve_left (by omega)
    obtain ⟨r, ha, hlr⟩ := o.buf.some (by omega)
    obtain ⟨c, hcd⟩ : ∃ c, c = min d (m + 1) := ⟨_, rfl⟩
    have hif : (if (d : Int) < ((m + 1 : Nat) : Int) then (d : Int) else ((m + 1 : Nat) : Int)) = (c : Int) := by split <;> omega
    obtain ⟨h1, s1, e1, b1, k1, n1⟩ := app_row o.buf (x := ⟨addO s.a ((bs.length - d) * 1), (bs.length - d + c) - (bs.length - d), s.c - (bs.length - d)⟩) ((bs.drop (bs.length - d)).take c) (g := r) (o := 0 + (bs.length - d) * 1) (by simp [addO, ha]) hlr (by simp [u8s_length]; omega)
      (by rw [u8s_sub]; simp) (by simp [most]; omega)
    obtain ⟨h2, e2, o2, k2, n2⟩ := o.put b1 k1 n1
    rw [← grow_chunk hc c (by omega)] at o2
    obtain ⟨h3, s3, e3, o3, k3, n3⟩ := own_chunks hd hd2 R q (m + 1 - c) n o2 (by omega) (by omega) (by rw [grow_length]; omega) (.inr (by rw [grow_length]; omega))
    refine ⟨h3, s3, fun β F K => ?_, ?_, k2.trans k3 n2, fun k hk => (n3 k hk).elim (n2 k) fun h => .inr (by have := k2.1; omega)⟩
    · rw [F_hist_Out_Copy_l1_succ, decide_eq_true (show ((m + 1 : Nat) : Int) > 0 by omega)]
      simp only [cond_true, exA, o.c3, exS, hif]
      have w1 : IntKind.i64.wrap (((s.n : Nat) : Int) - (d : Nat)) = ((bs.length - d : Nat) : Int) := by rw [o.buf.n, IntWalk.i64_in _ (by omega)]; omega
      have w2 : IntKind.i64.wrap (((bs.length - d : Nat) : Int) + (c : Nat)) = ((bs.length - d + c : Nat) : Int) := by rw [IntWalk.i64_in _ (by omega)]; omega
      have w3 : IntKind.i64.wrap (((m + 1 : Nat) : Int) - (c : Nat)) = ((m + 1 - c : Nat) : Int) := by rw [IntWalk.i64_in _ (by omega)]; omega
      have hbnd : ∀ (a b : Nat) (K : Nat → Option β), a ≤ b → bnd (a : Int) b K = K a := fun a b K hab => by
        simp only [bnd]
        rw [decide_eq_true (show (0 : Int) ≤ (a : Nat) by omega), decide_eq_true (show ((a : Nat) : Int) ≤ (b : Nat) by omega)]; rfl
      rw [w1, w2, w3, hbnd _ _ _ (by rw [o.buf.c]; omega), hbnd _ _ _ (by omega), e1]
      exact (e2 β _).trans (e3 β F K)
    · rw [← grow_add, show c + (m + 1 - c) = m + 1 by omega] at o3; exact o3
/-- a copy, or why not -/
def copyR (size : Int) (bs : List Int) (d n : Int) : Int × List Int := if d < 1 then (2, bs) else if n < 0 then (2, bs) else if d > 65536 then (8, bs) else if n > size - bs.length then (9, bs) else (0, grow d.toNat n.toNat bs)
theorem copy_out (own : Bool) {h : GH} {g : Nat} {size : Int} {s : Sl} {bs : List Int} (o : Out h g size s bs) (d n : Int) (hs : size ≤ 9223372036854775807) (hle : (bs.length : Int) ≤ size) (hn : n < 137438953472) (hm : bs.length < 137438953472) (hR : n < (R : Int)) :
    ∃ h' s', (∀ (β : Type) (K : Int → GH → Option β), (bif own then (F_hist_Out_Copy R) (some ⟨g, 0, none⟩) d n h K else (F_ref07_Out_Copy R) (some ⟨g, 0, none⟩) d n h K) = K (copyR size bs d n).1 h') ∧ Out h' g size s' (copyR size bs d n).2 ∧ Keep h h' (ownO g s) ∧ ∀ k ∈ ownO g s', k ∈ ownO g s ∨ h.next ≤ k := by
  have hw : IntKind.i64.wrap (size - ((s.n : Nat) : Int)) = size - bs.length := by rw [o.buf.n, IntWalk.i64_in _ (by omega)]
  have same : ∀ {a b : Int} (_ : a = b), decide (a = b) = true := fun h => decide_eq_true h
  by_cases h1 : d < 1
  · refine ⟨h, s, fun β K => ?_, by simpa [copyR, h1] using o, .refl _ _, fun k hk => .inl hk⟩
    cases own; rotate_left
    · rw [cond_true]
      unfold F_hist_Out_Copy; rw [F_hist_Out_Copy_gen, hist_Out_ok_out o]; simp [h1, copyR]
    · rw [cond_false]
      unfold F_ref07_Out_Copy; rw [F_ref07_Out_Copy_gen]; simp [h1, copyR]
  by_cases h2 : n < 0
  · refine ⟨h, s, fun β K => ?_, by simpa [copyR, h1, h2] using o, .refl _ _, fun k hk => .inl hk⟩
    cases own; rotate_left
    · rw [cond_true]
      unfold F_hist_Out_Copy; rw [F_hist_Out_Copy_gen, hist_Out_ok_out o]; simp [h1, h2, copyR]
    · rw [cond_false]
      unfold F_ref07_Out_Copy; rw [F_ref07_Out_Copy_gen]; simp [h1, h2, copyR]
  by_cases h3 : d > 65536
  · refine ⟨h, s, fun β K => ?_, by simpa [copyR, h1, h2, h3] using o, .refl _ _, fun k hk => .inl hk⟩
    cases own; rotate_left
    · rw [cond_true]
      unfold F_hist_Out_Copy; rw [F_hist_Out_Copy_gen, hist_Out_ok_out o]; simp [h1, h2, h3, copyR, exA, o.c0, exI]
    · rw [cond_false]
      unfold F_ref07_Out_Copy; rw [F_ref07_Out_Copy_gen]; simp [h1, h2, h3, copyR, exA, o.c0, exI]
  by_cases h4 : n > size - bs.length
  · refine ⟨h, s, fun β K => ?_, by simpa [copyR, h1, h2, h3, h4] using o, .refl _ _, fun k hk => .inl hk⟩
    cases own; rotate_left
    · rw [cond_true]
      unfold F_hist_Out_Copy; rw [F_hist_Out_Copy_gen, hist_Out_ok_out o]
      simp only [copyR, h1, h2, h3, h4, if_true, if_false, exA, o.c0, o.c1, o.c2, o.c3, exI, exS, exB, hw, decide_true, decide_false, cond_true, cond_false, Bool.not_true]
      cases decide (d > ((s.n : Nat) : Int)) <;> rfl
    · rw [cond_false]
      unfold F_ref07_Out_Copy; rw [F_ref07_Out_Copy_gen]
      simp only [copyR, h1, h2, h3, h4, if_true, if_false, exA, o.c0, o.c1, o.c2, o.c3, exI, exS, exB, hw, decide_true, decide_false, cond_true, cond_false, Bool.not_true]
      cases decide (d > ((s.n : Nat) : Int)) <;> rfl
  have hr : (grow d.toNat n.toNat bs) = (copyR size bs d n).2 := by simp [copyR, h1, h2, h3, h4]
  have hz : (copyR size bs d n).1 = 0 := by simp [copyR, h1, h2, h3, h4]
  obtain ⟨D, rfl⟩ : ∃ D : Nat, d = D := ⟨d.toNat, by omega⟩
  obtain ⟨N, rfl⟩ : ∃ N : Nat, n = N := ⟨n.toNat, by omega⟩
  have hN : N < R := by omega
  cases own
  · obtain ⟨h', s', e1, o1, k1, n1⟩ := ref_copy (d := D) (by omega) (by omega) R N R 0 N o hN (by omega) (by omega) (by omega) (by omega)
    refine ⟨h', s', fun β K => ?_, by rw [← hr]; exact o1, k1, n1⟩
    rw [cond_false]
    unfold F_ref07_Out_Copy; rw [F_ref07_Out_Copy_gen, hz]
    simp only [h1, h2, h3, h4, exA, o.c0, o.c1, o.c2, o.c3, exI, exS, exB, hw, decide_true, decide_false, cond_true, cond_false, Bool.not_true]
    cases decide ((D : Int) > ((s.n : Nat) : Int))
    · rw [cond_false, e1]
    · rw [cond_true, e1]
  · obtain ⟨m', bs', h', s', e1, hm', hg, hc, hl, o1, k1, n1⟩ := own_copy (d := D) (by omega) (by omega) R N R o hN (by omega)
    obtain ⟨h2', s2, e2, o2, k2, n2⟩ := own_chunks (d := D) (by omega) (by omega) R m' m' R o1 (Nat.le_refl _) (by omega) (by omega) hc
    refine ⟨h2', s2, fun β K => ?_, by rw [← hr]; rw [← hg] at o2; exact o2, k1.trans k2 n1, fun k hk => (n2 k hk).elim (n1 k) fun h => .inr (by have := k1.1; omega)⟩
    rw [cond_true]
    unfold F_hist_Out_Copy; rw [F_hist_Out_Copy_gen, hist_Out_ok_out o, hz]
    have e1' := e1 β (F_hist_Out_ok R)
    have e2' := e2 β (F_hist_Out_ok R)
    generalize F_hist_Out_Copy_l0 (β := β) (F_hist_Out_ok R) R R = L0 at e1' ⊢
    generalize F_hist_Out_Copy_l1 (β := β) (F_hist_Out_ok R) R R = L1 at e2' ⊢
    rw [Bool.not_true, cond_false, decide_eq_false h1, cond_false, decide_eq_false h2, cond_false]
    simp only [exA, o.c0, exI, decide_true, cond_true]
    rw [decide_eq_false h3, cond_false]
    simp only [o.c3, exS, o.c2, o.c1, exB, decide_true, cond_true, hw]
    rw [decide_eq_false h4]
    cases decide ((D : Int) > ((s.n : Nat) : Int))
    · rw [cond_false, cond_false, e1', e2']
    · rw [cond_true, Bool.not_true, cond_false, cond_false, e1', e2']
end
end Go.Proofs.Ytdmemmpkkibckaa.Gx

