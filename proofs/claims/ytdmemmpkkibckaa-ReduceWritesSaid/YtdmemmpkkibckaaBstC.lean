/- The best followers of all bytes: the document's. No condition. -/
import Derived.Test.YtdmemmpkkibckaaBstB
namespace Go.Proofs.Ytdmemmpkkibckaa.Gx
open Go Go.RowKit
set_option linter.unusedVariables false
set_option linter.unusedSimpArgs false
/-- what a row of 256 slices holds -/
structure SlB (h : GH) (g lo : Nat) (ss : List Sl) (L : Nat → List Int) : Prop where
  look : h.look g = some (.row ⟨ss.map slV, 0, false⟩)
  len : ss.length = 256
  rd : ∀ c, c < 256 → Rd h (ss.getD c ⟨none, 0, 0⟩) (L c) ∧ ∀ k ∈ rowsOf (ss.getD c ⟨none, 0, 0⟩), lo ≤ k ∧ k ≠ g
theorem SlB.keep {h h' : GH} {g lo : Nat} {ss : List Sl} {L : Nat → List Int} (s : SlB h g lo ss L) {own : List Nat} (k : Keep h h' own) (h1 : g ∉ own) (h2 : ∀ x ∈ own, x < lo ∨ x = g) : SlB h' g lo ss L :=
  ⟨k.look s.look h1, s.len, fun c hc => ⟨(s.rd c hc).1.keep k (fun x hx hm => by have := (s.rd c hc).2 x hx; have := h2 x hm; omega), (s.rd c hc).2⟩⟩
theorem SlB.cell {h : GH} {g lo : Nat} {ss : List Sl} {L : Nat → List Int} (s : SlB h g lo ss L) {c : Nat} (hc : c < 256) : h.cell ⟨g, c, none⟩ = some (.slice (ss.getD c ⟨none, 0, 0⟩).a (ss.getD c ⟨none, 0, 0⟩).n (ss.getD c ⟨none, 0, 0⟩).c) := by
  have hl := s.len
  rw [cell_of s.look, nth_eq, List.getElem?_map, List.getD_eq_getElem?_getD, List.getElem?_eq_getElem (by omega)]; rfl
theorem allCells_slV : ∀ ss : List Sl, allCells (ss.map slV) = true
  | [] => rfl
  | s :: ss => by rw [List.map_cons, allCells_c, allCells_slV ss]; rfl
theorem sl_put {h : GH} {g : Nat} {ss : List Sl} (hl : h.look g = some (.row ⟨ss.map slV, 0, false⟩)) {i : Nat} (hi : i < ss.length) (x : Sl) {β : Type} (K : GH → Option β) : gput g i [Value.slice x.a x.n x.c] h K = K (h.put g (some (.row ⟨(ss.set i x).map slV, 0, false⟩))) := by
  rw [gput_eq hl rfl (by simp; omega)]
  congr 5
  rw [nlay_eq, List.map_set]
  apply List.ext_getElem?
  intro j
  rw [List.getElem?_set]
  by_cases h1 : j < i
  · rw [List.append_assoc, List.getElem?_append_left (by simp; omega), List.getElem?_take, if_pos h1, if_neg (by omega)]
  · by_cases h2 : j = i
    · subst h2
      rw [if_pos rfl, if_pos (by simpa using hi), List.append_assoc, List.getElem?_append_right (by simp; omega)]
      simp only [List.length_take, List.length_map]
      rw [Nat.min_eq_left (by omega), Nat.sub_self]; rfl
    · rw [if_neg (Ne.symm h2), List.getElem?_append_right (by simp; omega), List.getElem?_drop]
      congr 1
      simp only [List.length_append, List.length_take, List.length_map, List.length_singleton]
      omega
theorem SlB.put {h : GH} {g lo : Nat} {ss : List Sl} {L : Nat → List Int} (s : SlB h g lo ss L) {c : Nat} (hc : c < 256) {x : Sl} {bs : List Int} (r : Rd h x bs) (hx : ∀ k ∈ rowsOf x, lo ≤ k ∧ k ≠ g) : ∃ h', SlB h' g lo (ss.set c x) (fun k => if k = c then bs else L k) ∧ Keep h h' [g] ∧ ∀ (β : Type) (K : GH → Option β), gput g c [Value.slice x.a x.n x.c] h K = K h' := by
  have hl := s.len
  have k0 := keep_put h g (some (.row ⟨(ss.set c x).map slV, 0, false⟩))
  refine ⟨_, ⟨look_put_same (look_lt s.look), by rw [List.length_set]; exact hl, fun k hk => ?_⟩, k0, fun β K => sl_put s.look (by omega) x K⟩
  by_cases e : k = c
  · subst e
    rw [if_pos rfl, List.getD_eq_getElem?_getD, List.getElem?_set, if_pos rfl, if_pos (by omega)]
    exact ⟨r.keep k0 (fun y hy hm => by simp at hm; exact (hx y hy).2 hm), hx⟩
  · rw [if_neg e, List.getD_eq_getElem?_getD, List.getElem?_set, if_neg (fun q => e q.symm), ← List.getD_eq_getElem?_getD]
    exact ⟨(s.rd k hk).1.keep k0 (fun y hy hm => by simp at hm; exact ((s.rd k hk).2 y hy).2 hm), (s.rd k hk).2⟩
theorem SlB.congr {h : GH} {g lo : Nat} {ss : List Sl} {L M : Nat → List Int} (s : SlB h g lo ss L) (e : ∀ c, c < 256 → L c = M c) : SlB h g lo ss M := ⟨s.look, s.len, fun c hc => by rw [← e c hc]; exact s.rd c hc⟩
theorem cut_cap {h : GH} {s : Sl} {bs : List Int} (r : Rd h s bs) {k : Nat} (hk : k ≤ bs.length) : Rd h ⟨addO s.a (0 * 1), k - 0, s.c - 0⟩ (bs.take k) := by
  have hn := r.n
  have hc := r.cap
  have := r.sub (lo := 0) (hi := k) (mx := s.c) (Nat.zero_le _) (by omega) (by omega) (Nat.le_refl _) (fun ha => by
    rcases r.at_ with ⟨_, _, q⟩ | ⟨g, o, b, q, _⟩
    · exact q
    · rw [ha] at q; cases q)
  simp only [Nat.zero_mul, List.drop_zero, Nat.sub_zero, Nat.mul_one] at this ⊢
  unfold Rd
  unfold u8s at this ⊢
  rw [List.map_take]; exact this
end Go.Proofs.Ytdmemmpkkibckaa.Gx

