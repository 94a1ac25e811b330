/- What the laws over items begin with. No condition. -/
import Derived.Test.YtibngikhlgmhaaaDnS
import Derived.Test.YtibngikhlgmhaaaDnZ
namespace Go.Proofs.Ytibngikhlgmhaaa.Gx
open Go Go.RowKit
set_option linter.unusedVariables false
set_option linter.unusedSimpArgs false
/-- numbers of four bytes are -/
structure UO (c : Cn) : Prop where
  a6 : 0 ≤ c.a6 ∧ c.a6 ≤ 4294967295
  a8 : 0 ≤ c.a8 ∧ c.a8 ≤ 4294967295
  a14 : 0 ≤ c.a14 ∧ c.a14 ≤ 4294967295
/-- items as they come in -/
structure InIt (h : GH) (x : ItR) : Prop where
  ok : ItOk h x
  b8 : B8 x.c.nm ∧ B8 x.c.ex ∧ B8 x.c.cm ∧ B8 x.ex ∧ B8 x.da
  u6 : 0 ≤ x.c.a6 ∧ x.c.a6 ≤ 4294967295
  u8 : 0 ≤ x.c.a8 ∧ x.c.a8 ≤ 4294967295
  u14 : 0 ≤ x.c.a14 ∧ x.c.a14 ≤ 4294967295
theorem b8_take {bs : List Int} (h : B8 bs) (n : Nat) : B8 (bs.take n) := fun x hx => h x (List.mem_of_mem_take hx)
/-- none of it too long -/
structure Cs (it : It) : Prop where
  nm : it.c.nm.length ≤ 60
  xx : it.c.ex.length ≤ 60
  cm : it.c.cm.length ≤ 60
  ex : it.ex.length ≤ 60
  da : it.da.length ≤ 300
theorem few_sm {h : GH} {l l' : List ItR} {n : Nat} (em : l'.map ItR.it = (l.take n).map (fun x => cutI x.it)) (hi : ∀ x ∈ l, InIt h x) : ∀ x ∈ l', Sm x.it ∧ UO x.c ∧ Cs x.it := fun x hx => by
  have h1 : x.it ∈ (l.take n).map (fun x => cutI x.it) := by rw [← em]; exact List.mem_map_of_mem hx
  obtain ⟨z, hz, e⟩ := List.mem_map.1 h1
  have iz := hi z (List.mem_of_mem_take hz)
  have hc : x.c = (cutI z.it).c := (congrArg It.c e).symm
  refine ⟨?_, ?_, ?_⟩
  · rw [← e]
    obtain ⟨b1, b2, b3, b4, b5⟩ := iz.b8
    exact ⟨⟨b8_take b1 60, by show (z.c.nm.take 60).length ≤ _; simp; omega⟩, ⟨b8_take b2 60, by show (z.c.ex.take 60).length ≤ _; simp; omega⟩, ⟨b8_take b3 60, by show (z.c.cm.take 60).length ≤ _; simp; omega⟩, ⟨b8_take b4 60, by show (z.ex.take 60).length ≤ _; simp; omega⟩, ⟨b8_take b5 300, by show (z.da.take 300).length ≤ _; simp; omega⟩⟩
  · rw [hc]
    exact ⟨iz.u6, iz.u8, iz.u14⟩
  · rw [← e]
    exact ⟨by show (z.c.nm.take 60).length ≤ _; simp; omega, by show (z.c.ex.take 60).length ≤ _; simp; omega, by show (z.c.cm.take 60).length ≤ _; simp; omega, by show (z.ex.take 60).length ≤ _; simp; omega, by show (z.da.take 300).length ≤ _; simp; omega⟩
/-- what both laws begin with: the items cut, the comment cut, the program's items -/
theorem law_start {h : GH} {y c : Sl} {l : List ItR} {cm : List Int} (r : Row h y 18 (itCells l)) (hi : ∀ x ∈ l, InIt h x) (rc : Rd h c cm) (hc8 : B8 cm) {n : Nat} (hn : n ≤ 90) {R : Nat} (hR : 4000000 < R) :
    ∃ h1 y1 l1 q h2 y2, Its h1 y1 h.next l1 ∧ (∀ x ∈ l1, Sm x.it ∧ UO x.c ∧ Cs x.it) ∧ l1.length ≤ n ∧ Keep h h1 [] ∧ Keep h1 h2 [] ∧ Rd h1 q (cm.take 60) ∧ B8 (cm.take 60) ∧ (cm.take 60).length ≤ 60 ∧ Its h2 y2 h.next l1 ∧
      (∀ (β : Type) (K : Sl → GH → Option β), F_ref26_Few R y ((n : Nat) : Int) h K = K y1 h1) ∧ (∀ (β : Type) (K : Sl → GH → Option β), F_ref01_Cut R c ((60 : Nat) : Int) h1 K = K q h1) ∧ (∀ (β : Type) (K : Sl → GH → Option β), F_law26_mine R y1 h1 K = K y2 h2) := by
  obtain ⟨h1, y1, l1, k1, i1, em, e1⟩ := few_items r (fun x hx => (hi x hx).ok) (n := n) (by omega) hR
  have ll : l1.length ≤ n := by have := congrArg List.length em; simp at this; omega
  obtain ⟨q, rq, nq, e2⟩ := ref_cut (rc.keep k1 (by simp)) R 60
  obtain ⟨h2, y2, k2, i2, e3⟩ := mine_items i1 k1.1 (by omega) hR
  exact ⟨h1, y1, l1, q, h2, y2, i1, few_sm em hi, ll, k1, k2, rq, b8_take hc8 60, by simp; omega, i2, e1, e2, e3⟩
theorem in_items {w : World} {L : List Ar} {l : List RI} {g : Nat} (s : Stand L l g) (ok : ∀ r ∈ l, r.Ok w) : ∀ x ∈ itrs l g, InIt (arGH L) x := fun x hx => by
  obtain ⟨h1, h2, h3, h4, h5⟩ := itrs_mem l g s ok x hx
  exact ⟨h1, h2, h3, h4, h5⟩
end Go.Proofs.Ytibngikhlgmhaaa.Gx

