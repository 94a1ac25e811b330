/- DenoteJoins: it answers true. No condition. -/
import Derived.Test.YtibngikhlgmhaaaDnS
import Derived.Test.YtibngikhlgmhaaaDnW
import Derived.Test.YtibngikhlgmhaaaDnZ
namespace Go.Proofs.Ytibngikhlgmhaaa.Gx
open Go Go.RowKit
set_option linter.unusedVariables false
set_option linter.unusedSimpArgs false
/-- items as they come in -/
structure InIt (h : GH) (x : ItR) : Prop where
  ok : ItOk h x
  b8 : B8 x.c.nm ∧ B8 x.c.ex ∧ B8 x.c.cm ∧ B8 x.ex ∧ B8 x.da
  u6 : 0 ≤ x.c.a6 ∧ x.c.a6 ≤ 4294967295
  u8 : 0 ≤ x.c.a8 ∧ x.c.a8 ≤ 4294967295
  u14 : 0 ≤ x.c.a14 ∧ x.c.a14 ≤ 4294967295
theorem b8_take {bs : List Int} (h : B8 bs) (n : Nat) : B8 (bs.take n) := fun x hx => h x (List.mem_of_mem_take hx)
theorem few_sm {h : GH} {l l' : List ItR} {n : Nat} (em : l'.map ItR.it = (l.take n).map (fun x => cutI x.it)) (hi : ∀ x ∈ l, InIt h x) : ∀ x ∈ l', Sm x.it ∧ UO x.c := fun x hx => by
  have h1 : x.it ∈ (l.take n).map (fun x => cutI x.it) := by rw [← em]; exact List.mem_map_of_mem hx
  obtain ⟨z, hz, e⟩ := List.mem_map.1 h1
  have iz := hi z (List.mem_of_mem_take hz)
  have hc : x.c = (cutI z.it).c := (congrArg It.c e).symm
  refine ⟨?_, ?_⟩
  · rw [← e]
    obtain ⟨b1, b2, b3, b4, b5⟩ := iz.b8
    exact ⟨⟨b8_take b1 60, by show (z.c.nm.take 60).length ≤ _; simp; omega⟩, ⟨b8_take b2 60, by show (z.c.ex.take 60).length ≤ _; simp; omega⟩, ⟨b8_take b3 60, by show (z.c.cm.take 60).length ≤ _; simp; omega⟩, ⟨b8_take b4 60, by show (z.ex.take 60).length ≤ _; simp; omega⟩, ⟨b8_take b5 300, by show (z.da.take 300).length ≤ _; simp; omega⟩⟩
  · rw [hc]
    exact ⟨iz.u6, iz.u8, iz.u14⟩
/-- what both laws begin with: the items cut, the comment cut, the program's items -/
theorem law_start {h : GH} {y c : Sl} {l : List ItR} {cm : List Int} (r : Row h y 18 (itCells l)) (hi : ∀ x ∈ l, InIt h x) (rc : Rd h c cm) (hc8 : B8 cm) {n : Nat} (hn : n ≤ 90) {R : Nat} (hR : 4000000 < R) :
    ∃ h1 y1 l1 q h2 y2, Its h1 y1 h.next l1 ∧ (∀ x ∈ l1, Sm x.it ∧ UO x.c) ∧ l1.length ≤ n ∧ Keep h h1 [] ∧ Keep h1 h2 [] ∧ Rd h1 q (cm.take 60) ∧ B8 (cm.take 60) ∧ (cm.take 60).length ≤ 60 ∧ Its h2 y2 h.next l1 ∧
      (∀ (β : Type) (K : Sl → GH → Option β), F_ref26_Few R y ((n : Nat) : Int) h K = K y1 h1) ∧ (∀ (β : Type) (K : Sl → GH → Option β), F_ref01_Cut R c ((60 : Nat) : Int) h1 K = K q h1) ∧ (∀ (β : Type) (K : Sl → GH → Option β), F_law26_mine R y1 h1 K = K y2 h2) := by
  obtain ⟨h1, y1, l1, k1, i1, em, e1⟩ := few_items r (fun x hx => (hi x hx).ok) (n := n) (by omega) hR
  have ll : l1.length ≤ n := by have := congrArg List.length em; simp at this; omega
  obtain ⟨q, rq, nq, e2⟩ := ref_cut (rc.keep k1 (by simp)) R 60
  obtain ⟨h2, y2, k2, i2, e3⟩ := mine_items i1 k1.1 (by omega) hR
  exact ⟨h1, y1, l1, q, h2, y2, i1, few_sm em hi, ll, k1, k2, rq, b8_take hc8 60, by simp; omega, i2, e1, e2, e3⟩
theorem joins_true {h : GH} {y c : Sl} {l : List ItR} {cm : List Int} (r : Row h y 18 (itCells l)) (hi : ∀ x ∈ l, InIt h x) (rc : Rd h c cm) (hc8 : B8 cm) {R : Nat} (hR : 4000000 < R) : ∃ h', ∀ (β : Type) (K : Bool → GH → Option β), F_law26_DenoteJoins R y c h K = K true h' := by
  obtain ⟨h1, y1, l1, q, h2, y2, i1, sm, ll, k1, k2, rq, b8c, lc, i2, e1, e2, e3⟩ := law_start r hi rc hc8 (n := 5) (by omega) hR
  obtain ⟨h3, d, k3, n3, ok3, no3, b3, e4⟩ := join_prog i2 (rq.keep k2 (by simp)) b8c (by omega) (fun x hx => (sm x hx).1) (by omega) hR
  have k13 := k2.trans k3 (by simp)
  obtain ⟨h4, d4, k4, ok4, no4, e5⟩ := rjoin_ref (i1.keep k13 (by simp)) (rq.keep k13 (by simp)) b8c (by omega) (fun x hx => (sm x hx).1) (fun x hx => (sm x hx).2) (by omega) hR
  rw [show ((5 : Nat) : Int) = 5 from rfl] at e1
  rw [show ((60 : Nat) : Int) = 60 from rfl] at e2
  obtain ⟨J, hJ⟩ : ∃ J, J = joinP (l1.map ItR.it) (cm.take 60) := ⟨_, rfl⟩
  rw [← hJ] at ok3 no3 b3 e4 ok4 no4 e5
  have es : ∀ (β : Type) (K : Bool → GH → Option β), F_ref01_Same R d d4 h4 K = K true h4 := fun β K => by
    by_cases cJ : J.1 = 0
    · have := rsameD ((ok3 cJ).1.row.keep k4 (by simp)) (ok4 cJ).row (by have := (ok3 cJ).2; omega) hR K
      rw [this, decT rfl]
    · rw [(no3 cJ).1, no4 cJ]
      have := rsameD (Row.nil (h := h4) (z := 1)) (Row.nil (h := h4) (z := 1)) (xs := []) (ys := []) (by simp) hR K
      rw [this, decT rfl]
  refine ⟨h4, fun β K => ?_⟩
  unfold F_law26_DenoteJoins
  rw [F_law26_DenoteJoins_gen, e1, e2, e3, e4, e5, es, condT, beq_self_eq_true, condT, lives26']
theorem in_items {w : World} {L : List Ar} {l : List RI} {g : Nat} (s : Stand L l g) (ok : ∀ r ∈ l, r.Ok w) : ∀ x ∈ itrs l g, InIt (arGH L) x := fun x hx => by
  obtain ⟨h1, h2, h3, h4, h5⟩ := itrs_mem l g s ok x hx
  exact ⟨h1, h2, h3, h4, h5⟩
theorem joins_any {W : World} {a c : Option Addr} {len cap clen ccap : Nat} {l : List RI} {zs : List Int} (ri : RIs W a len cap l) (hr : IsRow .u8 W c clen ccap zs) : Calls Try.prog 5 #[.slice a len cap, .slice c clen ccap] W fun e W' => e = .returned (.bool true) ∧ Below W.heap.size W W' := by
  let L : List Ar := ⟨a, len, cap, 18, itCells (itrs l 2)⟩ :: ⟨c, clen, ccap, 1, u8s (zs.take clen)⟩ :: riArs l
  have s : Stand L l 2 := fun k x hx => by rw [Nat.add_comm]; exact hx
  have o0 := ar_items ri s
  have o1 := ar_bytes hr (arInj L)
  have ok : ∀ x ∈ L, ArOk (arInj L) W x := fun x hx => by
    rcases List.mem_cons.1 hx with rfl | hx
    · exact o0
    · rcases List.mem_cons.1 hx with rfl | hx
      · exact o1
      · exact riArs_ok l ri.ok x hx
  obtain ⟨h', e⟩ := joins_true (ar_row (l := L) (g := 0) rfl o0) (in_items s ri.ok) (ar_row (l := L) (g := 1) rfl o1) (IsRow.b8 hr) (R := rounds) (by unfold rounds; omega)
  obtain ⟨v, h1, hk, hc⟩ := F_law26_DenoteJoins_sim (β := Value × GH) (r := (.bool true, h')) (K := fun v h => some (v, h)) (e _ _)
  cases hk
  exact ar_calls ok hc (.cons (ar_vr (l := L) (g := 0) rfl o0) (.cons (ar_vr (l := L) (g := 1) rfl o1) .nil))
end Go.Proofs.Ytibngikhlgmhaaa.Gx

