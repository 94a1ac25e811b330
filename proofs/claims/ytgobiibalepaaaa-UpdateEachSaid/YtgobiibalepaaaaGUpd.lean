/- update.Plan walked: what becomes of all olds and news. No condition. -/
import Derived.Test.YtgobiibalepaaaaGPlan
namespace Go.Proofs.Ytgobiibalepaaaa.Q
open Go.RowKit Go.Maps Go.Proofs.YtgobiibalepaaaaW.PrintWords Go.Proofs.YtgobiibalepaaaaW.PrintLast Go.Proofs.YtgobiibalepaaaaW.PrintMore
set_option linter.unusedVariables false

def freshB (ok nk : List (List Int)) (j : Nat) : Bool := decide (fstU ok (nk.getD j []) ok.length = none ∧ lstU nk (nk.getD j []) nk.length = some j)
theorem isNew_eq (mode : Int) (ok nk : List (List Int)) (j : Nat) : isNew mode ok nk j = (decide (mode ≠ 3) && freshB ok nk j) := by
  unfold isNew freshB
  rw [← Bool.decide_and]
theorem lstU_none {ks : List (List Int)} {k : List Int} {n : Nat} (h : lstU ks k n = none) : ∀ i, i < n → ks.getD i [] ≠ k := by
  induction n with
  | zero => intro i hi; omega
  | succ n ih =>
    rw [lstU] at h
    split at h
    · cases h
    · rename_i hne
      intro i hi
      rcases Nat.lt_or_ge i n with h1 | h1
      · exact ih h i h1
      · obtain rfl : i = n := by omega
        exact hne
set_option maxHeartbeats 4000000 in
theorem fresh_any (w : World) (pg f g : Nat) (mode : Int) (A1 : Option Addr) (n1 c1 : Nat) (l1 : List Uhg) (A2 : Option Addr) (n2 c2 : Nat) (l2 : List Uhg) (j : Nat) (h : PL w pg f g mode A1 n1 c1 l1 A2 n2 c2 l2) (hj : j < n2) (hc2 : n2 ≤ c2) :
    Calls Try.prog 19 #[.pointer (some ⟨pg, 0, none⟩), .int .i64 j] w fun e w' => e = .returned (.bool (freshB (keysT l1) (keysT l2) j)) ∧ Below w.heap.size w w' := by
  have he2 := h.e2
  have hn2 := thingsOk_len h.ok2
  have hjl : j < l2.length := by rw [← he2]; exact hj
  obtain ⟨b, o, A0, c0, hA, hb0, x0, x1, x2, hl0, hC0⟩ := thg_plain h.r2 hjl
  subst hA
  have hko := thingsOk_rd h.ok2 hjl
  have hkey := keysT_at hjl
  generalize rd_T54 l2 (j : Int) = t at x0 x1 x2 hl0 hC0 hko hkey
  obtain ⟨t0, t1, t2⟩ := t
  simp only at x0 x1 x2 hl0 hC0 hko hkey
  obtain ⟨ln, hln⟩ : ∃ ln, ln = t0.length := ⟨_, rfl⟩
  rw [← hln] at x0
  have q0 : (j : Int) < n2 := by omega
  have q8 : n2 ≤ 1000 := by omega
  have HL := hide h
  have p2 : w.cell? ⟨pg, 2, none⟩ = some (.slice (some ⟨b, o, none⟩) n2 c2) := h.blk.cell 2
  have Hln := hide hln
  have HC := hide hC0
  have HK := hide hko
  have HKey := hide hkey
  have Hjl := hide hjl
  clear hln hC0 hko hkey h hjl he2 hn2
  go_enter Try.func19, Try.ntmps19
  go_wp2_with fail
  (with_reducible refine (foldAll_n _ A0 ln c0 t0 Hln.out HC.out hl0 HK.out.one HK.out.two).mono ?_)
  rintro e w2 ⟨v2, rfl, hR, hb2⟩
  obtain ⟨A3, c3, rfl, hl3, hC3⟩ := Kd.R_reads hR
  have hko := keyOk_fold HK.out
  have hkey := HKey.out
  generalize foldN t0 = key at hl3 hC3 hko hkey ⊢
  have hconv := Kd.C_string (c := c3) Try.underlying34 Try.underlying5 Try.underlying9 hC3
  have hP := HL.out.keep hb2
  have p3 : w2.cell? ⟨pg, 3, none⟩ = some (.map (some f)) := hP.blk.cell 3
  have p4 : w2.cell? ⟨pg, 4, none⟩ = some (.map (some g)) := hP.blk.cell 4
  have hlook := hP.first.look_ok hko
  have hlook2 := hP.last.look hko
  try simp only at hlook hlook2
  clear hP hR hC3 HC HL p2 x0 x1 x2
  cases hF : fstU (keysT l1) key l1.length with
  | some p =>
    rw [hF] at hlook
    have hr : freshB (keysT l1) (keysT l2) j = false := by unfold freshB; rw [hkey, keysT_len, hF]; simp
    replace hr := hide hr
    replace hF := hide hF
    replace hkey := hide hkey
    replace hko := hide hko
    go_wp2_with fail
    go_ret
    exact ⟨by rw [hr.out]; rfl, hb2⟩
  | none =>
    rw [hF] at hlook
    cases hL : lstU (keysT l2) key l2.length with
    | none => exact absurd hkey (lstU_none hL j Hjl.out)
    | some q =>
      rw [hL, show valO (some q) = (q : Int) from rfl] at hlook2
      by_cases hq : q = j
      · have hr : freshB (keysT l1) (keysT l2) j = true := by unfold freshB; rw [hkey, keysT_len, keysT_len, hF, hL, hq]; simp
        have hqb : ((q : Int) == (j : Int)) = true := by simp [hq]
        replace hr := hide hr
        replace hF := hide hF
        replace hL := hide hL
        replace hkey := hide hkey
        replace hko := hide hko
        replace hq := hide hq
        go_wp2_with fail
        go_ret
        exact ⟨by rw [hr.out]; rfl, hb2⟩
      · have hr : freshB (keysT l1) (keysT l2) j = false := by unfold freshB; rw [hkey, keysT_len, keysT_len, hF, hL]; simp [hq]
        have hqb : ((q : Int) == (j : Int)) = false := by simp; omega
        replace hr := hide hr
        replace hF := hide hF
        replace hL := hide hL
        replace hkey := hide hkey
        replace hko := hide hko
        replace hq := hide hq
        go_wp2_with fail
        go_ret
        exact ⟨by rw [hr.out]; rfl, hb2⟩
/-! ### acts in memory -/
def actCs (l : List (Int × Int × Int)) : List Value := l.flatMap fun a => [.int .i64 a.1, .int .i64 a.2.1, .int .i64 a.2.2]
theorem actCs_len (l : List (Int × Int × Int)) : (actCs l).length = l.length * 3 := by
  induction l with
  | nil => rfl
  | cons a l ih => simp only [actCs, List.flatMap_cons, List.length_append, List.length_cons, List.length_nil] at ih ⊢; omega
theorem actCs_snoc (l : List (Int × Int × Int)) (a : Int × Int × Int) : actCs (l ++ [a]) = actCs l ++ [.int .i64 a.1, .int .i64 a.2.1, .int .i64 a.2.2] := by simp [actCs]
theorem actCs_at (l : List (Int × Int × Int)) (j : Nat) (a : Int × Int × Int) (h : l[j]? = some a) : ((actCs l).drop (j * 3)).take 3 = [.int .i64 a.1, .int .i64 a.2.1, .int .i64 a.2.2] := by
  induction l generalizing j with
  | nil => simp at h
  | cons b l ih =>
    have hc : actCs (b :: l) = [.int .i64 b.1, .int .i64 b.2.1, .int .i64 b.2.2] ++ actCs l := by simp [actCs]
    cases j with
    | zero =>
      have : b = a := by simpa using h
      subst this
      rw [hc]; rfl
    | succ j =>
      have h2 : l[j]? = some a := by simpa using h
      rw [hc, show (j + 1) * 3 = 3 + j * 3 by omega, ← List.drop_drop]
      exact ih j h2
theorem R_of_acts {w : World} {base n : Nat} {v : Value} {l : List (Int × Int × Int)} (ho : w.ownsRow base 32 3 v n (actCs l)) (hn : n = l.length) : Kd.R k32 32 w base (fun _ => True) v (l.map actS) := by
  subst hn
  refine ⟨fun _ _ => trivial, actCs l, by rw [List.length_map]; exact ho, by rw [List.length_map]; exact actCs_len l, fun j p hj => ?_⟩
  rw [List.getElem?_map, Option.map_eq_some_iff] at hj
  obtain ⟨a, ha, rfl⟩ := hj
  have hs : k32.sz = 3 := rfl
  rw [hs, actCs_at l j a ha]
  exact k32_mkM _ _ _ (actS a)
theorem own_maps_ne {w : World} {base : Nat} {e : TypeId} {size n : Nat} {v : Value} {xs : List Value} {b m : Nat} {M : List Int → Option Nat} (h : w.ownsRow base e size v n xs) (hm : MapS w b m M) : some b ≠ v.ownBlock := by
  obtain ⟨D, ⟨es, clock, hh, _⟩, _⟩ := hm
  rcases h.2 with ⟨rfl, _⟩ | ⟨g', cap, cur, rfl, _, hg, _⟩
  · simp [Value.ownBlock]
  · intro he
    have : b = g' := by simpa [Value.ownBlock] using he
    subst this
    rw [hh] at hg
    cases hg
theorem PL.grown {w w' : World} {pg f g : Nat} {mode : Int} {A1 A2 : Option Addr} {n1 c1 n2 c2 : Nat} {l1 l2 : List Uhg} {v : Value} {n : Nat} {xs : List Value} {base : Nat} (h : PL w pg f g mode A1 n1 c1 l1 A2 n2 c2 l2) (hown : w.ownsRow base 32 3 v n xs) (o : Obj) (hg : (w.alloc o).grownBy w' v.ownBlock)
    (r1 : Kd.C k54 w' A1 l1.length l1) (r2 : Kd.C k54 w' A2 l2.length l2) : PL w' pg f g mode A1 n1 c1 l1 A2 n2 c2 l2 := by
  have hb1 : Below w.heap.size w (w.alloc o) := (Below.refl _ _).alloc (Nat.le_refl _) o
  have m1 := h.first.step hb1
  have m2 := h.last.step hb1
  have n1 := own_maps_ne (hown.alloc o) m1
  have n2 := own_maps_ne (hown.alloc o) m2
  refine ⟨(h.blk.alloc o).grown hg (fun e => own_blk_ne hown h.blk (by decide) e.symm), ?_, ?_, r1, r2, h.e1, h.e2, h.ok1, h.ok2⟩
  · obtain ⟨D, hD, hM⟩ := m1
    exact ⟨D, hD.kept hg n1, hM⟩
  · obtain ⟨D, hD, hM⟩ := m2
    exact ⟨D, hD.kept hg n2, hM⟩
end Go.Proofs.Ytgobiibalepaaaa.Q

