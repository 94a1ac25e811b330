/- update.Plan walked: what becomes of all olds and news. No condition. -/
import Derived.Test.YtgobiibalepaaaaGPlan
namespace Go.Proofs.Ytgobiibalepaaaa.Q
open Go.RowKit Go.Maps Go.Proofs.YtgobiibalepaaaaW.PrintWords Go.Proofs.YtgobiibalepaaaaW.PrintLast Go.Proofs.YtgobiibalepaaaaW.PrintMore
set_option linter.unusedVariables false

def freshB (ok nk : List (List Int)) (j : Nat) : Bool := decide (fstU ok (nk.getD j []) ok.length = none ∧ lstU nk (nk.getD j []) nk.length = some j)
theorem isNew_eq (mode : Int) (ok nk : List (List Int)) (j : Nat) : isNew mode ok nk j = (decide (mode ≠ 3) && freshB ok nk j) := by
  unfold isNew freshB
  rw [← Bool.decide_and]
theorem lstU_none {ks : List (List Int)} {k : List Int} {n : Nat} (h : lstU ks k n = none) : ∀ i, i < n → ks.getD i [] ≠ k := by
  induction n with
  | zero => intro i hi; omega
  | succ n ih =>
    rw [lstU] at h
    split at h
    · cases h
    · rename_i hne
      intro i hi
      rcases Nat.lt_or_ge i n with h1 | h1
      · exact ih h i h1
      · obtain rfl : i = n := by omega
        exact hne
set_option maxHeartbeats 4000000 in
theorem fresh_any (w : World) (pg f g : Nat) (mode : Int) (A1 : Option Addr) (n1 c1 : Nat) (l1 : List Uhg) (A2 : Option Addr) (n2 c2 : Nat) (l2 : List Uhg) (j : Nat) (h : PL w pg f g mode A1 n1 c1 l1 A2 n2 c2 l2) (hj : j < n2) (hc2 : n2 ≤ c2) :
    Calls Try.prog 19 #[.pointer (some ⟨pg, 0, none⟩), .int .i64 j] w fun e w' => e = .returned (.bool (freshB (keysT l1) (keysT l2) j)) ∧ Below w.heap.size w w' := by
  have he2 := h.e2
  have hn2 := thingsOk_len h.ok2
  have hjl : j < l2.length := by rw [← he2]; exact hj
  obtain ⟨b, o, A0, c0, hA, hb0, x0, x1, x2, hl0, hC0⟩ := thg_plain h.r2 hjl
  subst hA
  have hko := thingsOk_rd h.ok2 hjl
  have hkey := keysT_at hjl
  generalize rd_T54 l2 (j : Int) = t at x0 x1 x2 hl0 hC0 hko hkey
  obtain ⟨t0, t1, t2⟩ := t
  simp only at x0 x1 x2 hl0 hC0 hko hkey
  obtain ⟨ln, hln⟩ : ∃ ln, ln = t0.length := ⟨_, rfl⟩
  rw [← hln] at x0
  have q0 : (j : Int) < n2 := by omega
  have q8 : n2 ≤ 1000 := by omega
  have HL := hide h
  have p2 : w.cell? ⟨pg, 2, none⟩ = some (.slice (some ⟨b, o, none⟩) n2 c2) := h.blk.cell 2
  have Hln := hide hln
  have HC := hide hC0
  have HK := hide hko
  have HKey := hide hkey
  have Hjl := hide hjl
  clear hln hC0 hko hkey h hjl he2 hn2
  go_enter Try.func19, Try.ntmps19
  go_wp2_with fail
  (with_reducible refine (foldAll_n _ A0 ln c0 t0 Hln.out HC.out hl0 HK.out.one HK.out.two).mono ?_)
  rintro e w2 ⟨v2, rfl, hR, hb2⟩
  obtain ⟨A3, c3, rfl, hl3, hC3⟩ := Kd.R_reads hR
  have hko := keyOk_fold HK.out
  have hkey := HKey.out
  generalize foldN t0 = key at hl3 hC3 hko hkey ⊢
  have hconv := Kd.C_string (c := c3) Try.underlying34 Try.underlying5 Try.underlying9 hC3
  have hP := HL.out.keep hb2
  have p3 : w2.cell? ⟨pg, 3, none⟩ = some (.map (some f)) := hP.blk.cell 3
  have p4 : w2.cell? ⟨pg, 4, none⟩ = some (.map (some g)) := hP.blk.cell 4
  have hlook := hP.first.look_ok hko
  have hlook2 := hP.last.look hko
  try simp only at hlook hlook2
  clear hP hR hC3 HC HL p2 x0 x1 x2
  cases hF : fstU (keysT l1) key l1.length with
  | some p =>
    rw [hF] at hlook
    have hr : freshB (keysT l1) (keysT l2) j = false := by unfold freshB; rw [hkey, keysT_len, hF]; simp
    replace hr := hide hr
    replace hF := hide hF
    replace hkey := hide hkey
    replace hko := hide hko
    go_wp2_with fail
    go_ret
    exact ⟨by rw [hr.out]; rfl, hb2⟩
  | none =>
    rw [hF] at hlook
    cases hL : lstU (keysT l2) key l2.length with
    | none => exact absurd hkey (lstU_none hL j Hjl.out)
    | some q =>
      rw [hL, show valO (some q) = (q : Int) from rfl] at hlook2
      by_cases hq : q = j
      · have hr : freshB (keysT l1) (keysT l2) j = true := by unfold freshB; rw [hkey, keysT_len, keysT_len, hF, hL, hq]; simp
        have hqb : ((q : Int) == (j : Int)) = true := by simp [hq]
        replace hr := hide hr
        replace hF := hide hF
        replace hL := hide hL
        replace hkey := hide hkey
        replace hko := hide hko
        replace hq := hide hq
        go_wp2_with fail
        go_ret
        exact ⟨by rw [hr.out]; rfl, hb2⟩
      · have hr : freshB (keysT l1) (keysT l2) j = false := by unfold freshB; rw [hkey, keysT_len, keysT_len, hF, hL]; simp [hq]
        have hqb : ((q : Int) == (j : Int)) = false := by simp; omega
        replace hr := hide hr
        replace hF := hide hF
        replace hL := hide hL
        replace hkey := hide hkey
        replace hko := hide hko
        replace hq := hide hq
        go_wp2_with fail
        go_ret
        exact ⟨by rw [hr.out]; rfl, hb2⟩
/-! ### acts in memory -/
def actCs (l : List (Int × Int × Int)) : List Value := l.flatMap fun a => [.int .i64 a.1, .int .i64 a.2.1, .int .i64 a.2.2]
theorem actCs_len (l : List (Int × Int × Int)) : (actCs l).length = l.length * 3 := by
  induction l with
  | nil => rfl
  | cons a l ih => simp only [actCs, List.flatMap_cons, List.length_append, List.length_cons, List.length_nil] at ih ⊢; omega
theorem actCs_snoc (l : List (Int × Int × Int)) (a : Int × Int × Int) : actCs (l ++ [a]) = actCs l ++ [.int .i64 a.1, .int .i64 a.2.1, .int .i64 a.2.2] := by simp [actCs]
theorem actCs_at (l : List (Int × Int × Int)) (j : Nat) (a : Int × Int × Int) (h : l[j]? = some a) : ((actCs l).drop (j * 3)).take 3 = [.int .i64 a.1, .int .i64 a.2.1, .int .i64 a.2.2] := by
  induction l generalizing j with
  | nil => simp at h
  | cons b l ih =>
    have hc : actCs (b :: l) = [.int .i64 b.1, .int .i64 b.2.1, .int .i64 b.2.2] ++ actCs l := by simp [actCs]
    cases j with
    | zero =>
      have : b = a := by simpa using h
      subst this
      rw [hc]; rfl
    | succ j =>
      have h2 : l[j]? = some a := by simpa using h
      rw [hc, show (j + 1) * 3 = 3 + j * 3 by omega, ← List.drop_drop]
      exact ih j h2
theorem R_of_acts {w : World} {base n : Nat} {v : Value} {l : List (Int × Int × Int)} (ho : w.ownsRow base 32 3 v n (actCs l)) (hn : n = l.length) : Kd.R k32 32 w base (fun _ => True) v (l.map actS) := by
  subst hn
  refine ⟨fun _ _ => trivial, actCs l, by rw [List.length_map]; exact ho, by rw [List.length_map]; exact actCs_len l, fun j p hj => ?_⟩
  rw [List.getElem?_map, Option.map_eq_some_iff] at hj
  obtain ⟨a, ha, rfl⟩ := hj
  have hs : k32.sz = 3 := rfl
  rw [hs, actCs_at l j a ha]
  exact k32_mkM _ _ _ (actS a)
theorem own_maps_ne {w : World} {base : Nat} {e : TypeId} {size n : Nat} {v : Value} {xs : List Value} {b m : Nat} {M : List Int → Option Nat} (h : w.ownsRow base e size v n xs) (hm : MapS w b m M) : some b ≠ v.ownBlock := by
  obtain ⟨D, ⟨es, clock, hh, _⟩, _⟩ := hm
  rcases h.2 with ⟨rfl, _⟩ | ⟨g', cap, cur, rfl, _, hg, _⟩
  · simp [Value.ownBlock]
  · intro he
    have : b = g' := by simpa [Value.ownBlock] using he
    subst this
    rw [hh] at hg
    cases hg
theorem PL.grown {w w' : World} {pg f g : Nat} {mode : Int} {A1 A2 : Option Addr} {n1 c1 n2 c2 : Nat} {l1 l2 : List Uhg} {v : Value} {n : Nat} {xs : List Value} {base : Nat} (h : PL w pg f g mode A1 n1 c1 l1 A2 n2 c2 l2) (hown : w.ownsRow base 32 3 v n xs) (o : Obj) (hg : (w.alloc o).grownBy w' v.ownBlock)
    (r1 : Kd.C k54 w' A1 l1.length l1) (r2 : Kd.C k54 w' A2 l2.length l2) : PL w' pg f g mode A1 n1 c1 l1 A2 n2 c2 l2 := by
  have hb1 : Below w.heap.size w (w.alloc o) := (Below.refl _ _).alloc (Nat.le_refl _) o
  have m1 := h.first.step hb1
  have m2 := h.last.step hb1
  have n1 := own_maps_ne (hown.alloc o) m1
  have n2 := own_maps_ne (hown.alloc o) m2
  refine ⟨(h.blk.alloc o).grown hg (fun e => own_blk_ne hown h.blk (by decide) e.symm), ?_, ?_, r1, r2, h.e1, h.e2, h.ok1, h.ok2⟩
  · obtain ⟨D, hD, hM⟩ := m1
    exact ⟨D, hD.kept hg n1, hM⟩
  · obtain ⟨D, hD, hM⟩ := m2
    exact ⟨D, hD.kept hg n2, hM⟩
open Go.RowKit Go.Maps Go.Proofs.YtgobiibalepaaaaW.PrintWords Go.Proofs.YtgobiibalepaaaaW.PrintLast Go.Proofs.YtgobiibalepaaaaW.PrintMore
set_option linter.unusedVariables false

theorem actInfo3 : (Try.prog.info? 32).map (fun i => (i.zero, i.size, i.bytes)) = some (some (.agg #[.int .i64 0, .int .i64 0, .int .i64 0]), 3, 24) := by kernel_rfl
theorem names_n (w : World) (A : Option Addr) (n c : Nat) (l : List Uhg) (last : Bool) (hn : n = l.length) (h : Kd.C k54 w A l.length l) (hc : l.length ≤ c) (hok : thingsOk l = true) :
    Calls Try.prog 17 #[.slice A n c, .bool last] w fun e w' => ∃ g, e = .returned (.map (some g)) ∧ Below w.heap.size w w' ∧ w.heap.size ≤ g ∧ MapS w' g n (fun ks => pickU last (keysT l) ks l.length) := by
  subst hn
  exact names_any w A c l last h hc hok
theorem news_three {ok nk : List (List Int)} {q : Nat} {mode : Int} (h : mode = 3) : isNew mode ok nk q = false := by rw [isNew_eq]; simp [h]
theorem news_fresh {ok nk : List (List Int)} {q : Nat} {mode : Int} {b : Bool} (h : mode ≠ 3) (hb : freshB ok nk q = b) : isNew mode ok nk q = b := by rw [isNew_eq, hb]; simp [h]
theorem olds_len (mode : Int) (ok nk : List (List Int)) (lt : Nat → Nat → Bool) (n : Nat) : (olds mode ok nk lt n).length = n := by simp [olds]
set_option maxHeartbeats 4000000 in
theorem plan_in (a0 : Int) (A1 : Option Addr) (n1 c1 : Nat) (l1 : List Uhg) (A2 : Option Addr) (n2 c2 : Nat) (l2 : List Uhg) (w : World) (hn1 : n1 = l1.length) (hn2 : n2 = l2.length) (hr1 : Kd.C k54 w A1 l1.length l1) (hc1 : n1 ≤ c1) (hr2 : Kd.C k54 w A2 l2.length l2) (hc2 : n2 ≤ c2) (h1 : thingsOk l1 = true) (h2 : thingsOk l2 = true) (h3 : ¬ a0 < 1) (h4 : ¬ 4 < a0) :
    Calls Try.prog 7 #[.int .i64 a0, .slice A1 n1 c1, .slice A2 n2 c2] w fun e w' => ∃ v0_ : Value, e = .returned (.tuple #[v0_, .int .i64 0]) ∧ Kd.R k32 32 w' w.heap.size (fun _ => True) v0_ (planT a0 l1 l2) ∧ Below w.heap.size w w' := by
  obtain ⟨i0, hi0, hz0, hz1, hz2⟩ := info_parts actInfo3
  have q1 : n1 ≤ 1000 := by rw [hn1]; exact thingsOk_len h1
  have q2 : n2 ≤ 1000 := by rw [hn2]; exact thingsOk_len h2
  have g3 : decide (a0 < 1) = false := by simpa using h3
  have g4 : decide (4 < a0) = false := by simpa using h4
  have HN1 := hide hn1
  have HN2 := hide hn2
  have HR1 := hide hr1
  have HR2 := hide hr2
  have H1 := hide h1
  have H2 := hide h2
  have hcl1 := hide (show l1.length ≤ c1 by omega)
  have hcl2 := hide (show l2.length ≤ c2 by omega)
  clear hn1 hn2 hr1 hr2 h1 h2 h3 h4
  go_enter Try.func7, Try.ntmps7
  go_wp2_with fail
  (with_reducible refine (names_n w A1 n1 c1 l1 false HN1.out HR1.out hcl1.out H1.out).mono ?_)
  rintro e w1 ⟨f, rfl, hb1, hf, hm1⟩
  go_wp2_with fail
  (with_reducible refine (names_n w1 A2 n2 c2 l2 true HN2.out (Kd.C_below HR2.out hb1) hcl2.out H2.out).mono ?_)
  rintro e w2 ⟨g, rfl, hb2, hg, hm2⟩
  have hP : PL (w2.alloc (.cells #[.int .i64 a0, .slice A1 n1 c1, .slice A2 n2 c2, .map (some f), .map (some g)] 51)) w2.heap.size f g a0 A1 n1 c1 l1 A2 n2 c2 l2 := by
    have hb12 : Below w.heap.size w w2 := hb1.trans (hb2.mono hb1.size)
    have hb3 : Below w2.heap.size w2 (w2.alloc (.cells #[.int .i64 a0, .slice A1 n1 c1, .slice A2 n2 c2, .map (some f), .map (some g)] 51)) := (Below.refl _ _).alloc (Nat.le_refl _) _
    exact ⟨Blk.new w2 _ _, (show MapS w1 f n1 _ from hm1).step hb2 |>.step hb3, (show MapS w2 g n2 _ from hm2).step hb3, Kd.C_below (Kd.C_below HR1.out hb12) hb3, Kd.C_below (Kd.C_below HR2.out hb12) hb3, HN1.out, HN2.out, H1.out, H2.out⟩
  have hbP : Below w.heap.size w (w2.alloc (.cells #[.int .i64 a0, .slice A1 n1 c1, .slice A2 n2 c2, .map (some f), .map (some g)] 51)) := (hb1.trans (hb2.mono hb1.size)).alloc (Nat.le_trans hb1.size hb2.size) _
  clear hm1 hm2 hf hg
  go_wp2_with fail
  go_loopw [9, 29] (fun v9 v29 wr => ∃ k : Nat, v29 = .int .i64 k ∧ k ≤ n1 ∧ Below w.heap.size w wr ∧ PL wr w2.heap.size f g a0 A1 n1 c1 l1 A2 n2 c2 l2 ∧ wr.ownsRow w.heap.size 32 3 v9 k (actCs (olds a0 (keysT l1) (keysT l2) (ltT l1 l2) k))) (fun _ v29 _ => n1 - (intOf v29).toNat)
  case atStart => exact ⟨0, rfl, by omega, hbP, hP, own_nil _ _ _ _⟩
  case round =>
    clear hP hbP
    obtain ⟨k, rfl, hk, hbr, hPr, hown⟩ := hrel
    by_cases hlt : k < n1
    · have HPr := hide hPr
      clear hPr
      go_wp2_with fail
      refine (old_any wr w2.heap.size f g a0 A1 n1 c1 l1 A2 n2 c2 l2 k HPr.out hlt hc1 hc2).mono ?_
      intro e w3 hpost
      obtain ⟨rfl, hb3⟩ := hpost
      obtain ⟨a, ha⟩ : ∃ a, a = actOld a0 (keysT l1) (keysT l2) (ltT l1 l2) k := ⟨_, rfl⟩
      rw [← ha]
      have hown3 := pw_own_below hown hb3
      have hP3 := HPr.out.keep hb3
      have hbw := hbr.trans (hb3.mono hbr.size)
      have hsz := hbw.size
      have HA := hide ha
      replace hP3 := hide hP3
      clear ha HPr hown hb3 hbr
      obtain ⟨xs, hxs⟩ : ∃ xs, xs = actCs (olds a0 (keysT l1) (keysT l2) (ltT l1 l2) k) := ⟨_, rfl⟩
      rw [← hxs] at hown3
      have HX := hide hxs
      clear hxs
      go_wp2_with (at_builtin; refine wpList_append_any _ rfl (.tmp 32) (.tmp 36) _ rfl w.heap.size 32 i0 _ 3 24 Try.underlying25 hi0 hz0 hz1 hz2 rfl (by omega) _ k xs rfl (hown3.alloc _) (w3.heap.size + 1) (some ⟨w3.heap.size, 0, none⟩) 1 1 _ rfl (reads_new w3 _ _ 3 1 rfl) (by simp [Value.oneCell']) (by simp only [maxLen]; omega) (by omega) (by simp; omega) ?_; intro v5 w5 hown5 hg5 hat5)
      have hb5 : Below w.heap.size w w5 := (hbw.alloc hsz _).grown hg5 (by simp; omega) (fun q hq => own_base hown3 q hq)
      refine ⟨⟨k + 1, by go_num, by omega, hb5, hP3.out.grown hown3 _ hg5 (Kd.C_below HR1.out hb5) (Kd.C_below HR2.out hb5), ?_⟩, by simp [intOf]; omega⟩
      rw [olds_succ, actCs_snoc, ← HX.out, ← HA.out]
      exact hown5
    · obtain rfl : k = n1 := by omega
      clear hlt
      have HPr := hide hPr
      clear hPr
      go_wp2_with fail
      go_loopw [9, 41] (fun v9 v41 wq => ∃ j : Nat, v41 = .int .i64 j ∧ j ≤ n2 ∧ Below w.heap.size w wq ∧ Hid (PL wq w2.heap.size f g a0 A1 k c1 l1 A2 n2 c2 l2) ∧ wq.ownsRow w.heap.size 32 3 v9 (k + (news a0 (keysT l1) (keysT l2) j).length) (actCs (olds a0 (keysT l1) (keysT l2) (ltT l1 l2) k ++ news a0 (keysT l1) (keysT l2) j))) (fun _ v41 _ => n2 - (intOf v41).toNat)
      case atStart => exact ⟨0, rfl, by omega, hbr, HPr, by simpa [news] using hown⟩
      case round =>
        clear HPr hbr hown
        obtain ⟨j, rfl, hj, hbq, hPq, hown⟩ := hrel
        have hnl := news_len a0 (keysT l1) (keysT l2) j
        by_cases hlt : j < n2
        · by_cases hm3 : a0 = 3
          · have hno := news_no (news_three (ok := keysT l1) (nk := keysT l2) (q := j) hm3)
            have g5 : (a0 != 3) = false := by simpa using hm3
            rw [← hno] at hown
            replace hm3 := hide hm3
            replace hno := hide hno
            clear hnl
            go_wp2_with fail
            exact ⟨⟨j + 1, by go_num, by omega, hbq, hPq, hown⟩, by simp [intOf]; omega⟩
          · have g5 : (a0 != 3) = true := by simpa using hm3
            replace hnl := hide hnl
            replace hm3 := hide hm3
            go_wp2_with fail
            refine (fresh_any wr w2.heap.size f g a0 A1 k c1 l1 A2 n2 c2 l2 j hPq.out hlt hc2).mono ?_
            rintro e w3 ⟨rfl, hb3⟩
            have hown3 := pw_own_below hown hb3
            have hP3 := hPq.out.keep hb3
            have hbw := hbq.trans (hb3.mono hbq.size)
            have hsz := hbw.size
            replace hP3 := hide hP3
            clear hPq hown hb3 hbq
            cases hfr : freshB (keysT l1) (keysT l2) j with
            | false =>
              have hno := news_no (news_fresh hm3.out hfr)
              rw [← hno] at hown3
              replace hno := hide hno
              replace hfr := hide hfr
              go_wp2_with fail
              exact ⟨⟨j + 1, by go_num, by omega, hbw, hP3, hown3⟩, by simp [intOf]; omega⟩
            | true =>
              have hno := news_yes (news_fresh hm3.out hfr)
              obtain ⟨xs, hxs⟩ : ∃ xs, xs = actCs (olds a0 (keysT l1) (keysT l2) (ltT l1 l2) k ++ news a0 (keysT l1) (keysT l2) j) := ⟨_, rfl⟩
              obtain ⟨m, hm⟩ : ∃ m, m = (news a0 (keysT l1) (keysT l2) j).length := ⟨_, rfl⟩
              rw [← hxs, ← hm] at hown3
              have hmj : m ≤ j := by rw [hm]; exact hnl.out
              replace hxs := hide hxs
              replace hm := hide hm
              replace hno := hide hno
              replace hfr := hide hfr
              clear hnl
              go_wp2_with (at_builtin; refine wpList_append_any _ rfl (.tmp 51) (.tmp 54) _ rfl w.heap.size 32 i0 _ 3 24 Try.underlying25 hi0 hz0 hz1 hz2 rfl (by omega) _ (k + m) xs rfl (hown3.alloc _) (w3.heap.size + 1) (some ⟨w3.heap.size, 0, none⟩) 1 1 _ rfl (reads_new w3 _ _ 3 1 rfl) (by simp [Value.oneCell']) (by simp only [maxLen]; omega) (by omega) (by simp; omega) ?_; intro v5 w5 hown5 hg5 hat5)
              have hb5 : Below w.heap.size w w5 := (hbw.alloc hsz _).grown hg5 (by simp; omega) (fun q hq => own_base hown3 q hq)
              refine ⟨⟨j + 1, by go_num, by omega, hb5, hide (hP3.out.grown hown3 _ hg5 (Kd.C_below HR1.out hb5) (Kd.C_below HR2.out hb5)), ?_⟩, by simp [intOf]; omega⟩
              rw [hno.out, ← List.append_assoc, actCs_snoc, ← hxs.out, List.length_append, ← hm.out]
              exact hown5
        · obtain rfl : j = n2 := by omega
          have hR := R_of_acts hown (by rw [List.length_append, olds_len])
          have hpl : (olds a0 (keysT l1) (keysT l2) (ltT l1 l2) k ++ news a0 (keysT l1) (keysT l2) j).map actS = planT a0 l1 l2 := by
            unfold planT
            rw [HN1.out, HN2.out]
          rw [hpl] at hR
          replace hR := hide hR
          clear hown hpl hnl
          go_wp2_with fail
          go_ret2
          exact ⟨_, rfl, hR.out, hbq⟩
def update_Plan.f (a0 : Int) (l1 : List (S54)) (l2 : List (S54)) : Option ((List (S32)) × Int) :=
  if thingsOk l1 && thingsOk l2 then (if a0 < 1 ∨ 4 < a0 then some ([], 2) else some (planT a0 l1 l2, 0)) else none
theorem update_Plan.calls (a0 : Int) (A1 : Option Addr) (c1 : Nat) (l1 : List (S54)) (A2 : Option Addr) (c2 : Nat) (l2 : List (S54)) (r1 : List (S32)) (r2 : Int) (w : World) (hr1 : Kd.C k54 w A1 l1.length l1) (hc1 : l1.length ≤ c1) (hr2 : Kd.C k54 w A2 l2.length l2) (hc2 : l2.length ≤ c2) (h : update_Plan.f a0 l1 l2 = some (r1, r2)) :
    Calls Try.prog 7 #[.int .i64 a0, .slice A1 l1.length c1, .slice A2 l2.length c2] w fun e w' => ∃ v0_ : Value, e = .returned (.tuple #[v0_, .int .i64 r2]) ∧ Kd.R k32 32 w' w.heap.size (fun _ => True) v0_ r1 ∧ Below w.heap.size w w' := by
  unfold update_Plan.f at h
  by_cases hok : (thingsOk l1 && thingsOk l2) = true
  · rw [if_pos hok] at h
    rw [Bool.and_eq_true] at hok
    by_cases hm : a0 < 1 ∨ 4 < a0
    · rw [if_pos hm] at h
      injection h with h
      injection h with e1 e2
      subst e1 e2
      clear hr1 hr2 hok
      by_cases h1 : a0 < 1
      · have g3 : decide (a0 < 1) = true := by simpa using h1
        clear hm
        go_enter Try.func7, Try.ntmps7
        go_wp2_with fail
        go_ret2
        exact ⟨_, rfl, Kd.R_nil _ _ _ _ _, Below.refl _ _⟩
      · have g3 : decide (a0 < 1) = false := by simpa using h1
        have g4 : decide (4 < a0) = true := by simpa using hm.resolve_left h1
        clear hm
        go_enter Try.func7, Try.ntmps7
        go_wp2_with fail
        go_ret2
        exact ⟨_, rfl, Kd.R_nil _ _ _ _ _, Below.refl _ _⟩
    · rw [if_neg hm] at h
      injection h with h
      injection h with e1 e2
      subst e1 e2
      exact plan_in a0 A1 l1.length c1 l1 A2 l2.length c2 l2 w rfl rfl hr1 hc1 hr2 hc2 hok.1 hok.2 (fun h => hm (.inl h)) (fun h => hm (.inr h))
  · rw [if_neg hok] at h
    cases h
end Go.Proofs.Ytgobiibalepaaaa.Q

