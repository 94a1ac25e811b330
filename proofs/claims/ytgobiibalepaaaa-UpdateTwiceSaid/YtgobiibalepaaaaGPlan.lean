/- The planner's functions walked: what becomes of an old, whether a new is put. No condition. -/
import Derived.Test.YtgobiibalepaaaaGNames2
import Derived.Test.YtgobiibalepaaaaQx2
import Derived.Deep.RegionHeld3
import Derived.Deep.DrawnRows
namespace Go.Proofs.Ytgobiibalepaaaa.Q
open Go.RowKit Go.Maps Go.Proofs.YtgobiibalepaaaaW.PrintWords Go.Proofs.YtgobiibalepaaaaW.PrintLast Go.Proofs.YtgobiibalepaaaaW.PrintMore
attribute [local go_sem ↓] Go.wp_at_zero Go.wp_at_succ
set_option linter.unusedVariables false

theorem MapS.drew {w : World} {b n : Nat} {M : List Int → Option Nat} (h : MapS w b n M) : MapS w.drew b n M := by
  obtain ⟨D, h, hM⟩ := h
  exact ⟨D, h.drew, hM⟩
/-- What a planner holds. -/
structure PL (w : World) (pg f g : Nat) (mode : Int) (A1 : Option Addr) (n1 c1 : Nat) (l1 : List Uhg) (A2 : Option Addr) (n2 c2 : Nat) (l2 : List Uhg) : Prop where
  blk : Blk w pg 51 #[.int .i64 mode, .slice A1 n1 c1, .slice A2 n2 c2, .map (some f), .map (some g)]
  first : MapS w f n1 (fun ks => fstU (keysT l1) ks l1.length)
  last : MapS w g n2 (fun ks => lstU (keysT l2) ks l2.length)
  r1 : Kd.C k54 w A1 l1.length l1
  r2 : Kd.C k54 w A2 l2.length l2
  e1 : n1 = l1.length
  e2 : n2 = l2.length
  ok1 : thingsOk l1 = true
  ok2 : thingsOk l2 = true
theorem PL.keep {w w' : World} {pg f g : Nat} {mode : Int} {A1 A2 : Option Addr} {n1 c1 n2 c2 : Nat} {l1 l2 : List Uhg} (h : PL w pg f g mode A1 n1 c1 l1 A2 n2 c2 l2) (hb : Below w.heap.size w w') : PL w' pg f g mode A1 n1 c1 l1 A2 n2 c2 l2 :=
  ⟨h.blk.below hb h.blk.lt, h.first.step hb, h.last.step hb, Kd.C_below h.r1 hb, Kd.C_below h.r2 hb, h.e1, h.e2, h.ok1, h.ok2⟩
theorem actInfo : (Try.prog.info? 32).map (fun x => x.size) = some 3 := by kernel_rfl
def oldPost (w : World) (a : Int × Int × Int) (e : Ending) (w' : World) : Prop := e = .returned (.agg #[.int .i64 a.1, .int .i64 a.2.1, .int .i64 a.2.2]) ∧ Below w.heap.size w w'
theorem oldPost_mk {w w' : World} {a b : Int × Int × Int} {e : Ending} (h : a = b) (he : e = .returned (.agg #[.int .i64 a.1, .int .i64 a.2.1, .int .i64 a.2.2])) (hb : Below w.heap.size w w') : oldPost w b e w' := by
  subst h; exact ⟨he, hb⟩
theorem valO_some {o : Option Nat} {j : Nat} (h : o = some j) : valO o = j := by rw [h]; rfl
theorem later_f2 (a b : Uhg) : update_later.f a.f0 a.f1 a.f2 b.f0 b.f1 b.f2 = some (laterT a b) := by
  unfold update_later.f laterT
  by_cases h : a.f2 = b.f2
  · rw [if_pos h, if_pos h]
  · rw [if_neg h, if_neg h]
theorem actOld_none {mode : Int} {ok nk : List (List Int)} {lt : Nat → Nat → Bool} {i : Nat} (h : lstU nk (ok.getD i []) nk.length = none) : actOld mode ok nk lt i = if mode = 4 then (4, (i : Int), -1) else (1, (i : Int), -1) := by unfold actOld; rw [h]
theorem actOld_some {mode : Int} {ok nk : List (List Int)} {lt : Nat → Nat → Bool} {i j : Nat} (h : lstU nk (ok.getD i []) nk.length = some j) : actOld mode ok nk lt i = if fstU ok (ok.getD i []) ok.length = some i ∧ (mode = 1 ∨ lt j i = true) then (2, (i : Int), (j : Int)) else (1, (i : Int), -1) := by unfold actOld; rw [h]
theorem fstU_none {ks : List (List Int)} {k : List Int} {n : Nat} (h : fstU ks k n = none) : ∀ i, i < n → ks.getD i [] ≠ k := by
  induction n with
  | zero => intro i hi; omega
  | succ n ih =>
    rw [fstU] at h
    split at h
    · cases h
    · rename_i hno
      split at h
      · cases h
      · rename_i hne
        intro i hi
        rcases Nat.lt_or_ge i n with h1 | h1
        · exact ih hno i h1
        · obtain rfl : i = n := by omega
          exact hne
theorem later_n (w : World) (A : Option Addr) (n c : Nat) (l : List Int) (a1 a2 : Int) (B : Option Addr) (m d : Nat) (k : List Int) (b1 b2 : Int) (r : Bool) (hn : n = l.length) (hm : m = k.length) (h1 : Kd.C (Kd.int .u8) w A l.length l) (hc1 : l.length ≤ c) (h2 : Kd.C (Kd.int .u8) w B k.length k) (hc2 : k.length ≤ d) (h : update_later.f l a1 a2 k b1 b2 = some r) :
    Calls Try.prog 25 #[.agg #[.slice A n c, .int .i64 a1, .int .i64 a2], .agg #[.slice B m d, .int .i64 b1, .int .i64 b2]] w fun e w' => e = .returned (.bool r) ∧ Below w.heap.size w w' := by
  subst hn hm
  exact update_later.calls A c l a1 a2 B d k b1 b2 r w h1 hc1 h2 hc2 h
theorem keysT_len (l : List Uhg) : (keysT l).length = l.length := by simp [keysT]
set_option maxHeartbeats 4000000 in
theorem old_any (w : World) (pg f g : Nat) (mode : Int) (A1 : Option Addr) (n1 c1 : Nat) (l1 : List Uhg) (A2 : Option Addr) (n2 c2 : Nat) (l2 : List Uhg) (i : Nat) (h : PL w pg f g mode A1 n1 c1 l1 A2 n2 c2 l2) (hi : i < n1) (hc1 : n1 ≤ c1) (hc2 : n2 ≤ c2) :
    Calls Try.prog 18 #[.pointer (some ⟨pg, 0, none⟩), .int .i64 i] w (oldPost w (actOld mode (keysT l1) (keysT l2) (ltT l1 l2) i)) := by
  have hn1 := thingsOk_len h.ok1
  have hn2 := thingsOk_len h.ok2
  have he1 := h.e1
  have he2 := h.e2
  have hil : i < l1.length := by rw [← he1]; exact hi
  obtain ⟨b, o, A0, c0, hA, hb0, x0, x1, x2, hl0, hC0⟩ := thg_plain h.r1 hil
  subst hA
  have hko := thingsOk_rd h.ok1 hil
  have hkey := keysT_at hil
  have ht := hide (rfl : rd_T54 l1 (i : Int) = rd_T54 l1 (i : Int))
  obtain ⟨t, hT⟩ : ∃ t, t = rd_T54 l1 (i : Int) := ⟨_, rfl⟩
  rw [← hT] at x0 x1 x2 hl0 hC0 hko hkey
  obtain ⟨t0, t1, t2⟩ := t
  simp only at x0 x1 x2 hl0 hC0 hko hkey
  obtain ⟨ln, hln⟩ : ∃ ln, ln = t0.length := ⟨_, rfl⟩
  rw [← hln] at x0
  have h1 : l1.length ≤ 1000 := hn1
  have q0 : (i : Int) < n1 := by omega
  have q9 : n1 ≤ 1000 := by omega
  have q8 : n2 ≤ 1000 := by omega
  have HL := hide h
  have p1 : w.cell? ⟨pg, 1, none⟩ = some (.slice (some ⟨b, o, none⟩) n1 c1) := h.blk.cell 1
  have hpl : pg < w.heap.size := h.blk.lt
  have Hln := hide hln
  have HT := hide hT
  have HC := hide hC0
  have HK := hide hko
  have HKey := hide hkey
  have Hil := hide hil
  have He1 := hide he1
  have He2 := hide he2
  clear hln hT hC0 hko hkey h ht hil he1 he2 hn1 hn2
  go_enter Try.func18, Try.ntmps18
  go_wp2_with fail
  (with_reducible refine (foldAll_n _ A0 ln c0 t0 Hln.out (Kd.C_below HC.out ((Below.refl _ _).alloc (Nat.le_refl _) _)) hl0 HK.out.one HK.out.two).mono ?_)
  rintro e w2 ⟨v2, rfl, hR, hb2⟩
  obtain ⟨A3, c3, rfl, hl3, hC3⟩ := Kd.R_reads hR
  have hko := keyOk_fold HK.out
  have hkey := HKey.out
  generalize foldN t0 = key at hl3 hC3 hko hkey ⊢
  have hconv := Kd.C_string (c := c3) Try.underlying34 Try.underlying5 Try.underlying9 hC3
  have hbw : Below w.heap.size w w2 := ((Below.refl w.heap.size w).alloc (Nat.le_refl _) _).trans (hb2.mono (by simp))
  have hP := HL.out.keep hbw
  have hRes : Blk w2 w.heap.size 32 #[.int .i64 0, .int .i64 0, .int .i64 0] := (Blk.new w _ _).below hb2 (by simp)
  have p4 : w2.cell? ⟨pg, 4, none⟩ = some (.map (some g)) := hP.blk.cell 4
  have p0 : w2.cell? ⟨pg, 0, none⟩ = some (.int .i64 mode) := hP.blk.cell 0
  have f0 : w2.frozen? ⟨w.heap.size, 0, none⟩ = false := hRes.frozen 0
  have f1 : w2.frozen? ⟨w.heap.size, 1, none⟩ = false := hRes.frozen 1
  have f2 : w2.frozen? ⟨w.heap.size, 2, none⟩ = false := hRes.frozen 2
  have y0 : w2.cell? ⟨w.heap.size, 0, none⟩ = some (.int .i64 0) := hRes.cell 0
  have y1 : w2.cell? ⟨w.heap.size, 1, none⟩ = some (.int .i64 0) := hRes.cell 1
  have y2 : w2.cell? ⟨w.heap.size, 2, none⟩ = some (.int .i64 0) := hRes.cell 2
  have hlook := hP.last.look_ok hko
  try simp only at hlook
  have HP := hide hP
  clear hP hR hb2 hC3 HC HL p1 x0 x1 x2
  obtain ⟨B, hB⟩ : ∃ B, B = w.heap.size := ⟨_, rfl⟩
  have ln2 := keysT_len l2
  cases hL : lstU (keysT l2) key l2.length with
  | none =>
    rw [hL] at hlook
    have hact := actOld_none (mode := mode) (lt := ltT l1 l2) (show lstU (keysT l2) ((keysT l1).getD i []) (keysT l2).length = none by rw [hkey, ln2]; exact hL)
    replace hL := hide hL
    replace hkey := hide hkey
    replace hko := hide hko
    replace ln2 := hide ln2
    by_cases h4 : mode = 4
    · rw [if_pos h4] at hact
      subst h4
      replace hact := hide hact
      clear hB
      go_wp2_with fail
      have hBk := (((hRes.set_ 0 (.int .i64 4)).set_ 1 (.int .i64 i)).set_ 2 (.int .i64 (-1)))
      refine bodyPost_ret (results_cell_row Try.results18 _ _ w.heap.size 32 _ (0, 0) _ rfl hBk Try.underlying32 rfl actInfo) rfl (oldPost_mk hact.out.symm rfl ?_)
      exact ((hbw.setCell (by simp) _).setCell (by simp) _).setCell (by simp) _
    · rw [if_neg h4] at hact
      have h4b : (mode == 4) = false := by simpa using h4
      replace hact := hide hact
      clear hB h4
      go_wp2_with fail
      go_quiet (fail)
      go_wp2_with fail
      have hBk := ((((hRes.drewN nq).set_ 0 (.int .i64 1)).set_ 1 (.int .i64 i)).set_ 2 (.int .i64 (-1)))
      refine bodyPost_ret (results_cell_row Try.results18 _ _ w.heap.size 32 _ (0, 0) _ rfl hBk Try.underlying32 rfl actInfo) rfl (oldPost_mk hact.out.symm rfl ?_)
      exact (((below_drewN hbw nq).setCell (by simp) _).setCell (by simp) _).setCell (by simp) _
  | some j =>
    rw [hL, show valO (some j) = (j : Int) from rfl] at hlook
    have hj : j < n2 := by have := lstU_lt hL; rw [He2.out]; exact this
    have hact := actOld_some (mode := mode) (lt := ltT l1 l2) (show lstU (keysT l2) ((keysT l1).getD i []) (keysT l2).length = some j by rw [hkey, ln2]; exact hL)
    rw [hkey, keysT_len] at hact
    have hlk1 : ∀ n, (Instr.lookup 48 (.map (some f)) (.string (strOfNums key)) false).run Try.prog (w2.drewN n) = .ok (.int .i64 (valO (fstU (keysT l1) key l1.length))) (w2.drewN n) := fun n => (HP.out.keep (below_drewN (Below.refl _ _) n)).first.look hko
    have hFs : ∃ p, fstU (keysT l1) key l1.length = some p := by
      cases hc : fstU (keysT l1) key l1.length with
      | some p => exact ⟨p, rfl⟩
      | none => exact absurd hkey (fstU_none hc i Hil.out)
    obtain ⟨p, hF⟩ := hFs
    rw [hF] at hlk1 hact
    have p3 : w2.cell? ⟨pg, 3, none⟩ = some (.map (some f)) := HP.out.blk.cell 3
    have hlk0 : (Instr.lookup 48 (.map (some f)) (.string (strOfNums key)) false).run Try.prog w2 = .ok (.int .i64 (valO (some p))) w2 := hlk1 0
    replace hL := hide hL
    replace hF := hide hF
    replace hkey := hide hkey
    replace hko := hide hko
    replace ln2 := hide ln2
    clear hB
    by_cases hpi : p = i
    · subst hpi
      have qe : (valO (some p) == (p : Int)) = true := by simp [valO]
      by_cases h1 : mode = 1
      · rw [if_pos ⟨rfl, .inl h1⟩] at hact
        replace hact := hide hact
        have h1b : (mode == 1) = true := by simpa using h1
        replace h1 := hide h1
        go_wp2_with fail
        go_quiet (fail)
        go_wp2_with fail
        have hBk := ((((hRes.drewN nq).set_ 0 (.int .i64 2)).set_ 1 (.int .i64 p)).set_ 2 (.int .i64 j))
        refine bodyPost_ret (results_cell_row Try.results18 _ _ w.heap.size 32 _ (0, 0) _ rfl hBk Try.underlying32 rfl actInfo) rfl (oldPost_mk hact.out.symm rfl ?_)
        exact (((below_drewN hbw nq).setCell (by simp) _).setCell (by simp) _).setCell (by simp) _
      · have h1b : (mode == 1) = false := by simpa using h1
        obtain ⟨b2, o2, A4, c4, hA4, hb4, z0, z1, z2, hl4, hC4⟩ := thg_plain HP.out.r2 (k := j) (by rw [← He2.out]; exact hj)
        subst hA4
        obtain ⟨b5, o5, A5, c5, hA5, hb5, x0, x1, x2, hl5, hC5⟩ := thg_plain HP.out.r1 (k := p) Hil.out
        injection hA5 with hA5
        injection hA5 with hA5 hA6
        subst hA5 hA6
        have hlt : ltT l1 l2 j p = laterT (rd_T54 l2 (j : Int)) (rd_T54 l1 (p : Int)) := rfl
        have hlf := later_f2 (rd_T54 l2 (j : Int)) (rd_T54 l1 (p : Int))
        rw [← hlt] at hlf
        have p1 : w2.cell? ⟨pg, 1, none⟩ = some (.slice (some ⟨b, o, none⟩) n1 c1) := HP.out.blk.cell 1
        have p2 : w2.cell? ⟨pg, 2, none⟩ = some (.slice (some ⟨b2, o2, none⟩) n2 c2) := HP.out.blk.cell 2
        generalize rd_T54 l2 (j : Int) = u at z0 z1 z2 hl4 hC4 hlf
        generalize rd_T54 l1 (p : Int) = t at x0 x1 x2 hl5 hC5 hlf
        obtain ⟨u0, u1, u2⟩ := u
        obtain ⟨t0', t1', t2'⟩ := t
        simp only at z0 z1 z2 hl4 hC4 x0 x1 x2 hl5 hC5 hlf
        obtain ⟨r, hr⟩ : ∃ r, r = ltT l1 l2 j p := ⟨_, rfl⟩
        rw [← hr] at hlf hact
        replace hlf := hide hlf
        replace hC4 := hide hC4
        replace hC5 := hide hC5
        replace hr := hide hr
        replace hact := hide hact
        replace h1 := hide h1
        clear hlt
        have q1 : (0 : Int) ≤ (j : Int) := by omega
        have q2 : (j : Int) < n2 := by omega
        have q3 : (0 : Int) ≤ (p : Int) := by omega
        obtain ⟨e4, he4⟩ : ∃ e4, e4 = u0.length := ⟨_, rfl⟩
        obtain ⟨e5, he5⟩ : ∃ e5, e5 = t0'.length := ⟨_, rfl⟩
        rw [← he4] at z0
        rw [← he5] at x0
        replace he4 := hide he4
        replace he5 := hide he5
        have hS : ∀ w', Below w2.heap.size w2 w' → w'.cell? ⟨pg, 0, none⟩ = some (.int .i64 mode) ∧ w'.cell? ⟨pg, 1, none⟩ = some (.slice (some ⟨b, o, none⟩) n1 c1) ∧ w'.cell? ⟨pg, 2, none⟩ = some (.slice (some ⟨b2, o2, none⟩) n2 c2) ∧ w'.cell? ⟨pg, 3, none⟩ = some (.map (some f)) ∧ w'.cell? ⟨b2, o2 + j * 3, none⟩ = some (.slice A4 e4 c4) ∧ w'.cell? ⟨b2, o2 + j * 3 + 1, none⟩ = some (.int .i64 u1) ∧ w'.cell? ⟨b2, o2 + j * 3 + 2, none⟩ = some (.int .i64 u2) ∧ w'.cell? ⟨b, o + p * 3, none⟩ = some (.slice A5 e5 c5) ∧ w'.cell? ⟨b, o + p * 3 + 1, none⟩ = some (.int .i64 t1') ∧ w'.cell? ⟨b, o + p * 3 + 2, none⟩ = some (.int .i64 t2') ∧ (Instr.lookup 48 (.map (some f)) (.string (strOfNums key)) false).run Try.prog w' = .ok (.int .i64 (valO (some p))) w' := by
          intro w' hb
          have hz := hF.out
          exact ⟨cell_keep hb p0, cell_keep hb p1, cell_keep hb p2, cell_keep hb p3, cell_keep hb z0, cell_keep hb z1, cell_keep hb z2, cell_keep hb x0, cell_keep hb x1, cell_keep hb x2, by rw [← hz]; exact (HP.out.keep hb).first.look hko.out⟩
        replace hS := hide hS
        go_wp2_with fail
        go_region_held3 (fun w' => w'.cell? ⟨pg, 0, none⟩ = some (.int .i64 mode) ∧ w'.cell? ⟨pg, 1, none⟩ = some (.slice (some ⟨b, o, none⟩) n1 c1) ∧ w'.cell? ⟨pg, 2, none⟩ = some (.slice (some ⟨b2, o2, none⟩) n2 c2) ∧ w'.cell? ⟨pg, 3, none⟩ = some (.map (some f)) ∧ w'.cell? ⟨b2, o2 + j * 3, none⟩ = some (.slice A4 e4 c4) ∧ w'.cell? ⟨b2, o2 + j * 3 + 1, none⟩ = some (.int .i64 u1) ∧ w'.cell? ⟨b2, o2 + j * 3 + 2, none⟩ = some (.int .i64 u2) ∧ w'.cell? ⟨b, o + p * 3, none⟩ = some (.slice A5 e5 c5) ∧ w'.cell? ⟨b, o + p * 3 + 1, none⟩ = some (.int .i64 t1') ∧ w'.cell? ⟨b, o + p * 3 + 2, none⟩ = some (.int .i64 t2') ∧ (Instr.lookup 48 (.map (some f)) (.string (strOfNums key)) false).run Try.prog w' = .ok (.int .i64 (valO (some p))) w') (first | exact hS.out _ (Below.refl _ _) | exact hS.out _ (below_drewN (Below.refl _ _) 1) | exact hS.out _ hbq) (first | (go_at_call 25; refine (later_n _ A4 e4 c4 u0 u1 u2 A5 e5 c5 t0' t1' t2' r he4.out he5.out (Kd.C_below hC4.out (below_drewN (Below.refl _ _) 1)) hl4 (Kd.C_below hC5.out (below_drewN (Below.refl _ _) 1)) hl5 hlf.out).mono ?_; rintro e w7 ⟨rfl, hb7⟩; have hbq : Below w2.heap.size w2 w7 := (below_drewN (Below.refl w2.heap.size w2) 1).trans hb7))
        have hR7 := hRes.below hbq hRes.lt
        have hb9 : Below w.heap.size w w7 := hbw.trans (hbq.mono hbw.size)
        clear f0 f1 f2 y0 y1 y2 p0 p1 p2 p3 p4 z0 z1 z2 x0 x1 x2 hlk0 hlk1 hlook hconv hb7 hbq
        have f0 : w7.frozen? ⟨w.heap.size, 0, none⟩ = false := hR7.frozen 0
        have f1 : w7.frozen? ⟨w.heap.size, 1, none⟩ = false := hR7.frozen 1
        have f2 : w7.frozen? ⟨w.heap.size, 2, none⟩ = false := hR7.frozen 2
        have y0 : w7.cell? ⟨w.heap.size, 0, none⟩ = some (.int .i64 0) := hR7.cell 0
        have y1 : w7.cell? ⟨w.heap.size, 1, none⟩ = some (.int .i64 0) := hR7.cell 1
        have y2 : w7.cell? ⟨w.heap.size, 2, none⟩ = some (.int .i64 0) := hR7.cell 2
        have ha := hact.out
        clear hact
        cases r with
        | true =>
          rw [if_pos (by simp)] at ha
          replace ha := hide ha
          go_wp2_with fail
          have hBk := (((hR7.set_ 0 (.int .i64 2)).set_ 1 (.int .i64 p)).set_ 2 (.int .i64 j))
          refine bodyPost_ret (results_cell_row Try.results18 _ _ w.heap.size 32 _ (0, 0) _ rfl hBk Try.underlying32 rfl actInfo) rfl (oldPost_mk ha.out.symm rfl ?_)
          exact ((hb9.setCell (by simp) _).setCell (by simp) _).setCell (by simp) _
        | false =>
          rw [if_neg (by simp [h1.out])] at ha
          replace ha := hide ha
          go_wp2_with fail
          have hBk := (((hR7.set_ 0 (.int .i64 1)).set_ 1 (.int .i64 p)).set_ 2 (.int .i64 (-1)))
          refine bodyPost_ret (results_cell_row Try.results18 _ _ w.heap.size 32 _ (0, 0) _ rfl hBk Try.underlying32 rfl actInfo) rfl (oldPost_mk ha.out.symm rfl ?_)
          exact ((hb9.setCell (by simp) _).setCell (by simp) _).setCell (by simp) _
    · rw [if_neg (fun h => hpi (by injection h.1))] at hact
      have qe : (valO (some p) == (i : Int)) = false := by simp [valO]; omega
      replace hact := hide hact
      replace hpi := hide hpi
      go_wp2_with fail
      go_quiet (fail)
      go_wp2_with fail
      have hBk := ((((hRes.drewN nq).set_ 0 (.int .i64 1)).set_ 1 (.int .i64 i)).set_ 2 (.int .i64 (-1)))
      refine bodyPost_ret (results_cell_row Try.results18 _ _ w.heap.size 32 _ (0, 0) _ rfl hBk Try.underlying32 rfl actInfo) rfl (oldPost_mk hact.out.symm rfl ?_)
      exact (((below_drewN hbw nq).setCell (by simp) _).setCell (by simp) _).setCell (by simp) _
end Go.Proofs.Ytgobiibalepaaaa.Q

