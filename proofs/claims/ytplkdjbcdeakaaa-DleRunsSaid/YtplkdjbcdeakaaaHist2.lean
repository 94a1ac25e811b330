/- hist.Out: Copy walked. -/
import Derived.Test.YtplkdjbcdeakaaaHist
import Derived.Deep.RegionLaw
import Derived.Lib.SliceRun
namespace Go.Proofs.Ytplkdjbcdeakaaa
open Go.RowKit
attribute [local go_sem ↓] Go.wp_at_zero Go.wp_at_succ

theorem own_in {v v' : Value} {S : List Nat} {a b : Nat} (h : ∀ k, v.ownBlock = some k → k ∈ S ∨ a ≤ k) (hat : v'.ownBlock = v.ownBlock ∨ v'.ownBlock = some b) (hab : a ≤ b) (k : Nat) (hk : v'.ownBlock = some k) : k ∈ S ∨ a ≤ k := by
  rcases hat with e | e
  · exact h k (by rw [← e]; exact hk)
  · rw [e] at hk
    injection hk with e2
    exact .inr (by omega)
set_option maxHeartbeats 4000000 in
set_option maxRecDepth 100000 in
theorem hist_copyC (w : World) (base g : Nat) (win most : Int) (nz : Bool) (v : Value) (bs : List Int) (d n : Nat) (h : HO w base g win most nz v bs) (hd : 1 ≤ d) (hdw : (d : Int) ≤ win) (hdn : d ≤ bs.length ∨ nz = true) (hr : (n : Int) ≤ most - bs.length) (hm : most ≤ 9223372036854775807) (hn : bs.length + n ≤ 1099511627776) :
    Calls Try.prog 28 #[.pointer (some ⟨g, 0, none⟩), .int .i64 d, .int .i64 n] w fun e w' => e = .returned (.int .i64 0) ∧ Below base w w' ∧ Chg (g :: v.ownBlock.toList) w w' ∧ ∃ v', HO w' base g win most nz v' (tells n d bs) := by
  obtain ⟨i0, hi0, hz0, hz1, hz2⟩ := info_parts byteInfo
  have c0 : w.cell? ⟨g, 0, none⟩ = some (.int .i64 win) := h.blk.cell 0
  have c1 : w.cell? ⟨g, 1, none⟩ = some (.int .i64 most) := h.blk.cell 1
  have c2 : w.cell? ⟨g, 2, none⟩ = some (.bool nz) := h.blk.cell 2
  have c3 : w.cell? ⟨g, 3, none⟩ = some v := h.blk.cell 3
  obtain ⟨A, cc, rfl, hc⟩ := own_form h.own
  have q2 : ¬ d = 0 := by omega
  have q3 : decide (win < d) = false := by simp; omega
  have q4 : decide ((bs.length : Int) < d) = true → nz = true := by
    intro e
    simp at e
    rcases hdn with h1 | h1
    · omega
    · exact h1
  have q5 : IntKind.i64.wrap (most - bs.length) = most - bs.length := IntWalk.i64_in _ (by omega)
  have q6 : decide (most - (bs.length : Int) < n) = false := by simp; omega
  go_enter Try.func28, Try.ntmps28
  go_wp2_with fail
  refine (hist_ok w g win c0 h.win0).mono ?_
  rintro e w' ⟨rfl, rfl⟩
  go_upto_region 5 with fail
  go_cut [20] (fun v20 wx => v20 = .bool false ∧ wx = w)
  case first =>
    go_wp2_with fail
    all_goals go_meet
    all_goals exact ⟨rfl, rfl⟩
  case rest =>
    obtain ⟨rfl, rfl⟩ := hcut
    go_wp2_with fail
    go_quiet (fail)
    have hW := h.keep (below_drewN (Below.refl _ _) nq)
    have hb0 : Below base wc (wc.drewN nq) := below_drewN (Below.refl _ _) nq
    have hC0 : Chg (g :: (Value.slice A bs.length cc).ownBlock.toList) wc (wc.drewN nq) := (Chg.refl _ _).drewN nq
    obtain ⟨S, hS⟩ : ∃ S, S = g :: (Value.slice A bs.length cc).ownBlock.toList := ⟨_, rfl⟩
    rw [← hS] at hC0
    have hgS : g ∈ S := by rw [hS]; simp
    have hin : ∀ k, (Value.slice A bs.length cc).ownBlock = some k → k ∈ S ∨ wc.heap.size ≤ k := fun k hk => .inl (by rw [hS, hk]; simp)
    generalize wc.drewN nq = W at hW hb0 hC0 ⊢
    replace hS := hide hS
    clear c0 c1 c2 c3 h
    go_wp2_with fail
    go_loopw [2] (fun v2 wr => ∃ (r : Nat) (v : Value) (ys : List Int), v2 = .int .i64 r ∧ Hid (tells r d ys = tells n d bs) ∧ ys.length + r = bs.length + n ∧ (d ≤ ys.length ∨ nz = true) ∧ Below base wc wr ∧ Chg S wc wr ∧ Hid (∀ k, v.ownBlock = some k → k ∈ S ∨ wc.heap.size ≤ k) ∧ HO wr base g win most nz v ys) (fun v2 _ => (intOf v2).toNat)
    case atStart => exact ⟨n, _, bs, rfl, hide rfl, rfl, hdn, hb0, hC0, hide hin, hW⟩
    case round =>
      obtain ⟨r, v, ys, rfl, hT, hL, hdr, hbr, hCr, hir, hr⟩ := hrel
      obtain ⟨A, cc, rfl, hc⟩ := own_form hr.own
      clear hb0 hW hC0 hin
      have c3 : wr.cell? ⟨g, 3, none⟩ = some (.slice A ys.length cc) := hr.blk.cell 3
      have z3 : wr.frozen? ⟨g, 3, none⟩ = false := hr.blk.frozen 3
      by_cases hgo : 0 < r ∧ ys.length < d
      · obtain ⟨hr0, hlt⟩ := hgo
        have q7 : (0 : Int) < r := by omega
        have q8 : (ys.length : Int) < d := by omega
        have hO4 := hr.own.alloc (Obj.cells #[Value.int .u8 0] 5)
        have hB4 := hr.blk.alloc (Obj.cells #[Value.int .u8 0] 5)
        have hbas := hr.bas
        have hgs : g < wr.heap.size := hr.blk.lt
        have hne := hr.ne
        have hw4 := hbr.alloc (by omega : base ≤ wr.heap.size) (Obj.cells #[Value.int .u8 0] 5)
        go_wp2_with (at_builtin; refine wpList_append_any _ rfl (.tmp 73) (.tmp 74) _ rfl base 5 i0 _ 1 1 Try.underlying22 hi0 hz0 hz1 hz2 rfl (by omega) _ ys.length (nums .u8 ys) rfl hO4 (wr.heap.size + 1) (some ⟨wr.heap.size, 0, none⟩) 1 1 _ rfl (reads_new wr _ _ 1 1 rfl) (by simp [Value.oneCell']) (by simp only [maxLen]; omega) (by omega) (by simp; omega) ?_; intro v5 w5 hown5 hg5 hat5; obtain ⟨A5, cc5, rfl, hc5⟩ := own_form hown5; have hB5 := hB4.grown hg5 (fun e => hne e.symm); have c35 : w5.cell? ⟨g, 3, none⟩ = some (.slice A ys.length cc) := hB5.cell 3; have z35 : w5.frozen? ⟨g, 3, none⟩ = false := hB5.frozen 3; clear c3 z3)
        have hn5 : (Value.slice A5 (ys.length + 1) cc5).ownBlock ≠ some g := by
          rcases hat5 with e | e <;> rw [e]
          · exact hne
          · simp; omega
        have hown6 := own_set (p := ⟨g, 3, none⟩) hown5 hn5 (.slice A5 (ys.length + 1) cc5)
        obtain ⟨r, rfl⟩ : ∃ r', r = r' + 1 := ⟨r - 1, by omega⟩
        have hbr0 : wc.heap.size ≤ wr.heap.size + 1 := Nat.le_succ_of_le hCr.size
        have hl5 : (ys ++ [0]).length + r = bs.length + n := by rw [List.length_append, List.length_singleton]; omega
        have hl6 : (ys ++ [0]).length ≤ 1099511627776 := by omega
        refine ⟨⟨r, _, ys ++ [0], ?_, hide ((tells_nought r d ys hlt).symm.trans hT.out), hl5, .inr (by rcases hdr with h | h; omega; exact h), (hw4.grown hg5 (by simp; omega) (fun k hk => hbase hO4 k hk)).setCell (show base ≤ g from hbas) _, ((hCr.alloc _).grown hg5 (fun k hk => hir.out k hk)).setCell (.inl hgS) _, hide (fun k hk => own_in hir.out hat5 (by simp; exact hbr0) k hk), hB5.set_ 3 _, ?_, hbas, hl6, hr.win0, hr.win1⟩, by simp [intOf]⟩
        · congr 1; omega
        rw [List.length_append, nums_append]
        exact hown6
      · have q9 : r = 0 ∨ d ≤ ys.length := by omega
        clear hgo hdr
        rcases Nat.eq_zero_or_pos r with h0 | h0
        case' inl => have q7 : ¬ 0 < r := by omega
        case' inr =>
          have q7 : (0 : Int) < r := by omega
          have q8 : ¬ ys.length < d := by omega
        all_goals go_wp2_with fail
        all_goals
          clear q7 h0
          try clear q8
          go_loopw [2] (fun v2 wq => ∃ (r : Nat) (v : Value) (ys : List Int), v2 = .int .i64 r ∧ Hid (tells r d ys = tells n d bs) ∧ ys.length + r = bs.length + n ∧ (r = 0 ∨ d ≤ ys.length) ∧ Below base wc wq ∧ Chg S wc wq ∧ Hid (∀ k, v.ownBlock = some k → k ∈ S ∨ wc.heap.size ≤ k) ∧ HO wq base g win most nz v ys) (fun v2 _ => (intOf v2).toNat)
          case atStart => exact ⟨r, _, ys, rfl, hT, hL, q9, hbr, hCr, hir, hr⟩
          case round =>
            clear hT hL q9 hbr hr c3 z3 hCr hir
            obtain ⟨r, v, ys, rfl, hT, hL, hdr, hbr, hCr, hir, hr⟩ := hrel
            obtain ⟨A, cc, rfl, hc⟩ := own_form hr.own
            by_cases h0 : 0 < r
            · have q7 : (0 : Int) < r := by omega
              have q8 : d ≤ ys.length := by omega
              obtain ⟨b, cap, hv, hgb, hlb⟩ := hr.own.form (by omega)
              have hA : A = some ⟨b, 0, none⟩ := by injection hv
              have hcap : cc = cap := by injection hv
              subst hA hcap
              obtain ⟨f, hf⟩ : ∃ f, f = ys.length - d := ⟨_, rfl⟩
              have q10 : IntKind.i64.wrap ((ys.length : Int) - d) = (f : Int) := by rw [hf, IntWalk.i64_in _ (by omega)]; omega
              replace hf := hide hf
              have c3 : wr.cell? ⟨g, 3, none⟩ = some (.slice (some ⟨b, 0, none⟩) ys.length cc) := hr.blk.cell 3
              have z3 : wr.frozen? ⟨g, 3, none⟩ = false := hr.blk.frozen 3
              go_upto_region 14 with fail
              go_cut [8] (fun v8 wx => v8 = .int .i64 ((min r d : Nat) : Int) ∧ wx = wr)
              case first =>
                go_wp2_with fail
                all_goals (go_meet; refine ⟨?_, rfl⟩; congr 1; omega)
              case rest =>
                obtain ⟨rfl, rfl⟩ := hcut
                obtain ⟨k, hk⟩ : ∃ k, k = min r d := ⟨_, rfl⟩
                rw [← hk]
                have hf' := hf.out
                obtain ⟨e, he⟩ : ∃ e, e = f + k := ⟨_, rfl⟩
                have q11 : IntKind.i64.wrap ((f : Int) + k) = (e : Int) := by rw [he, IntWalk.i64_in _ (by omega)]; omega
                have q12 : (f : Int) ≤ e := by omega
                have q13 : (e : Int) ≤ cc := by omega
                have q14 : ¬ cc = f := by omega
                have q15 : e - f = k := by omega
                have hk1 : 1 ≤ k := by omega
                have hkd : k ≤ d := by omega
                have hkr : k ≤ r := by omega
                have hek : e ≤ ys.length := by omega
                have q16 : IntKind.i64.wrap ((r : Int) - k) = ((r - k : Nat) : Int) := by rw [IntWalk.i64_in _ (by omega)]; omega
                have hT2 : Hid (tells (r - k) d (ys ++ (ys.drop f).take k) = tells n d bs) := hide (by
                  rw [← hT.out, hf', ← tells_piece k d ys q8 hd hkd, ← tells_add, show k + (r - k) = r by omega])
                clear hf' he hk
                have hw0 := hbr.drew
                have hC4 := hCr.drew
                have hsz4 := hC4.size
                have hB4 := hr.blk.drewN 1
                have hO4 : wc.drew.ownsRow base 5 1 (.slice (some ⟨b, 0, none⟩) ys.length cc) ys.length (nums .u8 ys) := hr.own
                have hR4 : RN .u8 wc.drew (b + 1) (some ⟨b, f, none⟩) k ((ys.drop f).take k) := by
                  refine ⟨by simp [nums]; omega, fun _ => ⟨_, rfl, by simp, fun j u hu => ?_⟩⟩
                  have hj : j < k := by have := (List.getElem?_eq_some_iff.1 hu).1; simp [nums] at this; omega
                  have hc := hO4.cells (g := b) rfl (f + j) u (by rw [← hu]; simp [nums, hj, List.getElem?_drop])
                  have e : (⟨b, f, none⟩ : Addr).add j = ⟨b, f + j, none⟩ := by cases j <;> simp [Addr.add]
                  have e2 : (⟨b, 0, none⟩ : Addr).add (f + j) = ⟨b, f + j, none⟩ := by
                    generalize f + j = q
                    cases q <;> simp [Addr.add]
                  rw [e]
                  rw [e2] at hc
                  exact hc
                have hl2 : (ys ++ (ys.drop f).take k).length = ys.length + k := by simp; omega
                have hgs : g < wc.drew.heap.size := hr.blk.lt
                have hbas := hr.bas
                have hne : (some b : Option Nat) ≠ some g := hr.ne
                go_upto_region 15 with fail
                go_region_law ((refine step_append_any _ rfl (.tmp 94) (.tmp 103) _ rfl base 5 i0 _ 1 1 Try.underlying22 hi0 hz0 hz1 hz2 rfl (by omega) _ ys.length (nums .u8 ys) rfl hO4 (b + 1) _ k _ _ rfl hR4 (nums_one _ _) (by simp only [maxLen]; omega) (by omega) (by omega) ?_; intro v5 w5 hown5 hg5 hat5; obtain ⟨A5, cc5, rfl, hc5⟩ := own_form hown5; have hB5 := hB4.grown hg5 (fun e => hne e.symm); have c35 : w5.cell? ⟨g, 3, none⟩ = some (.slice (some ⟨b, 0, none⟩) ys.length cc) := hB5.cell 3; have z35 : w5.frozen? ⟨g, 3, none⟩ = false := hB5.frozen 3; clear c3 z3))
                all_goals
                  have hn5 : (Value.slice A5 (ys.length + k) cc5).ownBlock ≠ some g := by
                    rcases hat5 with e | e <;> rw [e]
                    · exact hne
                    · simp at hgs ⊢; omega
                  have hown6 := own_set (p := ⟨g, 3, none⟩) hown5 hn5 (.slice A5 (ys.length + k) cc5)
                  go_wp2_with fail
                  refine ⟨⟨r - k, _, ys ++ (ys.drop f).take k, rfl, hT2, by omega, by omega, (hw0.grown hg5 (by omega) (fun k hk => hbase hO4 k hk)).setCell (show base ≤ g from hbas) _, (hC4.grown hg5 (fun k hk => hir.out k hk)).setCell (.inl hgS) _, hide (fun k hk => own_in hir.out hat5 hsz4 k hk), hB5.set_ 3 _, ?_, hbas, by omega, hr.win0, hr.win1⟩, by simp [intOf]; omega⟩
                  rw [hl2, nums_append]
                  exact hown6
            · obtain rfl : r = 0 := by omega
              go_wp2_with fail
              go_ret
              exact ⟨rfl, hbr, by rw [← hS.out]; exact hCr, _, by rw [← hT.out]; exact hr⟩
theorem hist_copy (w : World) (base g : Nat) (win most : Int) (nz : Bool) (v : Value) (bs : List Int) (d n : Nat) (h : HO w base g win most nz v bs) (hd : 1 ≤ d) (hdw : (d : Int) ≤ win) (hdn : d ≤ bs.length ∨ nz = true) (hr : (n : Int) ≤ most - bs.length) (hm : most ≤ 9223372036854775807) (hn : bs.length + n ≤ 1099511627776) :
    Calls Try.prog 28 #[.pointer (some ⟨g, 0, none⟩), .int .i64 d, .int .i64 n] w fun e w' => e = .returned (.int .i64 0) ∧ Below base w w' ∧ ∃ v', HO w' base g win most nz v' (tells n d bs) :=
  (hist_copyC w base g win most nz v bs d n h hd hdw hdn hr hm hn).mono fun _ _ ⟨h1, h2, _, h3⟩ => ⟨h1, h2, h3⟩
open Go.RowKit
attribute [local go_sem ↓] Go.wp_at_zero Go.wp_at_succ

set_option maxHeartbeats 4000000 in
theorem hist_new (w : World) (win most : Int) (nz : Bool) (h1 : 1 ≤ win) (h2 : win ≤ 65536) (h3 : 0 ≤ most) :
    Calls Try.prog 24 #[.int .i64 win, .int .i64 most, .bool nz] w fun e w' => ∃ g v, e = .returned (.tuple #[.pointer (some ⟨g, 0, none⟩), .int .i64 0]) ∧ Below w.heap.size w w' ∧ HO w' w.heap.size g win most nz v [] := by
  have q1 : decide (win < 1) = false := by simp; omega
  have q2 : decide (65536 < win) = false := by simp; omega
  have q3 : decide (most < 0) = false := by simp; omega
  go_enter Try.func24, Try.ntmps24
  go_wp2_with fail
  go_ret2
  refine ⟨_, _, rfl, (Below.refl _ _).alloc (Nat.le_refl _) _, Blk.new w _ _, own_nil _ _ _ _, Nat.le_refl _, by simp, h1, h2⟩

set_option maxHeartbeats 4000000 in
theorem clone_any (w : World) (A : Option Addr) (n c : Nat) (bs : List Int) (h : RN .u8 w w.heap.size A n bs) (hA : A = none → n = 0 ∧ c = 0) (hn : n ≤ 1099511627776) :
    Calls Try.prog 39 #[.slice A n c] w fun e w' => ∃ v, e = .returned v ∧ Below w.heap.size w w' ∧ w'.ownsRow w.heap.size 5 1 v n (nums .u8 bs) := by
  obtain ⟨i0, hi0, hz0, hz1, hz2⟩ := info_parts byteInfo
  have q22 : ∀ (w : World) (a : Option Addr) (n c n' c' : Nat), (binOp .eql 22 (.slice a n c) (.slice none n' c')).run Try.prog w = .ok (.bool a.isNone) w := fun w a n c n' c' => Lib.run_eql_slice_nil w _ _ a n c n' c' Try.underlying22
  cases A with
  | none =>
    obtain ⟨rfl, rfl⟩ := hA rfl
    have hb : bs = [] := List.eq_nil_of_length_eq_zero h.len
    subst hb
    go_enter Try.func39, Try.ntmps39
    go_wp2_with fail
    go_ret
    exact ⟨_, rfl, Below.refl _ _, own_nil _ _ _ _⟩
  | some ad =>
    go_enter Try.func39, Try.ntmps39
    have hO := World.ownsRow_made (e := 5) (size := 1) w #[] 0 (Nat.le_refl _) (Nat.zero_le _) rfl
    go_wp2_with (at_builtin; refine wpList_append_any _ rfl _ _ _ rfl w.heap.size 5 i0 _ 1 1 Try.underlying22 hi0 hz0 hz1 hz2 rfl (by omega) _ 0 [] rfl hO w.heap.size _ n c (nums .u8 bs) rfl (Reads.alloc h (Nat.le_refl _) _) (nums_one _ _) (by simp only [maxLen]; omega) (by omega) (by simp) ?_; intro v5 w5 hown5 hg5 hat5)
    go_ret
    refine ⟨v5, rfl, ((Below.refl _ w).alloc (Nat.le_refl _) _).grown hg5 (by simp) (fun k hk => hbase hO k hk), by simpa using hown5⟩
theorem hist_bytes (w : World) (base g : Nat) (win most : Int) (nz : Bool) (v : Value) (bs : List Int) (h : HO w base g win most nz v bs) :
    Calls Try.prog 32 #[.pointer (some ⟨g, 0, none⟩)] w fun e w' => ∃ v, e = .returned v ∧ Below w.heap.size w w' ∧ w'.ownsRow w.heap.size 5 1 v bs.length (nums .u8 bs) := by
  have c0 : w.cell? ⟨g, 0, none⟩ = some (.int .i64 win) := h.blk.cell 0
  have c3 : w.cell? ⟨g, 3, none⟩ = some v := h.blk.cell 3
  obtain ⟨A, cc, rfl, hc⟩ := own_form h.own
  have hA : A = none → bs.length = 0 ∧ cc = 0 := by
    rintro rfl
    rcases h.own.2 with ⟨e, e2⟩ | ⟨_, _, _, e, _⟩
    · injection e with _ _ e3
      exact ⟨e2, e3⟩
    · cases e
  have hr := Reads.of_own h.own
  have hbn := h.bnd
  go_enter Try.func32, Try.ntmps32
  go_wp2_with fail
  refine (hist_ok w g win c0 h.win0).mono ?_
  rintro e w' ⟨rfl, rfl⟩
  go_wp2_with fail
  refine (clone_any w A bs.length cc bs hr hA hbn).mono ?_
  rintro e w2 ⟨v2, rfl, hb2, hown2⟩
  obtain ⟨A2, c2, rfl, _⟩ := own_form hown2
  go_wp2_with fail
  go_ret
  exact ⟨_, rfl, hb2, hown2⟩
open Go.RowKit
attribute [local go_sem ↓] Go.wp_at_zero Go.wp_at_succ

set_option maxHeartbeats 4000000 in
set_option maxRecDepth 100000 in
theorem hist_copy_full (w : World) (base g : Nat) (win most : Int) (nz : Bool) (v : Value) (bs : List Int) (d n : Nat) (h : HO w base g win most nz v bs) (hd : 1 ≤ d) (hdw : (d : Int) ≤ win) (hdn : d ≤ bs.length ∨ nz = true) (hr : most - bs.length < (n : Int)) (hm0 : 0 ≤ most) (hm : most ≤ 9223372036854775807) :
    Calls Try.prog 28 #[.pointer (some ⟨g, 0, none⟩), .int .i64 d, .int .i64 n] w fun e w' => e = .returned (.int .i64 9) ∧ Drawn w w' := by
  have c0 : w.cell? ⟨g, 0, none⟩ = some (.int .i64 win) := h.blk.cell 0
  have c1 : w.cell? ⟨g, 1, none⟩ = some (.int .i64 most) := h.blk.cell 1
  have c2 : w.cell? ⟨g, 2, none⟩ = some (.bool nz) := h.blk.cell 2
  have c3 : w.cell? ⟨g, 3, none⟩ = some v := h.blk.cell 3
  obtain ⟨A, cc, rfl, hc⟩ := own_form h.own
  have hbn := h.bnd
  have q2 : ¬ d = 0 := by omega
  have q3 : decide (win < d) = false := by simp; omega
  have q4 : decide ((bs.length : Int) < d) = true → nz = true := by
    intro e
    simp at e
    rcases hdn with h1 | h1
    · omega
    · exact h1
  have q5 : IntKind.i64.wrap (most - bs.length) = most - bs.length := IntWalk.i64_in _ (by omega)
  have q6 : decide (most - (bs.length : Int) < n) = true := by simp; omega
  go_enter Try.func28, Try.ntmps28
  go_wp2_with fail
  refine (hist_ok w g win c0 h.win0).mono ?_
  rintro e w' ⟨rfl, rfl⟩
  go_upto_region 5 with fail
  go_cut [20] (fun v20 wx => v20 = .bool false ∧ wx = w)
  case first =>
    go_wp2_with fail
    all_goals go_meet
    all_goals exact ⟨rfl, rfl⟩
  case rest =>
    obtain ⟨rfl, rfl⟩ := hcut
    go_wp2_with fail
    go_quiet (fail)
    go_wp2_with fail
    go_ret
    exact ⟨rfl, ⟨_, rfl⟩⟩
end Go.Proofs.Ytplkdjbcdeakaaa

