/- Functions of the program as the plain machine has them, each with its equation. Printed by a program of this place (wip/gx/gx.py) out of the translation. No condition. -/
import Derived.Test.YtplkdjbcdeakaaaGxQ
import Derived.Test.YtplkdjbcdeakaaaProg
import Derived.Test.YtplkdjbcdeakaaaLv
namespace Go.Proofs.Ytplkdjbcdeakaaa.Gx
open Go
set_option linter.unusedVariables false
theorem mixed_ok : Try.prog.follows .mixedOrders = true := by kernel_rfl
section
variable {β : Type}
/-! F8 duffel/duffelref01.Cut -/
def CF_ref01_Cut  : Orc β := fun f args h K => none
def HF_ref01_Cut : Hints := ⟨[], [], []⟩
noncomputable def G_ref01_Cut  (R : Nat) (a1 : Sl) (a2 : Int) (h : GH) (K : Sl → GH → Option β) : Option β := gfun Try.prog (CF_ref01_Cut ) HF_ref01_Cut R Try.f8 [Value.slice a1.a a1.n a1.c, Value.int .i64 a2] h (fun v h' => exS (some v) fun u5 => K u5 h')
set_option maxRecDepth 100000 in
theorem F_ref01_Cut_gen  (R : Nat) (a1 : Sl) (a2 : Int) (h : GH) (K : Sl → GH → Option β) : G_ref01_Cut  R a1 a2 h K =
    (bif decide (((a1.n : Nat) : Int) > a2) then bnd a2 a1.c fun m3 => K ⟨addO a1.a (0 * 1), m3 - 0, a1.c - 0⟩ h else K a1 h) := by kernel_rfl
noncomputable def F_ref01_Cut (R : Nat) (a1 : Sl) (a2 : Int) (h : GH) (K : Sl → GH → Option β) : Option β := G_ref01_Cut  R a1 a2 h K
theorem CF_ref01_Cut_sim : SimOrc Try.prog (CF_ref01_Cut (β := β)) := by
  intro f args h K r hc
  cases hc
set_option maxRecDepth 100000 in
theorem F_ref01_Cut_sim {R : Nat} {r : β} {a1 : Sl} {a2 : Int} {h : GH} {K : Value → GH → Option β} (hc : F_ref01_Cut R a1 a2 h (fun q0 h' => K (Value.slice q0.a q0.n q0.c) h') = some r) : ∃ v h', K v h' = some r ∧ CallSim Try.prog 8 [Value.slice a1.a a1.n a1.c, Value.int .i64 a2] h v h' := by
  unfold F_ref01_Cut G_ref01_Cut at hc
  obtain ⟨v, h', hk, hs⟩ := gfun_sim CF_ref01_Cut_sim mixed_ok (fun f h => by cases h) Try.func8 (by kernel_rfl) hc
  obtain ⟨u0, e0, hk⟩ := exS_v hk; cases e0
  exact ⟨_, h', hk, hs⟩
/-! F22 duffel/duffelref01.Within -/
def CF_ref01_Within  : Orc β := fun f args h K => none
def HF_ref01_Within : Hints := ⟨[], [], []⟩
noncomputable def G_ref01_Within  (R : Nat) (a1 : Int) (a2 : Int) (a3 : Int) (h : GH) (K : Int → GH → Option β) : Option β := gfun Try.prog (CF_ref01_Within ) HF_ref01_Within R Try.f22 [Value.int .i64 a1, Value.int .i64 a2, Value.int .i64 a3] h (fun v h' => exI .i64 (some v) fun u5 => K u5 h')
set_option maxRecDepth 100000 in
theorem F_ref01_Within_gen  (R : Nat) (a1 : Int) (a2 : Int) (a3 : Int) (h : GH) (K : Int → GH → Option β) : G_ref01_Within  R a1 a2 a3 h K =
    (bif decide (a1 < a2) then K a2 h else (bif decide (a1 > a3) then K a3 h else K a1 h)) := by kernel_rfl
noncomputable def F_ref01_Within (R : Nat) (a1 : Int) (a2 : Int) (a3 : Int) (h : GH) (K : Int → GH → Option β) : Option β := G_ref01_Within  R a1 a2 a3 h K
theorem CF_ref01_Within_sim : SimOrc Try.prog (CF_ref01_Within (β := β)) := by
  intro f args h K r hc
  cases hc
set_option maxRecDepth 100000 in
theorem F_ref01_Within_sim {R : Nat} {r : β} {a1 : Int} {a2 : Int} {a3 : Int} {h : GH} {K : Value → GH → Option β} (hc : F_ref01_Within R a1 a2 a3 h (fun q0 h' => K (Value.int .i64 q0) h') = some r) : ∃ v h', K v h' = some r ∧ CallSim Try.prog 22 [Value.int .i64 a1, Value.int .i64 a2, Value.int .i64 a3] h v h' := by
  unfold F_ref01_Within G_ref01_Within at hc
  obtain ⟨v, h', hk, hs⟩ := gfun_sim CF_ref01_Within_sim mixed_ok (fun f h => by cases h) Try.func22 (by kernel_rfl) hc
  obtain ⟨u0, e0, hk⟩ := exI_v hk; cases e0
  exact ⟨_, h', hk, hs⟩
/-! F23 duffel/dle.right -/
def CF_dle_right  : Orc β := fun f args h K => none
def HF_dle_right : Hints := ⟨[], [], []⟩
noncomputable def G_dle_right  (R : Nat) (a1 : Int) (h : GH) (K : Bool → GH → Option β) : Option β := gfun Try.prog (CF_dle_right ) HF_dle_right R Try.f23 [Value.int .i64 a1] h (fun v h' => exB (some v) fun u3 => K u3 h')
set_option maxRecDepth 100000 in
theorem F_dle_right_gen  (R : Nat) (a1 : Int) (h : GH) (K : Bool → GH → Option β) : G_dle_right  R a1 h K =
    (bif decide (a1 ≥ 1) then K (decide (a1 ≤ 4)) h else K false h) := by kernel_rfl
noncomputable def F_dle_right (R : Nat) (a1 : Int) (h : GH) (K : Bool → GH → Option β) : Option β := G_dle_right  R a1 h K
theorem CF_dle_right_sim : SimOrc Try.prog (CF_dle_right (β := β)) := by
  intro f args h K r hc
  cases hc
set_option maxRecDepth 100000 in
theorem F_dle_right_sim {R : Nat} {r : β} {a1 : Int} {h : GH} {K : Value → GH → Option β} (hc : F_dle_right R a1 h (fun q0 h' => K (Value.bool q0) h') = some r) : ∃ v h', K v h' = some r ∧ CallSim Try.prog 23 [Value.int .i64 a1] h v h' := by
  unfold F_dle_right G_dle_right at hc
  obtain ⟨v, h', hk, hs⟩ := gfun_sim CF_dle_right_sim mixed_ok (fun f h => by cases h) Try.func23 (by kernel_rfl) hc
  obtain ⟨u0, e0, hk⟩ := exB_v hk; cases e0
  exact ⟨_, h', hk, hs⟩
/-! F34 duffel/dle.mask -/
def CF_dle_mask  : Orc β := fun f args h K => none
def HF_dle_mask : Hints := ⟨[], [], []⟩
noncomputable def G_dle_mask  (R : Nat) (a1 : Int) (h : GH) (K : Int → GH → Option β) : Option β := gfun Try.prog (CF_dle_mask ) HF_dle_mask R Try.f34 [Value.int .i64 a1] h (fun v h' => exI .i64 (some v) fun u3 => K u3 h')
set_option maxRecDepth 100000 in
theorem F_dle_mask_gen  (R : Nat) (a1 : Int) (h : GH) (K : Int → GH → Option β) : G_dle_mask  R a1 h K =
    (bif decide ((IntKind.wrap .i64 (8 - a1)) < 0) then none else K (IntKind.wrap .i64 ((shlI .i64 1 (IntKind.wrap .i64 (8 - a1))) - 1)) h) := by kernel_rfl
noncomputable def F_dle_mask (R : Nat) (a1 : Int) (h : GH) (K : Int → GH → Option β) : Option β := G_dle_mask  R a1 h K
theorem CF_dle_mask_sim : SimOrc Try.prog (CF_dle_mask (β := β)) := by
  intro f args h K r hc
  cases hc
set_option maxRecDepth 100000 in
theorem F_dle_mask_sim {R : Nat} {r : β} {a1 : Int} {h : GH} {K : Value → GH → Option β} (hc : F_dle_mask R a1 h (fun q0 h' => K (Value.int .i64 q0) h') = some r) : ∃ v h', K v h' = some r ∧ CallSim Try.prog 34 [Value.int .i64 a1] h v h' := by
  unfold F_dle_mask G_dle_mask at hc
  obtain ⟨v, h', hk, hs⟩ := gfun_sim CF_dle_mask_sim mixed_ok (fun f h => by cases h) Try.func34 (by kernel_rfl) hc
  obtain ⟨u0, e0, hk⟩ := exI_v hk; cases e0
  exact ⟨_, h', hk, hs⟩
/-! F40 duffel/finder.Check -/
def CF_finder_Check  : Orc β := fun f args h K => none
def HF_finder_Check : Hints := ⟨[], [], []⟩
noncomputable def G_finder_Check  (R : Nat) (a1 : Int) (a2 : Int) (a3 : Int) (a4 : Int) (a5 : Bool) (h : GH) (K : Int → GH → Option β) : Option β := gfun Try.prog (CF_finder_Check ) HF_finder_Check R Try.f40 [Value.agg #[Value.int .i64 a1, Value.int .i64 a2, Value.int .i64 a3, Value.int .i64 a4, Value.bool a5]] h (fun v h' => exI .i64 (some v) fun u18 => K u18 h')
set_option maxRecDepth 100000 in
theorem F_finder_Check_gen  (R : Nat) (a1 : Int) (a2 : Int) (a3 : Int) (a4 : Int) (a5 : Bool) (h : GH) (K : Int → GH → Option β) : G_finder_Check  R a1 a2 a3 a4 a5 h K =
    gnew [Value.int .i64 a1, Value.int .i64 a2, Value.int .i64 a3, Value.int .i64 a4, Value.bool a5] 0 h fun g6 h7 => exI .i64 (h7.cell ⟨g6, 0 + 0, none⟩) fun x8 => (bif decide (x8 < 1) then K 2 h7 else exI .i64 (h7.cell ⟨g6, 0 + 0, none⟩) fun x9 => (bif decide (x9 > 65536) then K 2 h7 else exI .i64 (h7.cell ⟨g6, 0 + 1, none⟩) fun x10 => (bif decide (x10 < 2) then K 2 h7 else exI .i64 (h7.cell ⟨g6, 0 + 1, none⟩) fun x11 => (bif decide (x11 > 3) then K 2 h7 else exI .i64 (h7.cell ⟨g6, 0 + 2, none⟩) fun x12 => exI .i64 (h7.cell ⟨g6, 0 + 1, none⟩) fun x13 => (bif decide (x12 < x13) then K 2 h7 else exI .i64 (h7.cell ⟨g6, 0 + 2, none⟩) fun x14 => (bif decide (x14 > 65538) then K 2 h7 else exI .i64 (h7.cell ⟨g6, 0 + 3, none⟩) fun x15 => (bif decide (x15 < 0) then K 2 h7 else exI .i64 (h7.cell ⟨g6, 0 + 3, none⟩) fun x16 => (bif decide (x16 > 4096) then K 2 h7 else K 0 h7)))))))) := by kernel_rfl
noncomputable def F_finder_Check (R : Nat) (a1 : Int) (a2 : Int) (a3 : Int) (a4 : Int) (a5 : Bool) (h : GH) (K : Int → GH → Option β) : Option β := G_finder_Check  R a1 a2 a3 a4 a5 h K
theorem CF_finder_Check_sim : SimOrc Try.prog (CF_finder_Check (β := β)) := by
  intro f args h K r hc
  cases hc
set_option maxRecDepth 100000 in
theorem F_finder_Check_sim {R : Nat} {r : β} {a1 : Int} {a2 : Int} {a3 : Int} {a4 : Int} {a5 : Bool} {h : GH} {K : Value → GH → Option β} (hc : F_finder_Check R a1 a2 a3 a4 a5 h (fun q0 h' => K (Value.int .i64 q0) h') = some r) : ∃ v h', K v h' = some r ∧ CallSim Try.prog 40 [Value.agg #[Value.int .i64 a1, Value.int .i64 a2, Value.int .i64 a3, Value.int .i64 a4, Value.bool a5]] h v h' := by
  unfold F_finder_Check G_finder_Check at hc
  obtain ⟨v, h', hk, hs⟩ := gfun_sim CF_finder_Check_sim mixed_ok (fun f h => by cases h) Try.func40 (by kernel_rfl) hc
  obtain ⟨u0, e0, hk⟩ := exI_v hk; cases e0
  exact ⟨_, h', hk, hs⟩
/-! F45 (*duffel/finder.finder).key -/
def CF_finder_finder_key  : Orc β := fun f args h K => none
def HF_finder_finder_key : Hints := ⟨[], [], []⟩
noncomputable def G_finder_finder_key  (R : Nat) (a1 : Option Addr) (a2 : Int) (h : GH) (K : Int → Int → Int → Bool → GH → Option β) : Option β := gfun Try.prog (CF_finder_finder_key ) HF_finder_finder_key R Try.f45 [Value.pointer a1, Value.int .i64 a2] h (fun v h' => exTup 2 v fun vs => exV (nth vs 0) fun v0 => exAg v0 fun c41 => (bif Nat.beq c41.length 3 then exI .u8 (nth c41 (0)) fun u42 => exI .u8 (nth c41 (0 + 1)) fun u43 => exI .u8 (nth c41 (0 + 1 + 1)) fun u44 => exV (nth vs 1) fun v1 => exB (some v1) fun u45 => K u42 u43 u44 u45 h' else none))
set_option maxRecDepth 100000 in
theorem F_finder_finder_key_gen  (R : Nat) (a1 : Option Addr) (a2 : Int) (h : GH) (K : Int → Int → Int → Bool → GH → Option β) : G_finder_finder_key  R a1 a2 h K =
    gnew [Value.int .u8 0, Value.int .u8 0, Value.int .u8 0] 0 h fun g3 h4 => gnew [Value.int .u8 0, Value.int .u8 0, Value.int .u8 0] 0 h4 fun g5 h6 => exA a1 fun g7 o8 => exI .i64 (h6.cell ⟨g7, o8 + 0 + 1, none⟩) fun x9 => exA a1 fun g10 o11 => exS (h6.cell ⟨g10, o11 + 5, none⟩) fun x12 => (bif decide ((IntKind.wrap .i64 (a2 + x9)) > ((x12.n : Nat) : Int)) then exI .u8 (h6.cell ⟨g5, 0, none⟩) fun x13 => exI .u8 (h6.cell ⟨g5, 0 + 1, none⟩) fun x14 => exI .u8 (h6.cell ⟨g5, 0 + 1 + 1, none⟩) fun x15 => gput g3 (0) [Value.int .u8 x13, Value.int .u8 x14, Value.int .u8 x15] h6 fun h16 => exI .u8 (h16.cell ⟨g3, 0, none⟩) fun x17 => exI .u8 (h16.cell ⟨g3, 0 + 1, none⟩) fun x18 => exI .u8 (h16.cell ⟨g3, 0 + 1 + 1, none⟩) fun x19 => K x17 x18 x19 false h16 else exA a1 fun g20 o21 => exS (h6.cell ⟨g20, o21 + 5, none⟩) fun x22 => exA a1 fun g23 o24 => exI .i64 (h6.cell ⟨g23, o24 + 0 + 1, none⟩) fun x25 => bnd (IntKind.wrap .i64 (a2 + x25)) x22.c fun m26 => bnd a2 m26 fun m27 => gcopy 1 ⟨(some ⟨g5, bif Nat.beq 3 0 then 0 else 0 + 0 * 1, none⟩), 3 - 0, 3 - 0⟩ ⟨addO x22.a (m27 * 1), m26 - m27, x22.c - m27⟩ h6 fun x28 h29 => exI .u8 (h29.cell ⟨g5, 0, none⟩) fun x30 => exI .u8 (h29.cell ⟨g5, 0 + 1, none⟩) fun x31 => exI .u8 (h29.cell ⟨g5, 0 + 1 + 1, none⟩) fun x32 => gput g3 (0) [Value.int .u8 x30, Value.int .u8 x31, Value.int .u8 x32] h29 fun h33 => exI .u8 (h33.cell ⟨g3, 0, none⟩) fun x34 => exI .u8 (h33.cell ⟨g3, 0 + 1, none⟩) fun x35 => exI .u8 (h33.cell ⟨g3, 0 + 1 + 1, none⟩) fun x36 => K x34 x35 x36 true h33) := by kernel_rfl
noncomputable def F_finder_finder_key (R : Nat) (a1 : Option Addr) (a2 : Int) (h : GH) (K : Int → Int → Int → Bool → GH → Option β) : Option β := G_finder_finder_key  R a1 a2 h K
theorem CF_finder_finder_key_sim : SimOrc Try.prog (CF_finder_finder_key (β := β)) := by
  intro f args h K r hc
  cases hc
set_option maxRecDepth 100000 in
theorem F_finder_finder_key_sim {R : Nat} {r : β} {a1 : Option Addr} {a2 : Int} {h : GH} {K : Value → GH → Option β} (hc : F_finder_finder_key R a1 a2 h (fun q0 q1 q2 q3 h' => K (Value.tuple #[Value.agg #[Value.int .u8 q0, Value.int .u8 q1, Value.int .u8 q2], Value.bool q3]) h') = some r) : ∃ v h', K v h' = some r ∧ CallSim Try.prog 45 [Value.pointer a1, Value.int .i64 a2] h v h' := by
  unfold F_finder_finder_key G_finder_finder_key at hc
  obtain ⟨v, h', hk, hs⟩ := gfun_sim CF_finder_finder_key_sim mixed_ok (fun f h => by cases h) Try.func45 (by kernel_rfl) hc
  obtain ⟨vs, rfl, hl, hk⟩ := exTup_v hk
  obtain ⟨v0, t0, hk⟩ := exV_v hk
  obtain ⟨cs0, f0, hk⟩ := exAg_v hk; cases f0; obtain ⟨hl0, hk⟩ := beq_v hk
  obtain ⟨u1, e1, hk⟩ := exI_v hk
  obtain ⟨u2, e2, hk⟩ := exI_v hk
  obtain ⟨u3, e3, hk⟩ := exI_v hk
  obtain rfl := arr3 hl0 e1 e2 e3
  obtain ⟨v1, t1, hk⟩ := exV_v hk
  obtain ⟨u4, e4, hk⟩ := exB_v hk; cases e4
  obtain rfl := arr2 hl t0 t1
  exact ⟨_, h', hk, hs⟩
/-! F44 (*duffel/finder.finder).enter -/
def CF_finder_finder_enter (F_finder_finder_key : Option Addr → Int → GH → (Int → Int → Int → Bool → GH → Option β) → Option β) : Orc β := fun f args h K => bif Nat.beq f 45 then (match args with | [.pointer p1, .int .i64 p2] => F_finder_finder_key p1 p2 h (fun q37 q38 q39 q40 h' => K (Value.tuple #[Value.agg #[Value.int .u8 q37, Value.int .u8 q38, Value.int .u8 q39], Value.bool q40]) h') | _ => none) else none
def HF_finder_finder_enter : Hints := ⟨[(0, [0, 1], [(0, [])], none)], [], []⟩
noncomputable def BF_finder_finder_enter : Code := match Try.f44.body with | some c => c | none => .skip
noncomputable def F_finder_finder_enter_l0 (F_finder_finder_key : Option Addr → Int → GH → (Int → Int → Int → Bool → GH → Option β) → Option β) (R : Nat) (n : Nat) (y3 : Option Addr) (y4 : Int) (h : GH) (K0 : GH → Option β) : Option β := gloop (gcode Try.prog (CF_finder_finder_enter F_finder_finder_key) Try.f44.ntmps HF_finder_finder_enter R (at_ [false, false] BF_finder_finder_enter)) [0, 1] n [(0, Value.pointer y3), (1, Value.int .i64 y4)] h (fun i e' h' => bif Nat.beq i 0 then (K0 h') else none) (fun e' h' => none)
set_option maxRecDepth 100000 in
theorem F_finder_finder_enter_l0_succ (F_finder_finder_key : Option Addr → Int → GH → (Int → Int → Int → Bool → GH → Option β) → Option β) (R : Nat) (n : Nat) (y3 : Option Addr) (y4 : Int) (h : GH) (K0 : GH → Option β) : F_finder_finder_enter_l0 F_finder_finder_key R (n + 1) y3 y4 h K0 =
    exA y3 fun g5 o6 => exI .i64 (h.cell ⟨g5, o6 + 8, none⟩) fun x7 => (bif decide (x7 < y4) then exA y3 fun g8 o9 => exI .i64 (h.cell ⟨g8, o9 + 8, none⟩) fun x10 => F_finder_finder_key y3 x10 h fun r11 r12 r13 r14 h15 => gnew [Value.int .u8 0, Value.int .u8 0, Value.int .u8 0] 0 h15 fun g16 h17 => gput g16 (0) [Value.int .u8 r11, Value.int .u8 r12, Value.int .u8 r13] h17 fun h18 => (bif r14 then exA y3 fun g19 o20 => exS (h18.cell ⟨g19, o20 + 7, none⟩) fun x21 => exA y3 fun g22 o23 => exI .i64 (h18.cell ⟨g22, o23 + 8, none⟩) fun x24 => exA y3 fun g25 o26 => exV (h18.cell ⟨g25, o26 + 6, none⟩) fun x27 => exI .u8 (h18.cell ⟨g16, 0, none⟩) fun x28 => exI .u8 (h18.cell ⟨g16, 0 + 1, none⟩) fun x29 => exI .u8 (h18.cell ⟨g16, 0 + 1 + 1, none⟩) fun x30 => glookI Try.prog 84 .i64 x27 (Value.agg #[Value.int .u8 x28, Value.int .u8 x29, Value.int .u8 x30]) h18 fun x31 => exA x21.a fun g32 o33 => within x24 x21.n (gput g32 (o33 + x24.toNat * 1) [Value.int .i64 x31] h18 fun h34 => (bif sameAt g22 (o23 + 8) 1 h18 h18 then (bif sameAt g19 (o20 + 7) 1 h18 h18 then exA y3 fun g35 o36 => exV (h34.cell ⟨g35, o36 + 6, none⟩) fun x37 => exI .u8 (h34.cell ⟨g16, 0, none⟩) fun x38 => exI .u8 (h34.cell ⟨g16, 0 + 1, none⟩) fun x39 => exI .u8 (h34.cell ⟨g16, 0 + 1 + 1, none⟩) fun x40 => exA y3 fun g41 o42 => exI .i64 (h34.cell ⟨g41, o42 + 8, none⟩) fun x43 => gmapSet Try.prog 84 x37 (Value.agg #[Value.int .u8 x38, Value.int .u8 x39, Value.int .u8 x40]) (Value.int .i64 (IntKind.wrap .i64 (x43 + 1))) h34 fun h44 => exA y3 fun g45 o46 => exI .i64 (h44.cell ⟨g45, o46 + 8, none⟩) fun x47 => exA y3 fun g48 o49 => gput g48 (o49 + 8) [Value.int .i64 (IntKind.wrap .i64 (x47 + 1))] h44 fun h50 => F_finder_finder_enter_l0 F_finder_finder_key R n y3 y4 h50 K0 else none) else none)) else exA y3 fun g51 o52 => exI .i64 (h18.cell ⟨g51, o52 + 8, none⟩) fun x53 => exA y3 fun g54 o55 => gput g54 (o55 + 8) [Value.int .i64 (IntKind.wrap .i64 (x53 + 1))] h18 fun h56 => F_finder_finder_enter_l0 F_finder_finder_key R n y3 y4 h56 K0) else K0 h) := by kernel_rfl
noncomputable def G_finder_finder_enter (F_finder_finder_key : Option Addr → Int → GH → (Int → Int → Int → Bool → GH → Option β) → Option β) (R : Nat) (a1 : Option Addr) (a2 : Int) (h : GH) (K : GH → Option β) : Option β := gfun Try.prog (CF_finder_finder_enter F_finder_finder_key) HF_finder_finder_enter R Try.f44 [Value.pointer a1, Value.int .i64 a2] h (fun _ h' => K h')
set_option maxRecDepth 100000 in
theorem F_finder_finder_enter_gen (F_finder_finder_key : Option Addr → Int → GH → (Int → Int → Int → Bool → GH → Option β) → Option β) (R : Nat) (a1 : Option Addr) (a2 : Int) (h : GH) (K : GH → Option β) : G_finder_finder_enter F_finder_finder_key R a1 a2 h K =
    F_finder_finder_enter_l0 F_finder_finder_key R R a1 a2 h (fun h57 => K h57) := by kernel_rfl
noncomputable def F_finder_finder_enter (R : Nat) (a1 : Option Addr) (a2 : Int) (h : GH) (K : GH → Option β) : Option β := G_finder_finder_enter (F_finder_finder_key R) R a1 a2 h K
set_option maxRecDepth 100000 in
theorem CF_finder_finder_enter_sim {R : Nat} : SimOrc Try.prog (CF_finder_finder_enter (F_finder_finder_key R) (β := β)) := by
  intro f args h K r hc
  unfold CF_finder_finder_enter at hc
  cases hb : Nat.beq f 45 with
  | true =>
    rw [hb] at hc
    simp only [cond_true] at hc
    obtain rfl := Nat.eq_of_beq_eq_true hb
    split at hc
    · exact any_call (F_finder_finder_key_sim (K := K) hc)
    · cases hc
  | false =>
  rw [hb] at hc
  simp only [cond_false] at hc
  cases hc
set_option maxRecDepth 100000 in
theorem F_finder_finder_enter_sim {R : Nat} {r : β} {a1 : Option Addr} {a2 : Int} {h : GH} {K : Value → GH → Option β} (hc : F_finder_finder_enter R a1 a2 h (fun h' => K (Value.tuple #[]) h') = some r) : ∃ v h', K v h' = some r ∧ CallSim Try.prog 44 [Value.pointer a1, Value.int .i64 a2] h v h' := by
  unfold F_finder_finder_enter G_finder_finder_enter at hc
  obtain ⟨v, h', hk, hs⟩ := gfun_sim (CF_finder_finder_enter_sim (R := R)) mixed_ok (fun f h => by cases h) Try.func44 (by kernel_rfl) hc
  exact ⟨_, h', hk, hs.unit⟩
/-! F46 (*duffel/finder.finder).length -/
def CF_finder_finder_length  : Orc β := fun f args h K => none
def HF_finder_finder_length : Hints := ⟨[(2, [0, 1, 2, 7], [(0, [(7, .ty 3)])], none)], [], []⟩
noncomputable def BF_finder_finder_length : Code := match Try.f46.body with | some c => c | none => .skip
noncomputable def F_finder_finder_length_l0  (R : Nat) (n : Nat) (y4 : Option Addr) (y5 : Int) (y6 : Int) (y7 : Int) (h : GH) (K0 : Int → GH → Option β) : Option β := gloop (gcode Try.prog (CF_finder_finder_length ) Try.f46.ntmps HF_finder_finder_length R (at_ [true, true, false, false, false] BF_finder_finder_length)) [0, 1, 2, 7] n [(0, Value.pointer y4), (1, Value.int .i64 y5), (2, Value.int .i64 y6), (7, Value.int .i64 y7)] h (fun i e' h' => bif Nat.beq i 0 then (exI .i64 (some (e'.get 7)) fun u30 => K0 u30 h') else none) (fun e' h' => none)
set_option maxRecDepth 100000 in
theorem F_finder_finder_length_l0_succ  (R : Nat) (n : Nat) (y4 : Option Addr) (y5 : Int) (y6 : Int) (y7 : Int) (h : GH) (K0 : Int → GH → Option β) : F_finder_finder_length_l0  R (n + 1) y4 y5 y6 y7 h K0 =
    exA y4 fun g9 o10 => exI .i64 (h.cell ⟨g9, o10 + 0 + 2, none⟩) fun x11 => (bif decide (y7 < x11) then exA y4 fun g12 o13 => exS (h.cell ⟨g12, o13 + 5, none⟩) fun x14 => (bif decide ((IntKind.wrap .i64 (y6 + y7)) < ((x14.n : Nat) : Int)) then exA y4 fun g15 o16 => exS (h.cell ⟨g15, o16 + 5, none⟩) fun x17 => exA x17.a fun g18 o19 => within (IntKind.wrap .i64 (y5 + y7)) x17.n (exI .u8 (h.cell ⟨g18, o19 + (IntKind.wrap .i64 (y5 + y7)).toNat * 1, none⟩) fun x20 => exA y4 fun g21 o22 => exS (h.cell ⟨g21, o22 + 5, none⟩) fun x23 => exA x23.a fun g24 o25 => within (IntKind.wrap .i64 (y6 + y7)) x23.n (exI .u8 (h.cell ⟨g24, o25 + (IntKind.wrap .i64 (y6 + y7)).toNat * 1, none⟩) fun x26 => (bif x20 == x26 then F_finder_finder_length_l0 R n y4 y5 y6 (IntKind.wrap .i64 (y7 + 1)) h K0 else K0 y7 h))) else K0 y7 h) else K0 y7 h) := by kernel_rfl
noncomputable def G_finder_finder_length  (R : Nat) (a1 : Option Addr) (a2 : Int) (a3 : Int) (h : GH) (K : Int → GH → Option β) : Option β := gfun Try.prog (CF_finder_finder_length ) HF_finder_finder_length R Try.f46 [Value.pointer a1, Value.int .i64 a2, Value.int .i64 a3] h (fun v h' => exI .i64 (some v) fun u31 => K u31 h')
set_option maxRecDepth 100000 in
theorem F_finder_finder_length_gen  (R : Nat) (a1 : Option Addr) (a2 : Int) (a3 : Int) (h : GH) (K : Int → GH → Option β) : G_finder_finder_length  R a1 a2 a3 h K =
    F_finder_finder_length_l0 R R a1 a2 a3 0 h (fun w27 h28 => K w27 h28) := by kernel_rfl
noncomputable def F_finder_finder_length (R : Nat) (a1 : Option Addr) (a2 : Int) (a3 : Int) (h : GH) (K : Int → GH → Option β) : Option β := G_finder_finder_length  R a1 a2 a3 h K
theorem CF_finder_finder_length_sim : SimOrc Try.prog (CF_finder_finder_length (β := β)) := by
  intro f args h K r hc
  cases hc
set_option maxRecDepth 100000 in
theorem F_finder_finder_length_sim {R : Nat} {r : β} {a1 : Option Addr} {a2 : Int} {a3 : Int} {h : GH} {K : Value → GH → Option β} (hc : F_finder_finder_length R a1 a2 a3 h (fun q0 h' => K (Value.int .i64 q0) h') = some r) : ∃ v h', K v h' = some r ∧ CallSim Try.prog 46 [Value.pointer a1, Value.int .i64 a2, Value.int .i64 a3] h v h' := by
  unfold F_finder_finder_length G_finder_finder_length at hc
  obtain ⟨v, h', hk, hs⟩ := gfun_sim CF_finder_finder_length_sim mixed_ok (fun f h => by cases h) Try.func46 (by kernel_rfl) hc
  obtain ⟨u0, e0, hk⟩ := exI_v hk; cases e0
  exact ⟨_, h', hk, hs⟩
/-! F41 (*duffel/finder.finder).at -/
def CF_finder_finder_at (F_finder_finder_enter : Option Addr → Int → GH → (GH → Option β) → Option β) (F_finder_finder_key : Option Addr → Int → GH → (Int → Int → Int → Bool → GH → Option β) → Option β) (F_finder_finder_length : Option Addr → Int → Int → GH → (Int → GH → Option β) → Option β) : Orc β := fun f args h K => bif Nat.beq f 44 then (match args with | [.pointer p1, .int .i64 p2] => F_finder_finder_enter p1 p2 h (fun h' => K (Value.tuple #[]) h') | _ => none) else (bif Nat.beq f 45 then (match args with | [.pointer p1, .int .i64 p2] => F_finder_finder_key p1 p2 h (fun q37 q38 q39 q40 h' => K (Value.tuple #[Value.agg #[Value.int .u8 q37, Value.int .u8 q38, Value.int .u8 q39], Value.bool q40]) h') | _ => none) else (bif Nat.beq f 46 then (match args with | [.pointer p1, .int .i64 p2, .int .i64 p3] => F_finder_finder_length p1 p2 p3 h (fun q29 h' => K (Value.int .i64 q29) h') | _ => none) else none))
def HF_finder_finder_at : Hints := ⟨[(8, [0, 1, 4, 5, 8, 9], [(0, [(4, .ty 15), (5, .ty 15)])], none)], [], []⟩
noncomputable def BF_finder_finder_at : Code := match Try.f41.body with | some c => c | none => .skip
noncomputable def F_finder_finder_at_l0 (F_finder_finder_enter : Option Addr → Int → GH → (GH → Option β) → Option β) (F_finder_finder_key : Option Addr → Int → GH → (Int → Int → Int → Bool → GH → Option β) → Option β) (F_finder_finder_length : Option Addr → Int → Int → GH → (Int → GH → Option β) → Option β) (R : Nat) (n : Nat) (y30 : Option Addr) (y31 : Int) (y32 : Option Addr) (y33 : Option Addr) (y34 : Int) (y35 : Int) (h : GH) (K0 : Option Addr → Option Addr → GH → Option β) : Option β := gloop (gcode Try.prog (CF_finder_finder_at F_finder_finder_enter F_finder_finder_key F_finder_finder_length) Try.f41.ntmps HF_finder_finder_at R (at_ [true, true, true, true, true, true, false, true, false, false] BF_finder_finder_at)) [0, 1, 4, 5, 8, 9] n [(0, Value.pointer y30), (1, Value.int .i64 y31), (4, Value.pointer y32), (5, Value.pointer y33), (8, Value.int .i64 y34), (9, Value.int .i64 y35)] h (fun i e' h' => bif Nat.beq i 0 then (exP (some (e'.get 4)) fun u95 => exP (some (e'.get 5)) fun u96 => K0 u95 u96 h') else none) (fun e' h' => none)
set_option maxRecDepth 100000 in
theorem F_finder_finder_at_l0_succ (F_finder_finder_enter : Option Addr → Int → GH → (GH → Option β) → Option β) (F_finder_finder_key : Option Addr → Int → GH → (Int → Int → Int → Bool → GH → Option β) → Option β) (F_finder_finder_length : Option Addr → Int → Int → GH → (Int → GH → Option β) → Option β) (R : Nat) (n : Nat) (y30 : Option Addr) (y31 : Int) (y32 : Option Addr) (y33 : Option Addr) (y34 : Int) (y35 : Int) (h : GH) (K0 : Option Addr → Option Addr → GH → Option β) : F_finder_finder_at_l0 F_finder_finder_enter F_finder_finder_key F_finder_finder_length R (n + 1) y30 y31 y32 y33 y34 y35 h K0 =
    exA y30 fun g38 o39 => exI .i64 (h.cell ⟨g38, o39 + 0 + 3, none⟩) fun x40 => (bif decide (y35 < x40) then (bif decide (y34 > 0) then exA y30 fun g41 o42 => exI .i64 (h.cell ⟨g41, o42 + 0 + 0, none⟩) fun x43 => (bif decide ((IntKind.wrap .i64 (y31 - (IntKind.wrap .i64 (y34 - 1)))) ≤ x43) then F_finder_finder_length y30 (IntKind.wrap .i64 (y34 - 1)) y31 h fun r44 h45 => exA y33 fun g46 o47 => exI .i64 (h45.cell ⟨g46, o47 + 2, none⟩) fun x48 => (bif decide (r44 > x48) then exA y33 fun g49 o50 => gput g49 (o50) [Value.int .u8 0, Value.int .i64 (IntKind.wrap .i64 (y31 - (IntKind.wrap .i64 (y34 - 1)))), Value.int .i64 r44] h45 fun h51 => exA y33 fun g52 o53 => exI .i64 (h51.cell ⟨g52, o53 + 2, none⟩) fun x54 => exA y30 fun g55 o56 => exI .i64 (h51.cell ⟨g55, o56 + 0 + 2, none⟩) fun x57 => (bif x54 == x57 then K0 y32 y33 h51 else exA y30 fun g58 o59 => exS (h51.cell ⟨g58, o59 + 7, none⟩) fun x60 => exA x60.a fun g61 o62 => within (IntKind.wrap .i64 (y34 - 1)) x60.n (exI .i64 (h51.cell ⟨g61, o62 + (IntKind.wrap .i64 (y34 - 1)).toNat * 1, none⟩) fun x63 => F_finder_finder_at_l0 F_finder_finder_enter F_finder_finder_key F_finder_finder_length R n y30 y31 y32 y33 x63 (IntKind.wrap .i64 (y35 + 1)) h51 K0)) else exA y33 fun g64 o65 => exI .i64 (h45.cell ⟨g64, o65 + 2, none⟩) fun x66 => exA y30 fun g67 o68 => exI .i64 (h45.cell ⟨g67, o68 + 0 + 2, none⟩) fun x69 => (bif x66 == x69 then K0 y32 y33 h45 else exA y30 fun g70 o71 => exS (h45.cell ⟨g70, o71 + 7, none⟩) fun x72 => exA x72.a fun g73 o74 => within (IntKind.wrap .i64 (y34 - 1)) x72.n (exI .i64 (h45.cell ⟨g73, o74 + (IntKind.wrap .i64 (y34 - 1)).toNat * 1, none⟩) fun x75 => F_finder_finder_at_l0 F_finder_finder_enter F_finder_finder_key F_finder_finder_length R n y30 y31 y32 y33 x75 (IntKind.wrap .i64 (y35 + 1)) h45 K0))) else K0 y32 y33 h) else K0 y32 y33 h) else K0 y32 y33 h) := by kernel_rfl
noncomputable def G_finder_finder_at (F_finder_finder_enter : Option Addr → Int → GH → (GH → Option β) → Option β) (F_finder_finder_key : Option Addr → Int → GH → (Int → Int → Int → Bool → GH → Option β) → Option β) (F_finder_finder_length : Option Addr → Int → Int → GH → (Int → GH → Option β) → Option β) (R : Nat) (a1 : Option Addr) (a2 : Int) (h : GH) (K : Int → Int → Int → GH → Option β) : Option β := gfun Try.prog (CF_finder_finder_at F_finder_finder_enter F_finder_finder_key F_finder_finder_length) HF_finder_finder_at R Try.f41 [Value.pointer a1, Value.int .i64 a2] h (fun v h' => exAg v fun c97 => (bif Nat.beq c97.length 3 then exI .u8 (nth c97 (0)) fun u98 => exI .i64 (nth c97 (0 + 1)) fun u99 => exI .i64 (nth c97 (0 + 1 + 1)) fun u100 => K u98 u99 u100 h' else none))
set_option maxRecDepth 100000 in
theorem F_finder_finder_at_gen (F_finder_finder_enter : Option Addr → Int → GH → (GH → Option β) → Option β) (F_finder_finder_key : Option Addr → Int → GH → (Int → Int → Int → Bool → GH → Option β) → Option β) (F_finder_finder_length : Option Addr → Int → Int → GH → (Int → GH → Option β) → Option β) (R : Nat) (a1 : Option Addr) (a2 : Int) (h : GH) (K : Int → Int → Int → GH → Option β) : G_finder_finder_at F_finder_finder_enter F_finder_finder_key F_finder_finder_length R a1 a2 h K =
    gnew [Value.int .u8 0, Value.int .i64 0, Value.int .i64 0] 0 h fun g3 h4 => gnew [Value.int .u8 0, Value.int .i64 0, Value.int .i64 0] 0 h4 fun g5 h6 => F_finder_finder_enter a1 a2 h6 fun h7 => F_finder_finder_key a1 a2 h7 fun r8 r9 r10 r11 h12 => gnew [Value.int .u8 0, Value.int .u8 0, Value.int .u8 0] 0 h12 fun g13 h14 => gput g13 (0) [Value.int .u8 r8, Value.int .u8 r9, Value.int .u8 r10] h14 fun h15 => (bif !r11 then exI .u8 (h15.cell ⟨g5, 0, none⟩) fun x16 => exI .i64 (h15.cell ⟨g5, 0 + 1, none⟩) fun x17 => exI .i64 (h15.cell ⟨g5, 0 + 1 + 1, none⟩) fun x18 => gput g3 (0) [Value.int .u8 x16, Value.int .i64 x17, Value.int .i64 x18] h15 fun h19 => exI .u8 (h19.cell ⟨g3, 0, none⟩) fun x20 => exI .i64 (h19.cell ⟨g3, 0 + 1, none⟩) fun x21 => exI .i64 (h19.cell ⟨g3, 0 + 1 + 1, none⟩) fun x22 => K x20 x21 x22 h19 else exA a1 fun g23 o24 => exV (h15.cell ⟨g23, o24 + 6, none⟩) fun x25 => exI .u8 (h15.cell ⟨g13, 0, none⟩) fun x26 => exI .u8 (h15.cell ⟨g13, 0 + 1, none⟩) fun x27 => exI .u8 (h15.cell ⟨g13, 0 + 1 + 1, none⟩) fun x28 => glookI Try.prog 84 .i64 x25 (Value.agg #[Value.int .u8 x26, Value.int .u8 x27, Value.int .u8 x28]) h15 fun x29 => F_finder_finder_at_l0 F_finder_finder_enter F_finder_finder_key F_finder_finder_length R R a1 a2 (some ⟨g3, 0, none⟩) (some ⟨g5, 0, none⟩) x29 0 h15 (fun w76 w77 h78 => exA w77 fun g79 o80 => exI .u8 (h78.cell ⟨g79, o80, none⟩) fun x81 => exI .i64 (h78.cell ⟨g79, o80 + 1, none⟩) fun x82 => exI .i64 (h78.cell ⟨g79, o80 + 1 + 1, none⟩) fun x83 => exA w76 fun g84 o85 => gput g84 (o85) [Value.int .u8 x81, Value.int .i64 x82, Value.int .i64 x83] h78 fun h86 => exA w76 fun g87 o88 => exI .u8 (h86.cell ⟨g87, o88, none⟩) fun x89 => exI .i64 (h86.cell ⟨g87, o88 + 1, none⟩) fun x90 => exI .i64 (h86.cell ⟨g87, o88 + 1 + 1, none⟩) fun x91 => K x89 x90 x91 h86)) := by kernel_rfl
noncomputable def F_finder_finder_at (R : Nat) (a1 : Option Addr) (a2 : Int) (h : GH) (K : Int → Int → Int → GH → Option β) : Option β := G_finder_finder_at (F_finder_finder_enter R) (F_finder_finder_key R) (F_finder_finder_length R) R a1 a2 h K
set_option maxRecDepth 100000 in
theorem CF_finder_finder_at_sim {R : Nat} : SimOrc Try.prog (CF_finder_finder_at (F_finder_finder_enter R) (F_finder_finder_key R) (F_finder_finder_length R) (β := β)) := by
  intro f args h K r hc
  unfold CF_finder_finder_at at hc
  cases hb : Nat.beq f 44 with
  | true =>
    rw [hb] at hc
    simp only [cond_true] at hc
    obtain rfl := Nat.eq_of_beq_eq_true hb
    split at hc
    · exact any_call (F_finder_finder_enter_sim (K := K) hc)
    · cases hc
  | false =>
  rw [hb] at hc
  simp only [cond_false] at hc
  cases hb : Nat.beq f 45 with
  | true =>
    rw [hb] at hc
    simp only [cond_true] at hc
    obtain rfl := Nat.eq_of_beq_eq_true hb
    split at hc
    · exact any_call (F_finder_finder_key_sim (K := K) hc)
    · cases hc
  | false =>
  rw [hb] at hc
  simp only [cond_false] at hc
  cases hb : Nat.beq f 46 with
  | true =>
    rw [hb] at hc
    simp only [cond_true] at hc
    obtain rfl := Nat.eq_of_beq_eq_true hb
    split at hc
    · exact any_call (F_finder_finder_length_sim (K := K) hc)
    · cases hc
  | false =>
  rw [hb] at hc
  simp only [cond_false] at hc
  cases hc
set_option maxRecDepth 100000 in
theorem F_finder_finder_at_sim {R : Nat} {r : β} {a1 : Option Addr} {a2 : Int} {h : GH} {K : Value → GH → Option β} (hc : F_finder_finder_at R a1 a2 h (fun q0 q1 q2 h' => K (Value.agg #[Value.int .u8 q0, Value.int .i64 q1, Value.int .i64 q2]) h') = some r) : ∃ v h', K v h' = some r ∧ CallSim Try.prog 41 [Value.pointer a1, Value.int .i64 a2] h v h' := by
  unfold F_finder_finder_at G_finder_finder_at at hc
  obtain ⟨v, h', hk, hs⟩ := gfun_sim (CF_finder_finder_at_sim (R := R)) mixed_ok (fun f h => by cases h) Try.func41 (by kernel_rfl) hc
  obtain ⟨cs0, f0, hk⟩ := exAg_v hk; cases f0; obtain ⟨hl0, hk⟩ := beq_v hk
  obtain ⟨u1, e1, hk⟩ := exI_v hk
  obtain ⟨u2, e2, hk⟩ := exI_v hk
  obtain ⟨u3, e3, hk⟩ := exI_v hk
  obtain rfl := arr3 hl0 e1 e2 e3
  exact ⟨_, h', hk, hs⟩
/-! F35 duffel/finder.Find -/
def CF_finder_Find (F_finder_Check : Int → Int → Int → Int → Bool → GH → (Int → GH → Option β) → Option β) (F_finder_finder_at : Option Addr → Int → GH → (Int → Int → Int → GH → Option β) → Option β) : Orc β := fun f args h K => bif Nat.beq f 40 then (match args with | [.agg ⟨[.int .i64 p1, .int .i64 p2, .int .i64 p3, .int .i64 p4, .bool p5]⟩] => F_finder_Check p1 p2 p3 p4 p5 h (fun q17 h' => K (Value.int .i64 q17) h') | _ => none) else (bif Nat.beq f 41 then (match args with | [.pointer p1, .int .i64 p2] => F_finder_finder_at p1 p2 h (fun q92 q93 q94 h' => K (Value.agg #[Value.int .u8 q92, Value.int .i64 q93, Value.int .i64 q94]) h') | _ => none) else none)
def HF_finder_Find : Hints := ⟨[(7, [0, 3, 7, 8, 9], [(0, [(8, .ty 61)])], none)], [], []⟩
noncomputable def BF_finder_Find : Code := match Try.f35.body with | some c => c | none => .skip
noncomputable def F_finder_Find_l0 (F_finder_Check : Int → Int → Int → Int → Bool → GH → (Int → GH → Option β) → Option β) (F_finder_finder_at : Option Addr → Int → GH → (Int → Int → Int → GH → Option β) → Option β) (R : Nat) (n : Nat) (y27 : Sl) (y28 : Option Addr) (y29 : Option Addr) (y30 : Sl) (y31 : Int) (h : GH) (K0 : Sl → GH → Option β) : Option β := gloop (gcode Try.prog (CF_finder_Find F_finder_Check F_finder_finder_at) Try.f35.ntmps HF_finder_Find R (at_ [true, true, true, true, false, true, false, false] BF_finder_Find)) [0, 3, 7, 8, 9] n [(0, Value.slice y27.a y27.n y27.c), (3, Value.pointer y28), (7, Value.pointer y29), (8, Value.slice y30.a y30.n y30.c), (9, Value.int .i64 y31)] h (fun i e' h' => bif Nat.beq i 0 then (exS (some (e'.get 8)) fun u97 => K0 u97 h') else none) (fun e' h' => none)
set_option maxRecDepth 100000 in
theorem F_finder_Find_l0_succ (F_finder_Check : Int → Int → Int → Int → Bool → GH → (Int → GH → Option β) → Option β) (F_finder_finder_at : Option Addr → Int → GH → (Int → Int → Int → GH → Option β) → Option β) (R : Nat) (n : Nat) (y27 : Sl) (y28 : Option Addr) (y29 : Option Addr) (y30 : Sl) (y31 : Int) (h : GH) (K0 : Sl → GH → Option β) : F_finder_Find_l0 F_finder_Check F_finder_finder_at R (n + 1) y27 y28 y29 y30 y31 h K0 =
    (bif decide (y31 < ((y27.n : Nat) : Int)) then F_finder_finder_at y29 y31 h fun r33 r34 r35 h36 => gnew [Value.int .u8 0, Value.int .i64 0, Value.int .i64 0] 0 h36 fun g37 h38 => gput g37 (0) [Value.int .u8 r33, Value.int .i64 r34, Value.int .i64 r35] h38 fun h39 => exI .u8 (h39.cell ⟨g37, 0, none⟩) fun x40 => exI .i64 (h39.cell ⟨g37, 0 + 1, none⟩) fun x41 => exI .i64 (h39.cell ⟨g37, 0 + 1 + 1, none⟩) fun x42 => (bif ((x40 == 0) && ((x41 == 0) && ((x42 == 0) && true))) then exA y27.a fun g43 o44 => within y31 y27.n (exI .u8 (h39.cell ⟨g43, o44 + y31.toNat * 1, none⟩) fun x45 => gnew [Value.int .u8 x45, Value.int .i64 0, Value.int .i64 0] 3 h39 fun g46 h47 => gappS 3 24 y30 ⟨(some ⟨g46, 0, none⟩), 1, 1⟩ h47 fun s48 h49 => F_finder_Find_l0 F_finder_Check F_finder_finder_at R n y27 y28 y29 s48 (IntKind.wrap .i64 (y31 + 1)) h49 K0) else exA y28 fun g50 o51 => exB (h39.cell ⟨g50, o51 + 4, none⟩) fun x52 => (bif x52 then exI .i64 (h39.cell ⟨g37, 0 + 2, none⟩) fun x53 => exA y28 fun g54 o55 => exI .i64 (h39.cell ⟨g54, o55 + 2, none⟩) fun x56 => (bif decide (x53 < x56) then F_finder_finder_at y29 (IntKind.wrap .i64 (y31 + 1)) h39 fun r57 r58 r59 h60 => exI .i64 (h60.cell ⟨g37, 0 + 2, none⟩) fun x61 => (bif sameAt g37 (0 + 2) 1 h39 h60 then (bif decide (r59 > x61) then exA y27.a fun g62 o63 => within y31 y27.n (exI .u8 (h60.cell ⟨g62, o63 + y31.toNat * 1, none⟩) fun x64 => gnew [Value.int .u8 x64, Value.int .i64 0, Value.int .i64 0] 3 h60 fun g65 h66 => gappS 3 24 y30 ⟨(some ⟨g65, 0, none⟩), 1, 1⟩ h66 fun s67 h68 => F_finder_Find_l0 F_finder_Check F_finder_finder_at R n y27 y28 y29 s67 (IntKind.wrap .i64 (y31 + 1)) h68 K0) else exI .u8 (h60.cell ⟨g37, 0, none⟩) fun x69 => exI .i64 (h60.cell ⟨g37, 0 + 1, none⟩) fun x70 => exI .i64 (h60.cell ⟨g37, 0 + 1 + 1, none⟩) fun x71 => gnew [Value.int .u8 x69, Value.int .i64 x70, Value.int .i64 x71] 3 h60 fun g72 h73 => gappS 3 24 y30 ⟨(some ⟨g72, 0, none⟩), 1, 1⟩ h73 fun s74 h75 => exI .i64 (h75.cell ⟨g37, 0 + 2, none⟩) fun x76 => F_finder_Find_l0 F_finder_Check F_finder_finder_at R n y27 y28 y29 s74 (IntKind.wrap .i64 (y31 + x76)) h75 K0) else none) else exI .u8 (h39.cell ⟨g37, 0, none⟩) fun x77 => exI .i64 (h39.cell ⟨g37, 0 + 1, none⟩) fun x78 => exI .i64 (h39.cell ⟨g37, 0 + 1 + 1, none⟩) fun x79 => gnew [Value.int .u8 x77, Value.int .i64 x78, Value.int .i64 x79] 3 h39 fun g80 h81 => gappS 3 24 y30 ⟨(some ⟨g80, 0, none⟩), 1, 1⟩ h81 fun s82 h83 => exI .i64 (h83.cell ⟨g37, 0 + 2, none⟩) fun x84 => F_finder_Find_l0 F_finder_Check F_finder_finder_at R n y27 y28 y29 s82 (IntKind.wrap .i64 (y31 + x84)) h83 K0) else exI .u8 (h39.cell ⟨g37, 0, none⟩) fun x85 => exI .i64 (h39.cell ⟨g37, 0 + 1, none⟩) fun x86 => exI .i64 (h39.cell ⟨g37, 0 + 1 + 1, none⟩) fun x87 => gnew [Value.int .u8 x85, Value.int .i64 x86, Value.int .i64 x87] 3 h39 fun g88 h89 => gappS 3 24 y30 ⟨(some ⟨g88, 0, none⟩), 1, 1⟩ h89 fun s90 h91 => exI .i64 (h91.cell ⟨g37, 0 + 2, none⟩) fun x92 => F_finder_Find_l0 F_finder_Check F_finder_finder_at R n y27 y28 y29 s90 (IntKind.wrap .i64 (y31 + x92)) h91 K0)) else K0 y30 h) := by kernel_rfl
noncomputable def G_finder_Find (F_finder_Check : Int → Int → Int → Int → Bool → GH → (Int → GH → Option β) → Option β) (F_finder_finder_at : Option Addr → Int → GH → (Int → Int → Int → GH → Option β) → Option β) (R : Nat) (a1 : Sl) (a2 : Int) (a3 : Int) (a4 : Int) (a5 : Int) (a6 : Bool) (h : GH) (K : Sl → Int → GH → Option β) : Option β := gfun Try.prog (CF_finder_Find F_finder_Check F_finder_finder_at) HF_finder_Find R Try.f35 [Value.slice a1.a a1.n a1.c, Value.agg #[Value.int .i64 a2, Value.int .i64 a3, Value.int .i64 a4, Value.int .i64 a5, Value.bool a6]] h (fun v h' => exTup 2 v fun vs => exV (nth vs 0) fun v0 => exS (some v0) fun u98 => exV (nth vs 1) fun v1 => exI .i64 (some v1) fun u99 => K u98 u99 h')
set_option maxRecDepth 100000 in
theorem F_finder_Find_gen (F_finder_Check : Int → Int → Int → Int → Bool → GH → (Int → GH → Option β) → Option β) (F_finder_finder_at : Option Addr → Int → GH → (Int → Int → Int → GH → Option β) → Option β) (R : Nat) (a1 : Sl) (a2 : Int) (a3 : Int) (a4 : Int) (a5 : Int) (a6 : Bool) (h : GH) (K : Sl → Int → GH → Option β) : G_finder_Find F_finder_Check F_finder_finder_at R a1 a2 a3 a4 a5 a6 h K =
    gnew [Value.int .i64 a2, Value.int .i64 a3, Value.int .i64 a4, Value.int .i64 a5, Value.bool a6] 0 h fun g7 h8 => exI .i64 (h8.cell ⟨g7, 0, none⟩) fun x9 => exI .i64 (h8.cell ⟨g7, 0 + 1, none⟩) fun x10 => exI .i64 (h8.cell ⟨g7, 0 + 1 + 1, none⟩) fun x11 => exI .i64 (h8.cell ⟨g7, 0 + 1 + 1 + 1, none⟩) fun x12 => exB (h8.cell ⟨g7, 0 + 1 + 1 + 1 + 1, none⟩) fun x13 => F_finder_Check x9 x10 x11 x12 x13 h8 fun r14 h15 => (bif r14 != 0 then K ⟨none, 0, 0⟩ r14 h15 else exI .i64 (h15.cell ⟨g7, 0, none⟩) fun x16 => exI .i64 (h15.cell ⟨g7, 0 + 1, none⟩) fun x17 => exI .i64 (h15.cell ⟨g7, 0 + 1 + 1, none⟩) fun x18 => exI .i64 (h15.cell ⟨g7, 0 + 1 + 1 + 1, none⟩) fun x19 => exB (h15.cell ⟨g7, 0 + 1 + 1 + 1 + 1, none⟩) fun x20 => gmkMap h15 fun g21 h22 => gmake 1 8 (Value.int .i64 0) ((a1.n : Nat) : Int) ((a1.n : Nat) : Int) h22 fun s23 h24 => gnew [Value.int .i64 x16, Value.int .i64 x17, Value.int .i64 x18, Value.int .i64 x19, Value.bool x20, Value.slice a1.a a1.n a1.c, Value.map (some g21), Value.slice s23.a s23.n s23.c, Value.int .i64 0] 0 h24 fun g25 h26 => (bif sameAt g7 (0) 5 h15 h22 then F_finder_Find_l0 F_finder_Check F_finder_finder_at R R a1 (some ⟨g7, 0, none⟩) (some ⟨g25, 0, none⟩) ⟨none, 0, 0⟩ 0 h26 (fun w93 h94 => K w93 0 h94) else none)) := by kernel_rfl
noncomputable def F_finder_Find (R : Nat) (a1 : Sl) (a2 : Int) (a3 : Int) (a4 : Int) (a5 : Int) (a6 : Bool) (h : GH) (K : Sl → Int → GH → Option β) : Option β := G_finder_Find (F_finder_Check R) (F_finder_finder_at R) R a1 a2 a3 a4 a5 a6 h K
set_option maxRecDepth 100000 in
theorem CF_finder_Find_sim {R : Nat} : SimOrc Try.prog (CF_finder_Find (F_finder_Check R) (F_finder_finder_at R) (β := β)) := by
  intro f args h K r hc
  unfold CF_finder_Find at hc
  cases hb : Nat.beq f 40 with
  | true =>
    rw [hb] at hc
    simp only [cond_true] at hc
    obtain rfl := Nat.eq_of_beq_eq_true hb
    split at hc
    · exact any_call (F_finder_Check_sim (K := K) hc)
    · cases hc
  | false =>
  rw [hb] at hc
  simp only [cond_false] at hc
  cases hb : Nat.beq f 41 with
  | true =>
    rw [hb] at hc
    simp only [cond_true] at hc
    obtain rfl := Nat.eq_of_beq_eq_true hb
    split at hc
    · exact any_call (F_finder_finder_at_sim (K := K) hc)
    · cases hc
  | false =>
  rw [hb] at hc
  simp only [cond_false] at hc
  cases hc
set_option maxRecDepth 100000 in
theorem F_finder_Find_sim {R : Nat} {r : β} {a1 : Sl} {a2 : Int} {a3 : Int} {a4 : Int} {a5 : Int} {a6 : Bool} {h : GH} {K : Value → GH → Option β} (hc : F_finder_Find R a1 a2 a3 a4 a5 a6 h (fun q0 q1 h' => K (Value.tuple #[Value.slice q0.a q0.n q0.c, Value.int .i64 q1]) h') = some r) : ∃ v h', K v h' = some r ∧ CallSim Try.prog 35 [Value.slice a1.a a1.n a1.c, Value.agg #[Value.int .i64 a2, Value.int .i64 a3, Value.int .i64 a4, Value.int .i64 a5, Value.bool a6]] h v h' := by
  unfold F_finder_Find G_finder_Find at hc
  obtain ⟨v, h', hk, hs⟩ := gfun_sim (CF_finder_Find_sim (R := R)) mixed_ok (fun f h => by cases h) Try.func35 (by kernel_rfl) hc
  obtain ⟨vs, rfl, hl, hk⟩ := exTup_v hk
  obtain ⟨v0, t0, hk⟩ := exV_v hk
  obtain ⟨u0, e0, hk⟩ := exS_v hk; cases e0
  obtain ⟨v1, t1, hk⟩ := exV_v hk
  obtain ⟨u1, e1, hk⟩ := exI_v hk; cases e1
  obtain rfl := arr2 hl t0 t1
  exact ⟨_, h', hk, hs⟩
/-! F36 duffel/dle.plain -/
def CF_dle_plain  : Orc β := fun f args h K => none
def HF_dle_plain : Hints := ⟨[(2, [0, 7, 8, 9], [(0, [(0, .ty 22)])], none)], [], []⟩
noncomputable def BF_dle_plain : Code := match Try.f36.body with | some c => c | none => .skip
noncomputable def F_dle_plain_l0  (R : Nat) (n : Nat) (y3 : Sl) (y4 : Sl) (y5 : Int) (y6 : Int) (h : GH) (K0 : Sl → GH → Option β) : Option β := gloop (gcode Try.prog (CF_dle_plain ) Try.f36.ntmps HF_dle_plain R (at_ [true, false, true, false, false] BF_dle_plain)) [0, 7, 8, 9] n [(0, Value.slice y3.a y3.n y3.c), (7, Value.slice y4.a y4.n y4.c), (8, Value.int .i64 y5), (9, Value.int .i64 y6)] h (fun i e' h' => bif Nat.beq i 0 then (exS (some (e'.get 0)) fun u22 => K0 u22 h') else none) (fun e' h' => none)
set_option maxRecDepth 100000 in
theorem F_dle_plain_l0_succ  (R : Nat) (n : Nat) (y3 : Sl) (y4 : Sl) (y5 : Int) (y6 : Int) (h : GH) (K0 : Sl → GH → Option β) : F_dle_plain_l0  R (n + 1) y3 y4 y5 y6 h K0 =
    (bif decide (y6 < y5) then exA y4.a fun g8 o9 => within y6 y4.n (exI .u8 (h.cell ⟨g8, o9 + y6.toNat * 1, none⟩) fun x10 => gnew [Value.int .u8 x10] 1 h fun g11 h12 => gappS 1 1 y3 ⟨(some ⟨g11, 0, none⟩), 1, 1⟩ h12 fun s13 h14 => (bif x10 == 144 then gnew [Value.int .u8 0] 1 h14 fun g15 h16 => gappS 1 1 s13 ⟨(some ⟨g15, 0, none⟩), 1, 1⟩ h16 fun s17 h18 => F_dle_plain_l0 R n s17 y4 y5 (IntKind.wrap .i64 (y6 + 1)) h18 K0 else F_dle_plain_l0 R n s13 y4 y5 (IntKind.wrap .i64 (y6 + 1)) h14 K0)) else K0 y3 h) := by kernel_rfl
noncomputable def G_dle_plain  (R : Nat) (a1 : Sl) (a2 : Sl) (h : GH) (K : Sl → GH → Option β) : Option β := gfun Try.prog (CF_dle_plain ) HF_dle_plain R Try.f36 [Value.slice a1.a a1.n a1.c, Value.slice a2.a a2.n a2.c] h (fun v h' => exS (some v) fun u23 => K u23 h')
set_option maxRecDepth 100000 in
theorem F_dle_plain_gen  (R : Nat) (a1 : Sl) (a2 : Sl) (h : GH) (K : Sl → GH → Option β) : G_dle_plain  R a1 a2 h K =
    F_dle_plain_l0 R R a1 a2 ((a2.n : Nat) : Int) 0 h (fun w19 h20 => K w19 h20) := by kernel_rfl
noncomputable def F_dle_plain (R : Nat) (a1 : Sl) (a2 : Sl) (h : GH) (K : Sl → GH → Option β) : Option β := G_dle_plain  R a1 a2 h K
theorem CF_dle_plain_sim : SimOrc Try.prog (CF_dle_plain (β := β)) := by
  intro f args h K r hc
  cases hc
set_option maxRecDepth 100000 in
theorem F_dle_plain_sim {R : Nat} {r : β} {a1 : Sl} {a2 : Sl} {h : GH} {K : Value → GH → Option β} (hc : F_dle_plain R a1 a2 h (fun q0 h' => K (Value.slice q0.a q0.n q0.c) h') = some r) : ∃ v h', K v h' = some r ∧ CallSim Try.prog 36 [Value.slice a1.a a1.n a1.c, Value.slice a2.a a2.n a2.c] h v h' := by
  unfold F_dle_plain G_dle_plain at hc
  obtain ⟨v, h', hk, hs⟩ := gfun_sim CF_dle_plain_sim mixed_ok (fun f h => by cases h) Try.func36 (by kernel_rfl) hc
  obtain ⟨u0, e0, hk⟩ := exS_v hk; cases e0
  exact ⟨_, h', hk, hs⟩
/-! F20 duffel/dle.Encode -/
def CF_dle_Encode (F_dle_right : Int → GH → (Bool → GH → Option β) → Option β) (F_dle_mask : Int → GH → (Int → GH → Option β) → Option β) (F_finder_Find : Sl → Int → Int → Int → Int → Bool → GH → (Sl → Int → GH → Option β) → Option β) (F_dle_plain : Sl → Sl → GH → (Sl → GH → Option β) → Option β) : Orc β := fun f args h K => bif Nat.beq f 23 then (match args with | [.int .i64 p1] => F_dle_right p1 h (fun q2 h' => K (Value.bool q2) h') | _ => none) else (bif Nat.beq f 34 then (match args with | [.int .i64 p1] => F_dle_mask p1 h (fun q2 h' => K (Value.int .i64 q2) h') | _ => none) else (bif Nat.beq f 35 then (match args with | [.slice p1a p1n p1c, .agg ⟨[.int .i64 p2, .int .i64 p3, .int .i64 p4, .int .i64 p5, .bool p6]⟩] => F_finder_Find ⟨p1a, p1n, p1c⟩ p2 p3 p4 p5 p6 h (fun q95 q96 h' => K (Value.tuple #[Value.slice q95.a q95.n q95.c, Value.int .i64 q96]) h') | _ => none) else (bif Nat.beq f 36 then (match args with | [.slice p1a p1n p1c, .slice p2a p2n p2c] => F_dle_plain ⟨p1a, p1n, p1c⟩ ⟨p2a, p2n, p2c⟩ h (fun q21 h' => K (Value.slice q21.a q21.n q21.c) h') | _ => none) else none)))
def HF_dle_Encode : Hints := ⟨[(10, [0, 1, 6, 9, 10, 34, 35, 36], [(0, [(9, .ty 22)])], none)], [], []⟩
noncomputable def BF_dle_Encode : Code := match Try.f20.body with | some c => c | none => .skip
noncomputable def F_dle_Encode_l0 (F_dle_right : Int → GH → (Bool → GH → Option β) → Option β) (F_dle_mask : Int → GH → (Int → GH → Option β) → Option β) (F_finder_Find : Sl → Int → Int → Int → Int → Bool → GH → (Sl → Int → GH → Option β) → Option β) (F_dle_plain : Sl → Sl → GH → (Sl → GH → Option β) → Option β) (R : Nat) (n : Nat) (y10 : Sl) (y11 : Int) (y12 : Int) (y13 : Sl) (y14 : Int) (y15 : Sl) (y16 : Int) (y17 : Int) (h : GH) (K0 : Sl → GH → Option β) : Option β := gloop (gcode Try.prog (CF_dle_Encode F_dle_right F_dle_mask F_finder_Find F_dle_plain) Try.f20.ntmps HF_dle_Encode R (at_ [true, true, true, true, true, true, true, false, true, false, false] BF_dle_Encode)) [0, 1, 6, 9, 10, 34, 35, 36] n [(0, Value.slice y10.a y10.n y10.c), (1, Value.int .i64 y11), (6, Value.int .i64 y12), (9, Value.slice y13.a y13.n y13.c), (10, Value.int .i64 y14), (34, Value.slice y15.a y15.n y15.c), (35, Value.int .i64 y16), (36, Value.int .i64 y17)] h (fun i e' h' => bif Nat.beq i 0 then (exS (some (e'.get 9)) fun u52 => K0 u52 h') else none) (fun e' h' => none)
set_option maxRecDepth 100000 in
theorem F_dle_Encode_l0_succ (F_dle_right : Int → GH → (Bool → GH → Option β) → Option β) (F_dle_mask : Int → GH → (Int → GH → Option β) → Option β) (F_finder_Find : Sl → Int → Int → Int → Int → Bool → GH → (Sl → Int → GH → Option β) → Option β) (F_dle_plain : Sl → Sl → GH → (Sl → GH → Option β) → Option β) (R : Nat) (n : Nat) (y10 : Sl) (y11 : Int) (y12 : Int) (y13 : Sl) (y14 : Int) (y15 : Sl) (y16 : Int) (y17 : Int) (h : GH) (K0 : Sl → GH → Option β) : F_dle_Encode_l0 F_dle_right F_dle_mask F_finder_Find F_dle_plain R (n + 1) y10 y11 y12 y13 y14 y15 y16 y17 h K0 =
    (bif decide (y17 < y16) then exA y15.a fun g19 o20 => within y17 y15.n (exI .u8 (h.cell ⟨g19, o20 + y17.toNat * 3, none⟩) fun x21 => exI .i64 (h.cell ⟨g19, o20 + y17.toNat * 3 + 1, none⟩) fun x22 => exI .i64 (h.cell ⟨g19, o20 + y17.toNat * 3 + 1 + 1, none⟩) fun x23 => gnew [Value.int .u8 0, Value.int .i64 0, Value.int .i64 0] 0 h fun g24 h25 => gput g24 (0) [Value.int .u8 x21, Value.int .i64 x22, Value.int .i64 x23] h25 fun h26 => exI .i64 (h26.cell ⟨g24, 0 + 2, none⟩) fun x27 => exI .i64 (h26.cell ⟨g24, 0 + 1, none⟩) fun x28 => (bif decide ((IntKind.wrap .i64 (8 - y11)) < 0) then none else exI .i64 (h26.cell ⟨g24, 0 + 2, none⟩) fun x29 => (bif x29 == 0 then bnd (IntKind.wrap .i64 (y14 + (if 1 > x27 then 1 else x27))) y10.c fun m30 => bnd y14 m30 fun m31 => F_dle_plain y13 ⟨addO y10.a (m31 * 1), m30 - m31, y10.c - m31⟩ h26 fun r32 h33 => F_dle_Encode_l0 F_dle_right F_dle_mask F_finder_Find F_dle_plain R n y10 y11 y12 r32 (IntKind.wrap .i64 (y14 + (if 1 > x27 then 1 else x27))) y15 y16 (IntKind.wrap .i64 (y17 + 1)) h33 K0 else (bif (IntKind.wrap .i64 ((if y12 < (IntKind.wrap .i64 ((if 1 > x27 then 1 else x27) - 3)) then y12 else IntKind.wrap .i64 ((if 1 > x27 then 1 else x27) - 3)) + (shlI .i64 (shrI .i64 (IntKind.wrap .i64 (x28 - 1)) 8) (IntKind.wrap .i64 (8 - y11))))) == 0 then bnd (IntKind.wrap .i64 (y14 + (if 1 > x27 then 1 else x27))) y10.c fun m34 => bnd y14 m34 fun m35 => F_dle_plain y13 ⟨addO y10.a (m35 * 1), m34 - m35, y10.c - m35⟩ h26 fun r36 h37 => F_dle_Encode_l0 F_dle_right F_dle_mask F_finder_Find F_dle_plain R n y10 y11 y12 r36 (IntKind.wrap .i64 (y14 + (if 1 > x27 then 1 else x27))) y15 y16 (IntKind.wrap .i64 (y17 + 1)) h37 K0 else (bif (if y12 < (IntKind.wrap .i64 ((if 1 > x27 then 1 else x27) - 3)) then y12 else IntKind.wrap .i64 ((if 1 > x27 then 1 else x27) - 3)) == y12 then exI .i64 (h26.cell ⟨g24, 0 + 1, none⟩) fun x38 => gnew [Value.int .u8 144, Value.int .u8 (IntKind.wrap .u8 (IntKind.wrap .i64 ((if y12 < (IntKind.wrap .i64 ((if 1 > x27 then 1 else x27) - 3)) then y12 else IntKind.wrap .i64 ((if 1 > x27 then 1 else x27) - 3)) + (shlI .i64 (shrI .i64 (IntKind.wrap .i64 (x28 - 1)) 8) (IntKind.wrap .i64 (8 - y11)))))), Value.int .u8 (IntKind.wrap .u8 (IntKind.wrap .i64 ((IntKind.wrap .i64 ((if 1 > x27 then 1 else x27) - 3)) - y12))), Value.int .u8 (IntKind.wrap .u8 (IntKind.wrap .i64 (x38 - 1)))] 1 h26 fun g39 h40 => gappS 1 1 y13 ⟨(some ⟨g39, 0, none⟩), 4, 4⟩ h40 fun s41 h42 => F_dle_Encode_l0 F_dle_right F_dle_mask F_finder_Find F_dle_plain R n y10 y11 y12 s41 (IntKind.wrap .i64 (y14 + (if 1 > x27 then 1 else x27))) y15 y16 (IntKind.wrap .i64 (y17 + 1)) h42 K0 else exI .i64 (h26.cell ⟨g24, 0 + 1, none⟩) fun x43 => gnew [Value.int .u8 144, Value.int .u8 (IntKind.wrap .u8 (IntKind.wrap .i64 ((if y12 < (IntKind.wrap .i64 ((if 1 > x27 then 1 else x27) - 3)) then y12 else IntKind.wrap .i64 ((if 1 > x27 then 1 else x27) - 3)) + (shlI .i64 (shrI .i64 (IntKind.wrap .i64 (x28 - 1)) 8) (IntKind.wrap .i64 (8 - y11)))))), Value.int .u8 (IntKind.wrap .u8 (IntKind.wrap .i64 (x43 - 1)))] 1 h26 fun g44 h45 => gappS 1 1 y13 ⟨(some ⟨g44, 0, none⟩), 3, 3⟩ h45 fun s46 h47 => F_dle_Encode_l0 F_dle_right F_dle_mask F_finder_Find F_dle_plain R n y10 y11 y12 s46 (IntKind.wrap .i64 (y14 + (if 1 > x27 then 1 else x27))) y15 y16 (IntKind.wrap .i64 (y17 + 1)) h47 K0))))) else K0 y13 h) := by kernel_rfl
noncomputable def G_dle_Encode (F_dle_right : Int → GH → (Bool → GH → Option β) → Option β) (F_dle_mask : Int → GH → (Int → GH → Option β) → Option β) (F_finder_Find : Sl → Int → Int → Int → Int → Bool → GH → (Sl → Int → GH → Option β) → Option β) (F_dle_plain : Sl → Sl → GH → (Sl → GH → Option β) → Option β) (R : Nat) (a1 : Sl) (a2 : Int) (h : GH) (K : Sl → Int → GH → Option β) : Option β := gfun Try.prog (CF_dle_Encode F_dle_right F_dle_mask F_finder_Find F_dle_plain) HF_dle_Encode R Try.f20 [Value.slice a1.a a1.n a1.c, Value.int .i64 a2] h (fun v h' => exTup 2 v fun vs => exV (nth vs 0) fun v0 => exS (some v0) fun u53 => exV (nth vs 1) fun v1 => exI .i64 (some v1) fun u54 => K u53 u54 h')
set_option maxRecDepth 100000 in
theorem F_dle_Encode_gen (F_dle_right : Int → GH → (Bool → GH → Option β) → Option β) (F_dle_mask : Int → GH → (Int → GH → Option β) → Option β) (F_finder_Find : Sl → Int → Int → Int → Int → Bool → GH → (Sl → Int → GH → Option β) → Option β) (F_dle_plain : Sl → Sl → GH → (Sl → GH → Option β) → Option β) (R : Nat) (a1 : Sl) (a2 : Int) (h : GH) (K : Sl → Int → GH → Option β) : G_dle_Encode F_dle_right F_dle_mask F_finder_Find F_dle_plain R a1 a2 h K =
    F_dle_right a2 h fun r3 h4 => (bif !r3 then K ⟨none, 0, 0⟩ 2 h4 else F_dle_mask a2 h4 fun r5 h6 => (bif decide (a2 < 0) then none else F_finder_Find a1 (shlI .i64 256 a2) 3 (IntKind.wrap .i64 (r5 + 258)) 64 true h6 fun r7 r8 h9 => (bif r8 != 0 then K ⟨none, 0, 0⟩ r8 h9 else F_dle_Encode_l0 F_dle_right F_dle_mask F_finder_Find F_dle_plain R R a1 a2 r5 ⟨none, 0, 0⟩ 0 r7 ((r7.n : Nat) : Int) 0 h9 (fun w48 h49 => K w48 0 h49)))) := by kernel_rfl
noncomputable def F_dle_Encode (R : Nat) (a1 : Sl) (a2 : Int) (h : GH) (K : Sl → Int → GH → Option β) : Option β := G_dle_Encode (F_dle_right R) (F_dle_mask R) (F_finder_Find R) (F_dle_plain R) R a1 a2 h K
set_option maxRecDepth 100000 in
theorem CF_dle_Encode_sim {R : Nat} : SimOrc Try.prog (CF_dle_Encode (F_dle_right R) (F_dle_mask R) (F_finder_Find R) (F_dle_plain R) (β := β)) := by
  intro f args h K r hc
  unfold CF_dle_Encode at hc
  cases hb : Nat.beq f 23 with
  | true =>
    rw [hb] at hc
    simp only [cond_true] at hc
    obtain rfl := Nat.eq_of_beq_eq_true hb
    split at hc
    · exact any_call (F_dle_right_sim (K := K) hc)
    · cases hc
  | false =>
  rw [hb] at hc
  simp only [cond_false] at hc
  cases hb : Nat.beq f 34 with
  | true =>
    rw [hb] at hc
    simp only [cond_true] at hc
    obtain rfl := Nat.eq_of_beq_eq_true hb
    split at hc
    · exact any_call (F_dle_mask_sim (K := K) hc)
    · cases hc
  | false =>
  rw [hb] at hc
  simp only [cond_false] at hc
  cases hb : Nat.beq f 35 with
  | true =>
    rw [hb] at hc
    simp only [cond_true] at hc
    obtain rfl := Nat.eq_of_beq_eq_true hb
    split at hc
    · exact any_call (F_finder_Find_sim (K := K) hc)
    · cases hc
  | false =>
  rw [hb] at hc
  simp only [cond_false] at hc
  cases hb : Nat.beq f 36 with
  | true =>
    rw [hb] at hc
    simp only [cond_true] at hc
    obtain rfl := Nat.eq_of_beq_eq_true hb
    split at hc
    · exact any_call (F_dle_plain_sim (K := K) hc)
    · cases hc
  | false =>
  rw [hb] at hc
  simp only [cond_false] at hc
  cases hc
set_option maxRecDepth 100000 in
theorem F_dle_Encode_sim {R : Nat} {r : β} {a1 : Sl} {a2 : Int} {h : GH} {K : Value → GH → Option β} (hc : F_dle_Encode R a1 a2 h (fun q0 q1 h' => K (Value.tuple #[Value.slice q0.a q0.n q0.c, Value.int .i64 q1]) h') = some r) : ∃ v h', K v h' = some r ∧ CallSim Try.prog 20 [Value.slice a1.a a1.n a1.c, Value.int .i64 a2] h v h' := by
  unfold F_dle_Encode G_dle_Encode at hc
  obtain ⟨v, h', hk, hs⟩ := gfun_sim (CF_dle_Encode_sim (R := R)) mixed_ok (fun f h => by cases h) Try.func20 (by kernel_rfl) hc
  obtain ⟨vs, rfl, hl, hk⟩ := exTup_v hk
  obtain ⟨v0, t0, hk⟩ := exV_v hk
  obtain ⟨u0, e0, hk⟩ := exS_v hk; cases e0
  obtain ⟨v1, t1, hk⟩ := exV_v hk
  obtain ⟨u1, e1, hk⟩ := exI_v hk; cases e1
  obtain rfl := arr2 hl t0 t1
  exact ⟨_, h', hk, hs⟩
/-! F24 duffel/hist.New -/
def CF_hist_New  : Orc β := fun f args h K => none
def HF_hist_New : Hints := ⟨[], [], []⟩
noncomputable def G_hist_New  (R : Nat) (a1 : Int) (a2 : Int) (a3 : Bool) (h : GH) (K : Option Addr → Int → GH → Option β) : Option β := gfun Try.prog (CF_hist_New ) HF_hist_New R Try.f24 [Value.int .i64 a1, Value.int .i64 a2, Value.bool a3] h (fun v h' => exTup 2 v fun vs => exV (nth vs 0) fun v0 => exP (some v0) fun u8 => exV (nth vs 1) fun v1 => exI .i64 (some v1) fun u9 => K u8 u9 h')
set_option maxRecDepth 100000 in
theorem F_hist_New_gen  (R : Nat) (a1 : Int) (a2 : Int) (a3 : Bool) (h : GH) (K : Option Addr → Int → GH → Option β) : G_hist_New  R a1 a2 a3 h K =
    (bif decide (a1 < 1) then K none 2 h else (bif decide (a1 > 65536) then K none 2 h else (bif decide (a2 < 0) then K none 2 h else gnew [Value.int .i64 a1, Value.int .i64 a2, Value.bool a3, Value.slice none 0 0] 0 h fun g4 h5 => K (some ⟨g4, 0, none⟩) 0 h5))) := by kernel_rfl
noncomputable def F_hist_New (R : Nat) (a1 : Int) (a2 : Int) (a3 : Bool) (h : GH) (K : Option Addr → Int → GH → Option β) : Option β := G_hist_New  R a1 a2 a3 h K
theorem CF_hist_New_sim : SimOrc Try.prog (CF_hist_New (β := β)) := by
  intro f args h K r hc
  cases hc
set_option maxRecDepth 100000 in
theorem F_hist_New_sim {R : Nat} {r : β} {a1 : Int} {a2 : Int} {a3 : Bool} {h : GH} {K : Value → GH → Option β} (hc : F_hist_New R a1 a2 a3 h (fun q0 q1 h' => K (Value.tuple #[Value.pointer q0, Value.int .i64 q1]) h') = some r) : ∃ v h', K v h' = some r ∧ CallSim Try.prog 24 [Value.int .i64 a1, Value.int .i64 a2, Value.bool a3] h v h' := by
  unfold F_hist_New G_hist_New at hc
  obtain ⟨v, h', hk, hs⟩ := gfun_sim CF_hist_New_sim mixed_ok (fun f h => by cases h) Try.func24 (by kernel_rfl) hc
  obtain ⟨vs, rfl, hl, hk⟩ := exTup_v hk
  obtain ⟨v0, t0, hk⟩ := exV_v hk
  obtain ⟨u0, e0, hk⟩ := exP_v hk; cases e0
  obtain ⟨v1, t1, hk⟩ := exV_v hk
  obtain ⟨u1, e1, hk⟩ := exI_v hk; cases e1
  obtain rfl := arr2 hl t0 t1
  exact ⟨_, h', hk, hs⟩
/-! F9 duffel/dle.New -/
def CF_dle_New (F_dle_right : Int → GH → (Bool → GH → Option β) → Option β) (F_hist_New : Int → Int → Bool → GH → (Option Addr → Int → GH → Option β) → Option β) : Orc β := fun f args h K => bif Nat.beq f 23 then (match args with | [.int .i64 p1] => F_dle_right p1 h (fun q2 h' => K (Value.bool q2) h') | _ => none) else (bif Nat.beq f 24 then (match args with | [.int .i64 p1, .int .i64 p2, .bool p3] => F_hist_New p1 p2 p3 h (fun q6 q7 h' => K (Value.tuple #[Value.pointer q6, Value.int .i64 q7]) h') | _ => none) else none)
def HF_dle_New : Hints := ⟨[], [], []⟩
noncomputable def G_dle_New (F_dle_right : Int → GH → (Bool → GH → Option β) → Option β) (F_hist_New : Int → Int → Bool → GH → (Option Addr → Int → GH → Option β) → Option β) (R : Nat) (a1 : Int) (a2 : Int) (h : GH) (K : Option Addr → Int → GH → Option β) : Option β := gfun Try.prog (CF_dle_New F_dle_right F_hist_New) HF_dle_New R Try.f9 [Value.int .i64 a1, Value.int .i64 a2] h (fun v h' => exTup 2 v fun vs => exV (nth vs 0) fun v0 => exP (some v0) fun u12 => exV (nth vs 1) fun v1 => exI .i64 (some v1) fun u13 => K u12 u13 h')
set_option maxRecDepth 100000 in
theorem F_dle_New_gen (F_dle_right : Int → GH → (Bool → GH → Option β) → Option β) (F_hist_New : Int → Int → Bool → GH → (Option Addr → Int → GH → Option β) → Option β) (R : Nat) (a1 : Int) (a2 : Int) (h : GH) (K : Option Addr → Int → GH → Option β) : G_dle_New F_dle_right F_hist_New R a1 a2 h K =
    F_dle_right a1 h fun r3 h4 => (bif !r3 then K none 2 h4 else F_hist_New 65536 a2 true h4 fun r5 r6 h7 => (bif r6 != 0 then K none r6 h7 else gnew [Value.int .i64 a1, Value.pointer r5, Value.int .i64 0, Value.int .i64 0, Value.int .i64 0] 0 h7 fun g8 h9 => K (some ⟨g8, 0, none⟩) 0 h9)) := by kernel_rfl
noncomputable def F_dle_New (R : Nat) (a1 : Int) (a2 : Int) (h : GH) (K : Option Addr → Int → GH → Option β) : Option β := G_dle_New (F_dle_right R) (F_hist_New R) R a1 a2 h K
set_option maxRecDepth 100000 in
theorem CF_dle_New_sim {R : Nat} : SimOrc Try.prog (CF_dle_New (F_dle_right R) (F_hist_New R) (β := β)) := by
  intro f args h K r hc
  unfold CF_dle_New at hc
  cases hb : Nat.beq f 23 with
  | true =>
    rw [hb] at hc
    simp only [cond_true] at hc
    obtain rfl := Nat.eq_of_beq_eq_true hb
    split at hc
    · exact any_call (F_dle_right_sim (K := K) hc)
    · cases hc
  | false =>
  rw [hb] at hc
  simp only [cond_false] at hc
  cases hb : Nat.beq f 24 with
  | true =>
    rw [hb] at hc
    simp only [cond_true] at hc
    obtain rfl := Nat.eq_of_beq_eq_true hb
    split at hc
    · exact any_call (F_hist_New_sim (K := K) hc)
    · cases hc
  | false =>
  rw [hb] at hc
  simp only [cond_false] at hc
  cases hc
set_option maxRecDepth 100000 in
theorem F_dle_New_sim {R : Nat} {r : β} {a1 : Int} {a2 : Int} {h : GH} {K : Value → GH → Option β} (hc : F_dle_New R a1 a2 h (fun q0 q1 h' => K (Value.tuple #[Value.pointer q0, Value.int .i64 q1]) h') = some r) : ∃ v h', K v h' = some r ∧ CallSim Try.prog 9 [Value.int .i64 a1, Value.int .i64 a2] h v h' := by
  unfold F_dle_New G_dle_New at hc
  obtain ⟨v, h', hk, hs⟩ := gfun_sim (CF_dle_New_sim (R := R)) mixed_ok (fun f h => by cases h) Try.func9 (by kernel_rfl) hc
  obtain ⟨vs, rfl, hl, hk⟩ := exTup_v hk
  obtain ⟨v0, t0, hk⟩ := exV_v hk
  obtain ⟨u0, e0, hk⟩ := exP_v hk; cases e0
  obtain ⟨v1, t1, hk⟩ := exV_v hk
  obtain ⟨u1, e1, hk⟩ := exI_v hk; cases e1
  obtain rfl := arr2 hl t0 t1
  exact ⟨_, h', hk, hs⟩
/-! F10 duffel/duffelref13.New -/
def CF_ref13_New  : Orc β := fun f args h K => none
def HF_ref13_New : Hints := ⟨[], [], []⟩
noncomputable def G_ref13_New  (R : Nat) (a1 : Int) (a2 : Int) (h : GH) (K : Option Addr → Int → GH → Option β) : Option β := gfun Try.prog (CF_ref13_New ) HF_ref13_New R Try.f10 [Value.int .i64 a1, Value.int .i64 a2] h (fun v h' => exTup 2 v fun vs => exV (nth vs 0) fun v0 => exP (some v0) fun u9 => exV (nth vs 1) fun v1 => exI .i64 (some v1) fun u10 => K u9 u10 h')
set_option maxRecDepth 100000 in
theorem F_ref13_New_gen  (R : Nat) (a1 : Int) (a2 : Int) (h : GH) (K : Option Addr → Int → GH → Option β) : G_ref13_New  R a1 a2 h K =
    (bif decide (a1 < 1) then K none 2 h else (bif decide (a1 > 4) then K none 2 h else (bif decide (a2 < 0) then K none 2 h else gnew [Value.int .i64 65536, Value.int .i64 a2, Value.bool true, Value.slice none 0 0] 0 h fun g3 h4 => gnew [Value.int .i64 a1, Value.pointer (some ⟨g3, 0, none⟩), Value.int .i64 0, Value.int .i64 0, Value.int .i64 0] 0 h4 fun g5 h6 => K (some ⟨g5, 0, none⟩) 0 h6))) := by kernel_rfl
noncomputable def F_ref13_New (R : Nat) (a1 : Int) (a2 : Int) (h : GH) (K : Option Addr → Int → GH → Option β) : Option β := G_ref13_New  R a1 a2 h K
theorem CF_ref13_New_sim : SimOrc Try.prog (CF_ref13_New (β := β)) := by
  intro f args h K r hc
  cases hc
set_option maxRecDepth 100000 in
theorem F_ref13_New_sim {R : Nat} {r : β} {a1 : Int} {a2 : Int} {h : GH} {K : Value → GH → Option β} (hc : F_ref13_New R a1 a2 h (fun q0 q1 h' => K (Value.tuple #[Value.pointer q0, Value.int .i64 q1]) h') = some r) : ∃ v h', K v h' = some r ∧ CallSim Try.prog 10 [Value.int .i64 a1, Value.int .i64 a2] h v h' := by
  unfold F_ref13_New G_ref13_New at hc
  obtain ⟨v, h', hk, hs⟩ := gfun_sim CF_ref13_New_sim mixed_ok (fun f h => by cases h) Try.func10 (by kernel_rfl) hc
  obtain ⟨vs, rfl, hl, hk⟩ := exTup_v hk
  obtain ⟨v0, t0, hk⟩ := exV_v hk
  obtain ⟨u0, e0, hk⟩ := exP_v hk; cases e0
  obtain ⟨v1, t1, hk⟩ := exV_v hk
  obtain ⟨u1, e1, hk⟩ := exI_v hk; cases e1
  obtain rfl := arr2 hl t0 t1
  exact ⟨_, h', hk, hs⟩
/-! F25 (*duffel/dle.Machine).ok -/
def CF_dle_Machine_ok  : Orc β := fun f args h K => none
def HF_dle_Machine_ok : Hints := ⟨[], [], []⟩
noncomputable def G_dle_Machine_ok  (R : Nat) (a1 : Option Addr) (h : GH) (K : Bool → GH → Option β) : Option β := gfun Try.prog (CF_dle_Machine_ok ) HF_dle_Machine_ok R Try.f25 [Value.pointer a1] h (fun v h' => exB (some v) fun u6 => K u6 h')
set_option maxRecDepth 100000 in
theorem F_dle_Machine_ok_gen  (R : Nat) (a1 : Option Addr) (h : GH) (K : Bool → GH → Option β) : G_dle_Machine_ok  R a1 h K =
    (bif !a1.isNone then exA a1 fun g2 o3 => exP (h.cell ⟨g2, o3 + 1, none⟩) fun x4 => K (!x4.isNone) h else K false h) := by kernel_rfl
noncomputable def F_dle_Machine_ok (R : Nat) (a1 : Option Addr) (h : GH) (K : Bool → GH → Option β) : Option β := G_dle_Machine_ok  R a1 h K
theorem CF_dle_Machine_ok_sim : SimOrc Try.prog (CF_dle_Machine_ok (β := β)) := by
  intro f args h K r hc
  cases hc
set_option maxRecDepth 100000 in
theorem F_dle_Machine_ok_sim {R : Nat} {r : β} {a1 : Option Addr} {h : GH} {K : Value → GH → Option β} (hc : F_dle_Machine_ok R a1 h (fun q0 h' => K (Value.bool q0) h') = some r) : ∃ v h', K v h' = some r ∧ CallSim Try.prog 25 [Value.pointer a1] h v h' := by
  unfold F_dle_Machine_ok G_dle_Machine_ok at hc
  obtain ⟨v, h', hk, hs⟩ := gfun_sim CF_dle_Machine_ok_sim mixed_ok (fun f h => by cases h) Try.func25 (by kernel_rfl) hc
  obtain ⟨u0, e0, hk⟩ := exB_v hk; cases e0
  exact ⟨_, h', hk, hs⟩
/-! F17 (*duffel/dle.Machine).Rest -/
def CF_dle_Machine_Rest (F_dle_Machine_ok : Option Addr → GH → (Bool → GH → Option β) → Option β) : Orc β := fun f args h K => bif Nat.beq f 25 then (match args with | [.pointer p1] => F_dle_Machine_ok p1 h (fun q5 h' => K (Value.bool q5) h') | _ => none) else none
def HF_dle_Machine_Rest : Hints := ⟨[], [], []⟩
noncomputable def G_dle_Machine_Rest (F_dle_Machine_ok : Option Addr → GH → (Bool → GH → Option β) → Option β) (R : Nat) (a1 : Option Addr) (h : GH) (K : Bool → GH → Option β) : Option β := gfun Try.prog (CF_dle_Machine_Rest F_dle_Machine_ok) HF_dle_Machine_Rest R Try.f17 [Value.pointer a1] h (fun v h' => exB (some v) fun u8 => K u8 h')
set_option maxRecDepth 100000 in
theorem F_dle_Machine_Rest_gen (F_dle_Machine_ok : Option Addr → GH → (Bool → GH → Option β) → Option β) (R : Nat) (a1 : Option Addr) (h : GH) (K : Bool → GH → Option β) : G_dle_Machine_Rest F_dle_Machine_ok R a1 h K =
    F_dle_Machine_ok a1 h fun r2 h3 => (bif r2 then exA a1 fun g4 o5 => exI .i64 (h3.cell ⟨g4, o5 + 2, none⟩) fun x6 => K (x6 == 0) h3 else K false h3) := by kernel_rfl
noncomputable def F_dle_Machine_Rest (R : Nat) (a1 : Option Addr) (h : GH) (K : Bool → GH → Option β) : Option β := G_dle_Machine_Rest (F_dle_Machine_ok R) R a1 h K
set_option maxRecDepth 100000 in
theorem CF_dle_Machine_Rest_sim {R : Nat} : SimOrc Try.prog (CF_dle_Machine_Rest (F_dle_Machine_ok R) (β := β)) := by
  intro f args h K r hc
  unfold CF_dle_Machine_Rest at hc
  cases hb : Nat.beq f 25 with
  | true =>
    rw [hb] at hc
    simp only [cond_true] at hc
    obtain rfl := Nat.eq_of_beq_eq_true hb
    split at hc
    · exact any_call (F_dle_Machine_ok_sim (K := K) hc)
    · cases hc
  | false =>
  rw [hb] at hc
  simp only [cond_false] at hc
  cases hc
set_option maxRecDepth 100000 in
theorem F_dle_Machine_Rest_sim {R : Nat} {r : β} {a1 : Option Addr} {h : GH} {K : Value → GH → Option β} (hc : F_dle_Machine_Rest R a1 h (fun q0 h' => K (Value.bool q0) h') = some r) : ∃ v h', K v h' = some r ∧ CallSim Try.prog 17 [Value.pointer a1] h v h' := by
  unfold F_dle_Machine_Rest G_dle_Machine_Rest at hc
  obtain ⟨v, h', hk, hs⟩ := gfun_sim (CF_dle_Machine_Rest_sim (R := R)) mixed_ok (fun f h => by cases h) Try.func17 (by kernel_rfl) hc
  obtain ⟨u0, e0, hk⟩ := exB_v hk; cases e0
  exact ⟨_, h', hk, hs⟩
/-! F38 (*duffel/hist.Out).ok -/
def CF_hist_Out_ok  : Orc β := fun f args h K => none
def HF_hist_Out_ok : Hints := ⟨[], [], []⟩
noncomputable def G_hist_Out_ok  (R : Nat) (a1 : Option Addr) (h : GH) (K : Bool → GH → Option β) : Option β := gfun Try.prog (CF_hist_Out_ok ) HF_hist_Out_ok R Try.f38 [Value.pointer a1] h (fun v h' => exB (some v) fun u6 => K u6 h')
set_option maxRecDepth 100000 in
theorem F_hist_Out_ok_gen  (R : Nat) (a1 : Option Addr) (h : GH) (K : Bool → GH → Option β) : G_hist_Out_ok  R a1 h K =
    (bif !a1.isNone then exA a1 fun g2 o3 => exI .i64 (h.cell ⟨g2, o3 + 0, none⟩) fun x4 => K (decide (x4 > 0)) h else K false h) := by kernel_rfl
noncomputable def F_hist_Out_ok (R : Nat) (a1 : Option Addr) (h : GH) (K : Bool → GH → Option β) : Option β := G_hist_Out_ok  R a1 h K
theorem CF_hist_Out_ok_sim : SimOrc Try.prog (CF_hist_Out_ok (β := β)) := by
  intro f args h K r hc
  cases hc
set_option maxRecDepth 100000 in
theorem F_hist_Out_ok_sim {R : Nat} {r : β} {a1 : Option Addr} {h : GH} {K : Value → GH → Option β} (hc : F_hist_Out_ok R a1 h (fun q0 h' => K (Value.bool q0) h') = some r) : ∃ v h', K v h' = some r ∧ CallSim Try.prog 38 [Value.pointer a1] h v h' := by
  unfold F_hist_Out_ok G_hist_Out_ok at hc
  obtain ⟨v, h', hk, hs⟩ := gfun_sim CF_hist_Out_ok_sim mixed_ok (fun f h => by cases h) Try.func38 (by kernel_rfl) hc
  obtain ⟨u0, e0, hk⟩ := exB_v hk; cases e0
  exact ⟨_, h', hk, hs⟩
/-! F33 (*duffel/hist.Out).Full -/
def CF_hist_Out_Full (F_hist_Out_ok : Option Addr → GH → (Bool → GH → Option β) → Option β) : Orc β := fun f args h K => bif Nat.beq f 38 then (match args with | [.pointer p1] => F_hist_Out_ok p1 h (fun q5 h' => K (Value.bool q5) h') | _ => none) else none
def HF_hist_Out_Full : Hints := ⟨[], [], []⟩
noncomputable def G_hist_Out_Full (F_hist_Out_ok : Option Addr → GH → (Bool → GH → Option β) → Option β) (R : Nat) (a1 : Option Addr) (h : GH) (K : Bool → GH → Option β) : Option β := gfun Try.prog (CF_hist_Out_Full F_hist_Out_ok) HF_hist_Out_Full R Try.f33 [Value.pointer a1] h (fun v h' => exB (some v) fun u11 => K u11 h')
set_option maxRecDepth 100000 in
theorem F_hist_Out_Full_gen (F_hist_Out_ok : Option Addr → GH → (Bool → GH → Option β) → Option β) (R : Nat) (a1 : Option Addr) (h : GH) (K : Bool → GH → Option β) : G_hist_Out_Full F_hist_Out_ok R a1 h K =
    F_hist_Out_ok a1 h fun r2 h3 => (bif r2 then exA a1 fun g4 o5 => exS (h3.cell ⟨g4, o5 + 3, none⟩) fun x6 => exA a1 fun g7 o8 => exI .i64 (h3.cell ⟨g7, o8 + 1, none⟩) fun x9 => K (((x6.n : Nat) : Int) == x9) h3 else K false h3) := by kernel_rfl
noncomputable def F_hist_Out_Full (R : Nat) (a1 : Option Addr) (h : GH) (K : Bool → GH → Option β) : Option β := G_hist_Out_Full (F_hist_Out_ok R) R a1 h K
set_option maxRecDepth 100000 in
theorem CF_hist_Out_Full_sim {R : Nat} : SimOrc Try.prog (CF_hist_Out_Full (F_hist_Out_ok R) (β := β)) := by
  intro f args h K r hc
  unfold CF_hist_Out_Full at hc
  cases hb : Nat.beq f 38 with
  | true =>
    rw [hb] at hc
    simp only [cond_true] at hc
    obtain rfl := Nat.eq_of_beq_eq_true hb
    split at hc
    · exact any_call (F_hist_Out_ok_sim (K := K) hc)
    · cases hc
  | false =>
  rw [hb] at hc
  simp only [cond_false] at hc
  cases hc
set_option maxRecDepth 100000 in
theorem F_hist_Out_Full_sim {R : Nat} {r : β} {a1 : Option Addr} {h : GH} {K : Value → GH → Option β} (hc : F_hist_Out_Full R a1 h (fun q0 h' => K (Value.bool q0) h') = some r) : ∃ v h', K v h' = some r ∧ CallSim Try.prog 33 [Value.pointer a1] h v h' := by
  unfold F_hist_Out_Full G_hist_Out_Full at hc
  obtain ⟨v, h', hk, hs⟩ := gfun_sim (CF_hist_Out_Full_sim (R := R)) mixed_ok (fun f h => by cases h) Try.func33 (by kernel_rfl) hc
  obtain ⟨u0, e0, hk⟩ := exB_v hk; cases e0
  exact ⟨_, h', hk, hs⟩
/-! F15 (*duffel/dle.Machine).Full -/
def CF_dle_Machine_Full (F_dle_Machine_Rest : Option Addr → GH → (Bool → GH → Option β) → Option β) (F_hist_Out_Full : Option Addr → GH → (Bool → GH → Option β) → Option β) : Orc β := fun f args h K => bif Nat.beq f 17 then (match args with | [.pointer p1] => F_dle_Machine_Rest p1 h (fun q7 h' => K (Value.bool q7) h') | _ => none) else (bif Nat.beq f 33 then (match args with | [.pointer p1] => F_hist_Out_Full p1 h (fun q10 h' => K (Value.bool q10) h') | _ => none) else none)
def HF_dle_Machine_Full : Hints := ⟨[], [], []⟩
noncomputable def G_dle_Machine_Full (F_dle_Machine_Rest : Option Addr → GH → (Bool → GH → Option β) → Option β) (F_hist_Out_Full : Option Addr → GH → (Bool → GH → Option β) → Option β) (R : Nat) (a1 : Option Addr) (h : GH) (K : Bool → GH → Option β) : Option β := gfun Try.prog (CF_dle_Machine_Full F_dle_Machine_Rest F_hist_Out_Full) HF_dle_Machine_Full R Try.f15 [Value.pointer a1] h (fun v h' => exB (some v) fun u10 => K u10 h')
set_option maxRecDepth 100000 in
theorem F_dle_Machine_Full_gen (F_dle_Machine_Rest : Option Addr → GH → (Bool → GH → Option β) → Option β) (F_hist_Out_Full : Option Addr → GH → (Bool → GH → Option β) → Option β) (R : Nat) (a1 : Option Addr) (h : GH) (K : Bool → GH → Option β) : G_dle_Machine_Full F_dle_Machine_Rest F_hist_Out_Full R a1 h K =
    F_dle_Machine_Rest a1 h fun r2 h3 => (bif r2 then exA a1 fun g4 o5 => exP (h3.cell ⟨g4, o5 + 1, none⟩) fun x6 => F_hist_Out_Full x6 h3 fun r7 h8 => K r7 h8 else K false h3) := by kernel_rfl
noncomputable def F_dle_Machine_Full (R : Nat) (a1 : Option Addr) (h : GH) (K : Bool → GH → Option β) : Option β := G_dle_Machine_Full (F_dle_Machine_Rest R) (F_hist_Out_Full R) R a1 h K
set_option maxRecDepth 100000 in
theorem CF_dle_Machine_Full_sim {R : Nat} : SimOrc Try.prog (CF_dle_Machine_Full (F_dle_Machine_Rest R) (F_hist_Out_Full R) (β := β)) := by
  intro f args h K r hc
  unfold CF_dle_Machine_Full at hc
  cases hb : Nat.beq f 17 with
  | true =>
    rw [hb] at hc
    simp only [cond_true] at hc
    obtain rfl := Nat.eq_of_beq_eq_true hb
    split at hc
    · exact any_call (F_dle_Machine_Rest_sim (K := K) hc)
    · cases hc
  | false =>
  rw [hb] at hc
  simp only [cond_false] at hc
  cases hb : Nat.beq f 33 with
  | true =>
    rw [hb] at hc
    simp only [cond_true] at hc
    obtain rfl := Nat.eq_of_beq_eq_true hb
    split at hc
    · exact any_call (F_hist_Out_Full_sim (K := K) hc)
    · cases hc
  | false =>
  rw [hb] at hc
  simp only [cond_false] at hc
  cases hc
set_option maxRecDepth 100000 in
theorem F_dle_Machine_Full_sim {R : Nat} {r : β} {a1 : Option Addr} {h : GH} {K : Value → GH → Option β} (hc : F_dle_Machine_Full R a1 h (fun q0 h' => K (Value.bool q0) h') = some r) : ∃ v h', K v h' = some r ∧ CallSim Try.prog 15 [Value.pointer a1] h v h' := by
  unfold F_dle_Machine_Full G_dle_Machine_Full at hc
  obtain ⟨v, h', hk, hs⟩ := gfun_sim (CF_dle_Machine_Full_sim (R := R)) mixed_ok (fun f h => by cases h) Try.func15 (by kernel_rfl) hc
  obtain ⟨u0, e0, hk⟩ := exB_v hk; cases e0
  exact ⟨_, h', hk, hs⟩
/-! F26 (*duffel/hist.Out).Lit -/
def CF_hist_Out_Lit (F_hist_Out_ok : Option Addr → GH → (Bool → GH → Option β) → Option β) : Orc β := fun f args h K => bif Nat.beq f 38 then (match args with | [.pointer p1] => F_hist_Out_ok p1 h (fun q5 h' => K (Value.bool q5) h') | _ => none) else none
def HF_hist_Out_Lit : Hints := ⟨[], [], []⟩
noncomputable def G_hist_Out_Lit (F_hist_Out_ok : Option Addr → GH → (Bool → GH → Option β) → Option β) (R : Nat) (a1 : Option Addr) (a2 : Int) (h : GH) (K : Int → GH → Option β) : Option β := gfun Try.prog (CF_hist_Out_Lit F_hist_Out_ok) HF_hist_Out_Lit R Try.f26 [Value.pointer a1, Value.int .u8 a2] h (fun v h' => exI .i64 (some v) fun u22 => K u22 h')
set_option maxRecDepth 100000 in
theorem F_hist_Out_Lit_gen (F_hist_Out_ok : Option Addr → GH → (Bool → GH → Option β) → Option β) (R : Nat) (a1 : Option Addr) (a2 : Int) (h : GH) (K : Int → GH → Option β) : G_hist_Out_Lit F_hist_Out_ok R a1 a2 h K =
    F_hist_Out_ok a1 h fun r3 h4 => (bif !r3 then K 1 h4 else exA a1 fun g5 o6 => exS (h4.cell ⟨g5, o6 + 3, none⟩) fun x7 => exA a1 fun g8 o9 => exI .i64 (h4.cell ⟨g8, o9 + 1, none⟩) fun x10 => (bif ((x7.n : Nat) : Int) == x10 then K 9 h4 else exA a1 fun g11 o12 => exS (h4.cell ⟨g11, o12 + 3, none⟩) fun x13 => gnew [Value.int .u8 a2] 1 h4 fun g14 h15 => gappS 1 1 x13 ⟨(some ⟨g14, 0, none⟩), 1, 1⟩ h15 fun s16 h17 => exA a1 fun g18 o19 => gput g18 (o19 + 3) [Value.slice s16.a s16.n s16.c] h17 fun h20 => K 0 h20)) := by kernel_rfl
noncomputable def F_hist_Out_Lit (R : Nat) (a1 : Option Addr) (a2 : Int) (h : GH) (K : Int → GH → Option β) : Option β := G_hist_Out_Lit (F_hist_Out_ok R) R a1 a2 h K
set_option maxRecDepth 100000 in
theorem CF_hist_Out_Lit_sim {R : Nat} : SimOrc Try.prog (CF_hist_Out_Lit (F_hist_Out_ok R) (β := β)) := by
  intro f args h K r hc
  unfold CF_hist_Out_Lit at hc
  cases hb : Nat.beq f 38 with
  | true =>
    rw [hb] at hc
    simp only [cond_true] at hc
    obtain rfl := Nat.eq_of_beq_eq_true hb
    split at hc
    · exact any_call (F_hist_Out_ok_sim (K := K) hc)
    · cases hc
  | false =>
  rw [hb] at hc
  simp only [cond_false] at hc
  cases hc
set_option maxRecDepth 100000 in
theorem F_hist_Out_Lit_sim {R : Nat} {r : β} {a1 : Option Addr} {a2 : Int} {h : GH} {K : Value → GH → Option β} (hc : F_hist_Out_Lit R a1 a2 h (fun q0 h' => K (Value.int .i64 q0) h') = some r) : ∃ v h', K v h' = some r ∧ CallSim Try.prog 26 [Value.pointer a1, Value.int .u8 a2] h v h' := by
  unfold F_hist_Out_Lit G_hist_Out_Lit at hc
  obtain ⟨v, h', hk, hs⟩ := gfun_sim (CF_hist_Out_Lit_sim (R := R)) mixed_ok (fun f h => by cases h) Try.func26 (by kernel_rfl) hc
  obtain ⟨u0, e0, hk⟩ := exI_v hk; cases e0
  exact ⟨_, h', hk, hs⟩
/-! F27 (*duffel/dle.Machine).begin -/
def CF_dle_Machine_begin (F_hist_Out_Lit : Option Addr → Int → GH → (Int → GH → Option β) → Option β) (F_dle_mask : Int → GH → (Int → GH → Option β) → Option β) : Orc β := fun f args h K => bif Nat.beq f 26 then (match args with | [.pointer p1, .int .u8 p2] => F_hist_Out_Lit p1 p2 h (fun q21 h' => K (Value.int .i64 q21) h') | _ => none) else (bif Nat.beq f 34 then (match args with | [.int .i64 p1] => F_dle_mask p1 h (fun q2 h' => K (Value.int .i64 q2) h') | _ => none) else none)
def HF_dle_Machine_begin : Hints := ⟨[], [], []⟩
noncomputable def G_dle_Machine_begin (F_hist_Out_Lit : Option Addr → Int → GH → (Int → GH → Option β) → Option β) (F_dle_mask : Int → GH → (Int → GH → Option β) → Option β) (R : Nat) (a1 : Option Addr) (a2 : Int) (h : GH) (K : Int → GH → Option β) : Option β := gfun Try.prog (CF_dle_Machine_begin F_hist_Out_Lit F_dle_mask) HF_dle_Machine_begin R Try.f27 [Value.pointer a1, Value.int .u8 a2] h (fun v h' => exI .i64 (some v) fun u40 => K u40 h')
set_option maxRecDepth 100000 in
theorem F_dle_Machine_begin_gen (F_hist_Out_Lit : Option Addr → Int → GH → (Int → GH → Option β) → Option β) (F_dle_mask : Int → GH → (Int → GH → Option β) → Option β) (R : Nat) (a1 : Option Addr) (a2 : Int) (h : GH) (K : Int → GH → Option β) : G_dle_Machine_begin F_hist_Out_Lit F_dle_mask R a1 a2 h K =
    (bif a2 == 0 then exA a1 fun g3 o4 => exP (h.cell ⟨g3, o4 + 1, none⟩) fun x5 => F_hist_Out_Lit x5 144 h fun r6 h7 => (bif r6 != 0 then K r6 h7 else exA a1 fun g8 o9 => gput g8 (o9 + 2) [Value.int .i64 0] h7 fun h10 => K 0 h10) else exA a1 fun g11 o12 => gput g11 (o12 + 3) [Value.int .i64 (IntKind.wrap .i64 a2)] h fun h13 => exA a1 fun g14 o15 => exI .i64 (h13.cell ⟨g14, o15 + 3, none⟩) fun x16 => exA a1 fun g17 o18 => exI .i64 (h13.cell ⟨g17, o18 + 0, none⟩) fun x19 => F_dle_mask x19 h13 fun r20 h21 => exA a1 fun g22 o23 => gput g22 (o23 + 4) [Value.int .i64 (IntKind.wrap .i64 (BitVec.ofInt (IntKind.bits .i64) x16 &&& BitVec.ofInt (IntKind.bits .i64) r20).toNat)] h21 fun h24 => (bif sameAt g14 (o15 + 3) 1 h13 h21 then exA a1 fun g25 o26 => gput g25 (o26 + 2) [Value.int .i64 3] h24 fun h27 => exA a1 fun g28 o29 => exI .i64 (h27.cell ⟨g28, o29 + 4, none⟩) fun x30 => exA a1 fun g31 o32 => exI .i64 (h27.cell ⟨g31, o32 + 0, none⟩) fun x33 => F_dle_mask x33 h27 fun r34 h35 => (bif sameAt g28 (o29 + 4) 1 h27 h35 then (bif x30 == r34 then exA a1 fun g36 o37 => gput g36 (o37 + 2) [Value.int .i64 2] h35 fun h38 => K 0 h38 else K 0 h35) else none) else none)) := by kernel_rfl
noncomputable def F_dle_Machine_begin (R : Nat) (a1 : Option Addr) (a2 : Int) (h : GH) (K : Int → GH → Option β) : Option β := G_dle_Machine_begin (F_hist_Out_Lit R) (F_dle_mask R) R a1 a2 h K
set_option maxRecDepth 100000 in
theorem CF_dle_Machine_begin_sim {R : Nat} : SimOrc Try.prog (CF_dle_Machine_begin (F_hist_Out_Lit R) (F_dle_mask R) (β := β)) := by
  intro f args h K r hc
  unfold CF_dle_Machine_begin at hc
  cases hb : Nat.beq f 26 with
  | true =>
    rw [hb] at hc
    simp only [cond_true] at hc
    obtain rfl := Nat.eq_of_beq_eq_true hb
    split at hc
    · exact any_call (F_hist_Out_Lit_sim (K := K) hc)
    · cases hc
  | false =>
  rw [hb] at hc
  simp only [cond_false] at hc
  cases hb : Nat.beq f 34 with
  | true =>
    rw [hb] at hc
    simp only [cond_true] at hc
    obtain rfl := Nat.eq_of_beq_eq_true hb
    split at hc
    · exact any_call (F_dle_mask_sim (K := K) hc)
    · cases hc
  | false =>
  rw [hb] at hc
  simp only [cond_false] at hc
  cases hc
set_option maxRecDepth 100000 in
theorem F_dle_Machine_begin_sim {R : Nat} {r : β} {a1 : Option Addr} {a2 : Int} {h : GH} {K : Value → GH → Option β} (hc : F_dle_Machine_begin R a1 a2 h (fun q0 h' => K (Value.int .i64 q0) h') = some r) : ∃ v h', K v h' = some r ∧ CallSim Try.prog 27 [Value.pointer a1, Value.int .u8 a2] h v h' := by
  unfold F_dle_Machine_begin G_dle_Machine_begin at hc
  obtain ⟨v, h', hk, hs⟩ := gfun_sim (CF_dle_Machine_begin_sim (R := R)) mixed_ok (fun f h => by cases h) Try.func27 (by kernel_rfl) hc
  obtain ⟨u0, e0, hk⟩ := exI_v hk; cases e0
  exact ⟨_, h', hk, hs⟩
/-! F28 (*duffel/hist.Out).Copy -/
def CF_hist_Out_Copy (F_hist_Out_ok : Option Addr → GH → (Bool → GH → Option β) → Option β) : Orc β := fun f args h K => bif Nat.beq f 38 then (match args with | [.pointer p1] => F_hist_Out_ok p1 h (fun q5 h' => K (Value.bool q5) h') | _ => none) else none
def HF_hist_Out_Copy : Hints := ⟨[(9, [0, 1, 2], [(1, [(0, .ty 42), (1, .ty 3), (2, .ty 3)])], none), (12, [0, 1, 2], [(3, [])], none)], [], []⟩
noncomputable def BF_hist_Out_Copy : Code := match Try.f28.body with | some c => c | none => .skip
noncomputable def F_hist_Out_Copy_l0 (F_hist_Out_ok : Option Addr → GH → (Bool → GH → Option β) → Option β) (R : Nat) (n : Nat) (y21 : Option Addr) (y22 : Int) (y23 : Int) (h : GH) (K1 : Option Addr → Int → Int → GH → Option β) : Option β := gloop (gcode Try.prog (CF_hist_Out_Copy F_hist_Out_ok) Try.f28.ntmps HF_hist_Out_Copy R (at_ [true, true, false, false, false] BF_hist_Out_Copy)) [0, 1, 2] n [(0, Value.pointer y21), (1, Value.int .i64 y22), (2, Value.int .i64 y23)] h (fun i e' h' => bif Nat.beq i 1 then (exP (some (e'.get 0)) fun u76 => exI .i64 (some (e'.get 1)) fun u77 => exI .i64 (some (e'.get 2)) fun u78 => K1 u76 u77 u78 h') else none) (fun e' h' => none)
noncomputable def F_hist_Out_Copy_l1 (F_hist_Out_ok : Option Addr → GH → (Bool → GH → Option β) → Option β) (R : Nat) (n : Nat) (y44 : Option Addr) (y45 : Int) (y46 : Int) (h : GH) (K3 : GH → Option β) : Option β := gloop (gcode Try.prog (CF_hist_Out_Copy F_hist_Out_ok) Try.f28.ntmps HF_hist_Out_Copy R (at_ [true, true, true, false, false, false] BF_hist_Out_Copy)) [0, 1, 2] n [(0, Value.pointer y44), (1, Value.int .i64 y45), (2, Value.int .i64 y46)] h (fun i e' h' => bif Nat.beq i 3 then (K3 h') else none) (fun e' h' => none)
set_option maxRecDepth 100000 in
theorem F_hist_Out_Copy_l1_succ (F_hist_Out_ok : Option Addr → GH → (Bool → GH → Option β) → Option β) (R : Nat) (n : Nat) (y44 : Option Addr) (y45 : Int) (y46 : Int) (h : GH) (K3 : GH → Option β) : F_hist_Out_Copy_l1 F_hist_Out_ok R (n + 1) y44 y45 y46 h K3 =
    (bif decide (y46 > 0) then exA y44 fun g47 o48 => exS (h.cell ⟨g47, o48 + 3, none⟩) fun x49 => exA y44 fun g50 o51 => exS (h.cell ⟨g50, o51 + 3, none⟩) fun x52 => exA y44 fun g53 o54 => exS (h.cell ⟨g53, o54 + 3, none⟩) fun x55 => bnd (IntKind.wrap .i64 ((IntKind.wrap .i64 (((x49.n : Nat) : Int) - y45)) + (if y45 < y46 then y45 else y46))) x55.c fun m56 => bnd (IntKind.wrap .i64 (((x49.n : Nat) : Int) - y45)) m56 fun m57 => gappS 1 1 x52 ⟨addO x55.a (m57 * 1), m56 - m57, x55.c - m57⟩ h fun s58 h59 => exA y44 fun g60 o61 => gput g60 (o61 + 3) [Value.slice s58.a s58.n s58.c] h59 fun h62 => F_hist_Out_Copy_l1 F_hist_Out_ok R n y44 y45 (IntKind.wrap .i64 (y46 - (if y45 < y46 then y45 else y46))) h62 K3 else K3 h) := by kernel_rfl
set_option maxRecDepth 100000 in
theorem F_hist_Out_Copy_l0_succ (F_hist_Out_ok : Option Addr → GH → (Bool → GH → Option β) → Option β) (R : Nat) (n : Nat) (y21 : Option Addr) (y22 : Int) (y23 : Int) (h : GH) (K1 : Option Addr → Int → Int → GH → Option β) : F_hist_Out_Copy_l0 F_hist_Out_ok R (n + 1) y21 y22 y23 h K1 =
    (bif decide (y23 > 0) then exA y21 fun g27 o28 => exS (h.cell ⟨g27, o28 + 3, none⟩) fun x29 => (bif decide (y22 > ((x29.n : Nat) : Int)) then exA y21 fun g30 o31 => exS (h.cell ⟨g30, o31 + 3, none⟩) fun x32 => gnew [Value.int .u8 0] 1 h fun g33 h34 => gappS 1 1 x32 ⟨(some ⟨g33, 0, none⟩), 1, 1⟩ h34 fun s35 h36 => exA y21 fun g37 o38 => gput g37 (o38 + 3) [Value.slice s35.a s35.n s35.c] h36 fun h39 => F_hist_Out_Copy_l0 F_hist_Out_ok R n y21 y22 (IntKind.wrap .i64 (y23 - 1)) h39 K1 else K1 y21 y22 y23 h) else K1 y21 y22 y23 h) := by kernel_rfl
noncomputable def G_hist_Out_Copy (F_hist_Out_ok : Option Addr → GH → (Bool → GH → Option β) → Option β) (R : Nat) (a1 : Option Addr) (a2 : Int) (a3 : Int) (h : GH) (K : Int → GH → Option β) : Option β := gfun Try.prog (CF_hist_Out_Copy F_hist_Out_ok) HF_hist_Out_Copy R Try.f28 [Value.pointer a1, Value.int .i64 a2, Value.int .i64 a3] h (fun v h' => exI .i64 (some v) fun u79 => K u79 h')
set_option maxRecDepth 100000 in
theorem F_hist_Out_Copy_gen (F_hist_Out_ok : Option Addr → GH → (Bool → GH → Option β) → Option β) (R : Nat) (a1 : Option Addr) (a2 : Int) (a3 : Int) (h : GH) (K : Int → GH → Option β) : G_hist_Out_Copy F_hist_Out_ok R a1 a2 a3 h K =
    F_hist_Out_ok a1 h fun r4 h5 => (bif !r4 then K 1 h5 else (bif decide (a2 < 1) then K 2 h5 else (bif decide (a3 < 0) then K 2 h5 else exA a1 fun g6 o7 => exI .i64 (h5.cell ⟨g6, o7 + 0, none⟩) fun x8 => (bif decide (a2 > x8) then K 8 h5 else exA a1 fun g9 o10 => exS (h5.cell ⟨g9, o10 + 3, none⟩) fun x11 => (bif decide (a2 > ((x11.n : Nat) : Int)) then exA a1 fun g12 o13 => exB (h5.cell ⟨g12, o13 + 2, none⟩) fun x14 => (bif !x14 then K 8 h5 else exA a1 fun g15 o16 => exI .i64 (h5.cell ⟨g15, o16 + 1, none⟩) fun x17 => exA a1 fun g18 o19 => exS (h5.cell ⟨g18, o19 + 3, none⟩) fun x20 => (bif decide (a3 > (IntKind.wrap .i64 (x17 - ((x20.n : Nat) : Int)))) then K 9 h5 else F_hist_Out_Copy_l0 F_hist_Out_ok R R a1 a2 a3 h5 (fun w40 w41 w42 h43 => F_hist_Out_Copy_l1 F_hist_Out_ok R R w40 w41 w42 h43 (fun h63 => K 0 h63)))) else exA a1 fun g64 o65 => exI .i64 (h5.cell ⟨g64, o65 + 1, none⟩) fun x66 => exA a1 fun g67 o68 => exS (h5.cell ⟨g67, o68 + 3, none⟩) fun x69 => (bif decide (a3 > (IntKind.wrap .i64 (x66 - ((x69.n : Nat) : Int)))) then K 9 h5 else F_hist_Out_Copy_l0 F_hist_Out_ok R R a1 a2 a3 h5 (fun w70 w71 w72 h73 => F_hist_Out_Copy_l1 F_hist_Out_ok R R w70 w71 w72 h73 (fun h74 => K 0 h74)))))))) := by kernel_rfl
noncomputable def F_hist_Out_Copy (R : Nat) (a1 : Option Addr) (a2 : Int) (a3 : Int) (h : GH) (K : Int → GH → Option β) : Option β := G_hist_Out_Copy (F_hist_Out_ok R) R a1 a2 a3 h K
set_option maxRecDepth 100000 in
theorem CF_hist_Out_Copy_sim {R : Nat} : SimOrc Try.prog (CF_hist_Out_Copy (F_hist_Out_ok R) (β := β)) := by
  intro f args h K r hc
  unfold CF_hist_Out_Copy at hc
  cases hb : Nat.beq f 38 with
  | true =>
    rw [hb] at hc
    simp only [cond_true] at hc
    obtain rfl := Nat.eq_of_beq_eq_true hb
    split at hc
    · exact any_call (F_hist_Out_ok_sim (K := K) hc)
    · cases hc
  | false =>
  rw [hb] at hc
  simp only [cond_false] at hc
  cases hc
set_option maxRecDepth 100000 in
theorem F_hist_Out_Copy_sim {R : Nat} {r : β} {a1 : Option Addr} {a2 : Int} {a3 : Int} {h : GH} {K : Value → GH → Option β} (hc : F_hist_Out_Copy R a1 a2 a3 h (fun q0 h' => K (Value.int .i64 q0) h') = some r) : ∃ v h', K v h' = some r ∧ CallSim Try.prog 28 [Value.pointer a1, Value.int .i64 a2, Value.int .i64 a3] h v h' := by
  unfold F_hist_Out_Copy G_hist_Out_Copy at hc
  obtain ⟨v, h', hk, hs⟩ := gfun_sim (CF_hist_Out_Copy_sim (R := R)) mixed_ok (fun f h => by cases h) Try.func28 (by kernel_rfl) hc
  obtain ⟨u0, e0, hk⟩ := exI_v hk; cases e0
  exact ⟨_, h', hk, hs⟩
/-! F11 (*duffel/dle.Machine).Feed -/
def CF_dle_Machine_Feed (F_dle_Machine_ok : Option Addr → GH → (Bool → GH → Option β) → Option β) (F_dle_Machine_Full : Option Addr → GH → (Bool → GH → Option β) → Option β) (F_hist_Out_Lit : Option Addr → Int → GH → (Int → GH → Option β) → Option β) (F_dle_Machine_begin : Option Addr → Int → GH → (Int → GH → Option β) → Option β) (F_hist_Out_Copy : Option Addr → Int → Int → GH → (Int → GH → Option β) → Option β) : Orc β := fun f args h K => bif Nat.beq f 25 then (match args with | [.pointer p1] => F_dle_Machine_ok p1 h (fun q5 h' => K (Value.bool q5) h') | _ => none) else (bif Nat.beq f 15 then (match args with | [.pointer p1] => F_dle_Machine_Full p1 h (fun q9 h' => K (Value.bool q9) h') | _ => none) else (bif Nat.beq f 26 then (match args with | [.pointer p1, .int .u8 p2] => F_hist_Out_Lit p1 p2 h (fun q21 h' => K (Value.int .i64 q21) h') | _ => none) else (bif Nat.beq f 27 then (match args with | [.pointer p1, .int .u8 p2] => F_dle_Machine_begin p1 p2 h (fun q39 h' => K (Value.int .i64 q39) h') | _ => none) else (bif Nat.beq f 28 then (match args with | [.pointer p1, .int .i64 p2, .int .i64 p3] => F_hist_Out_Copy p1 p2 p3 h (fun q75 h' => K (Value.int .i64 q75) h') | _ => none) else none))))
def HF_dle_Machine_Feed : Hints := ⟨[], [], []⟩
noncomputable def G_dle_Machine_Feed (F_dle_Machine_ok : Option Addr → GH → (Bool → GH → Option β) → Option β) (F_dle_Machine_Full : Option Addr → GH → (Bool → GH → Option β) → Option β) (F_hist_Out_Lit : Option Addr → Int → GH → (Int → GH → Option β) → Option β) (F_dle_Machine_begin : Option Addr → Int → GH → (Int → GH → Option β) → Option β) (F_hist_Out_Copy : Option Addr → Int → Int → GH → (Int → GH → Option β) → Option β) (R : Nat) (a1 : Option Addr) (a2 : Int) (h : GH) (K : Int → GH → Option β) : Option β := gfun Try.prog (CF_dle_Machine_Feed F_dle_Machine_ok F_dle_Machine_Full F_hist_Out_Lit F_dle_Machine_begin F_hist_Out_Copy) HF_dle_Machine_Feed R Try.f11 [Value.pointer a1, Value.int .u8 a2] h (fun v h' => exI .i64 (some v) fun u47 => K u47 h')
set_option maxRecDepth 100000 in
theorem F_dle_Machine_Feed_gen (F_dle_Machine_ok : Option Addr → GH → (Bool → GH → Option β) → Option β) (F_dle_Machine_Full : Option Addr → GH → (Bool → GH → Option β) → Option β) (F_hist_Out_Lit : Option Addr → Int → GH → (Int → GH → Option β) → Option β) (F_dle_Machine_begin : Option Addr → Int → GH → (Int → GH → Option β) → Option β) (F_hist_Out_Copy : Option Addr → Int → Int → GH → (Int → GH → Option β) → Option β) (R : Nat) (a1 : Option Addr) (a2 : Int) (h : GH) (K : Int → GH → Option β) : G_dle_Machine_Feed F_dle_Machine_ok F_dle_Machine_Full F_hist_Out_Lit F_dle_Machine_begin F_hist_Out_Copy R a1 a2 h K =
    F_dle_Machine_ok a1 h fun r3 h4 => (bif !r3 then K 1 h4 else F_dle_Machine_Full a1 h4 fun r5 h6 => (bif r5 then K 9 h6 else exA a1 fun g7 o8 => exI .i64 (h6.cell ⟨g7, o8 + 2, none⟩) fun x9 => (bif x9 == 0 then (bif a2 != 144 then exA a1 fun g10 o11 => exP (h6.cell ⟨g10, o11 + 1, none⟩) fun x12 => F_hist_Out_Lit x12 a2 h6 fun r13 h14 => K r13 h14 else exA a1 fun g15 o16 => gput g15 (o16 + 2) [Value.int .i64 1] h6 fun h17 => K 0 h17) else (bif x9 == 1 then F_dle_Machine_begin a1 a2 h6 fun r18 h19 => K r18 h19 else (bif x9 == 2 then exA a1 fun g20 o21 => exI .i64 (h6.cell ⟨g20, o21 + 4, none⟩) fun x22 => exA a1 fun g23 o24 => gput g23 (o24 + 4) [Value.int .i64 (IntKind.wrap .i64 (x22 + (IntKind.wrap .i64 a2)))] h6 fun h25 => exA a1 fun g26 o27 => gput g26 (o27 + 2) [Value.int .i64 3] h25 fun h28 => K 0 h28 else (bif x9 == 3 then exA a1 fun g29 o30 => exP (h6.cell ⟨g29, o30 + 1, none⟩) fun x31 => exA a1 fun g32 o33 => exI .i64 (h6.cell ⟨g32, o33 + 3, none⟩) fun x34 => exA a1 fun g35 o36 => exI .i64 (h6.cell ⟨g35, o36 + 0, none⟩) fun x37 => (bif decide ((IntKind.wrap .i64 (8 - x37)) < 0) then none else exA a1 fun g38 o39 => exI .i64 (h6.cell ⟨g38, o39 + 4, none⟩) fun x40 => F_hist_Out_Copy x31 (IntKind.wrap .i64 ((IntKind.wrap .i64 ((shlI .i64 (shrI .i64 x34 (IntKind.wrap .i64 (8 - x37))) 8) + (IntKind.wrap .i64 a2))) + 1)) (IntKind.wrap .i64 (x40 + 3)) h6 fun r41 h42 => (bif r41 != 0 then K r41 h42 else exA a1 fun g43 o44 => gput g43 (o44 + 2) [Value.int .i64 0] h42 fun h45 => K 0 h45)) else K 0 h6)))))) := by kernel_rfl
noncomputable def F_dle_Machine_Feed (R : Nat) (a1 : Option Addr) (a2 : Int) (h : GH) (K : Int → GH → Option β) : Option β := G_dle_Machine_Feed (F_dle_Machine_ok R) (F_dle_Machine_Full R) (F_hist_Out_Lit R) (F_dle_Machine_begin R) (F_hist_Out_Copy R) R a1 a2 h K
set_option maxRecDepth 100000 in
theorem CF_dle_Machine_Feed_sim {R : Nat} : SimOrc Try.prog (CF_dle_Machine_Feed (F_dle_Machine_ok R) (F_dle_Machine_Full R) (F_hist_Out_Lit R) (F_dle_Machine_begin R) (F_hist_Out_Copy R) (β := β)) := by
  intro f args h K r hc
  unfold CF_dle_Machine_Feed at hc
  cases hb : Nat.beq f 25 with
  | true =>
    rw [hb] at hc
    simp only [cond_true] at hc
    obtain rfl := Nat.eq_of_beq_eq_true hb
    split at hc
    · exact any_call (F_dle_Machine_ok_sim (K := K) hc)
    · cases hc
  | false =>
  rw [hb] at hc
  simp only [cond_false] at hc
  cases hb : Nat.beq f 15 with
  | true =>
    rw [hb] at hc
    simp only [cond_true] at hc
    obtain rfl := Nat.eq_of_beq_eq_true hb
    split at hc
    · exact any_call (F_dle_Machine_Full_sim (K := K) hc)
    · cases hc
  | false =>
  rw [hb] at hc
  simp only [cond_false] at hc
  cases hb : Nat.beq f 26 with
  | true =>
    rw [hb] at hc
    simp only [cond_true] at hc
    obtain rfl := Nat.eq_of_beq_eq_true hb
    split at hc
    · exact any_call (F_hist_Out_Lit_sim (K := K) hc)
    · cases hc
  | false =>
  rw [hb] at hc
  simp only [cond_false] at hc
  cases hb : Nat.beq f 27 with
  | true =>
    rw [hb] at hc
    simp only [cond_true] at hc
    obtain rfl := Nat.eq_of_beq_eq_true hb
    split at hc
    · exact any_call (F_dle_Machine_begin_sim (K := K) hc)
    · cases hc
  | false =>
  rw [hb] at hc
  simp only [cond_false] at hc
  cases hb : Nat.beq f 28 with
  | true =>
    rw [hb] at hc
    simp only [cond_true] at hc
    obtain rfl := Nat.eq_of_beq_eq_true hb
    split at hc
    · exact any_call (F_hist_Out_Copy_sim (K := K) hc)
    · cases hc
  | false =>
  rw [hb] at hc
  simp only [cond_false] at hc
  cases hc
set_option maxRecDepth 100000 in
theorem F_dle_Machine_Feed_sim {R : Nat} {r : β} {a1 : Option Addr} {a2 : Int} {h : GH} {K : Value → GH → Option β} (hc : F_dle_Machine_Feed R a1 a2 h (fun q0 h' => K (Value.int .i64 q0) h') = some r) : ∃ v h', K v h' = some r ∧ CallSim Try.prog 11 [Value.pointer a1, Value.int .u8 a2] h v h' := by
  unfold F_dle_Machine_Feed G_dle_Machine_Feed at hc
  obtain ⟨v, h', hk, hs⟩ := gfun_sim (CF_dle_Machine_Feed_sim (R := R)) mixed_ok (fun f h => by cases h) Try.func11 (by kernel_rfl) hc
  obtain ⟨u0, e0, hk⟩ := exI_v hk; cases e0
  exact ⟨_, h', hk, hs⟩
/-! F16 (*duffel/duffelref13.Machine).Full -/
def CF_ref13_Machine_Full  : Orc β := fun f args h K => none
def HF_ref13_Machine_Full : Hints := ⟨[], [], []⟩
noncomputable def G_ref13_Machine_Full  (R : Nat) (a1 : Option Addr) (h : GH) (K : Bool → GH → Option β) : Option β := gfun Try.prog (CF_ref13_Machine_Full ) HF_ref13_Machine_Full R Try.f16 [Value.pointer a1] h (fun v h' => exB (some v) fun u18 => K u18 h')
set_option maxRecDepth 100000 in
theorem F_ref13_Machine_Full_gen  (R : Nat) (a1 : Option Addr) (h : GH) (K : Bool → GH → Option β) : G_ref13_Machine_Full  R a1 h K =
    exA a1 fun g2 o3 => exI .i64 (h.cell ⟨g2, o3 + 2, none⟩) fun x4 => (bif x4 == 0 then exA a1 fun g5 o6 => exP (h.cell ⟨g5, o6 + 1, none⟩) fun x7 => exA x7 fun g8 o9 => exS (h.cell ⟨g8, o9 + 3, none⟩) fun x10 => exA a1 fun g11 o12 => exP (h.cell ⟨g11, o12 + 1, none⟩) fun x13 => exA x13 fun g14 o15 => exI .i64 (h.cell ⟨g14, o15 + 1, none⟩) fun x16 => K (((x10.n : Nat) : Int) == x16) h else K false h) := by kernel_rfl
noncomputable def F_ref13_Machine_Full (R : Nat) (a1 : Option Addr) (h : GH) (K : Bool → GH → Option β) : Option β := G_ref13_Machine_Full  R a1 h K
theorem CF_ref13_Machine_Full_sim : SimOrc Try.prog (CF_ref13_Machine_Full (β := β)) := by
  intro f args h K r hc
  cases hc
set_option maxRecDepth 100000 in
theorem F_ref13_Machine_Full_sim {R : Nat} {r : β} {a1 : Option Addr} {h : GH} {K : Value → GH → Option β} (hc : F_ref13_Machine_Full R a1 h (fun q0 h' => K (Value.bool q0) h') = some r) : ∃ v h', K v h' = some r ∧ CallSim Try.prog 16 [Value.pointer a1] h v h' := by
  unfold F_ref13_Machine_Full G_ref13_Machine_Full at hc
  obtain ⟨v, h', hk, hs⟩ := gfun_sim CF_ref13_Machine_Full_sim mixed_ok (fun f h => by cases h) Try.func16 (by kernel_rfl) hc
  obtain ⟨u0, e0, hk⟩ := exB_v hk; cases e0
  exact ⟨_, h', hk, hs⟩
/-! F29 duffel/duffelref13.two -/
def CF_ref13_two  : Orc β := fun f args h K => none
def HF_ref13_two : Hints := ⟨[(3, [0, 3, 4], [(0, [(3, .ty 3)])], none)], [], []⟩
noncomputable def BF_ref13_two : Code := match Try.f29.body with | some c => c | none => .skip
noncomputable def F_ref13_two_l0  (R : Nat) (n : Nat) (y2 : Int) (y3 : Int) (y4 : Int) (h : GH) (K0 : Int → GH → Option β) : Option β := gloop (gcode Try.prog (CF_ref13_two ) Try.f29.ntmps HF_ref13_two R (at_ [true, true, false, true, false, false] BF_ref13_two)) [0, 3, 4] n [(0, Value.int .i64 y2), (3, Value.int .i64 y3), (4, Value.int .i64 y4)] h (fun i e' h' => bif Nat.beq i 0 then (exI .i64 (some (e'.get 3)) fun u9 => K0 u9 h') else none) (fun e' h' => none)
set_option maxRecDepth 100000 in
theorem F_ref13_two_l0_succ  (R : Nat) (n : Nat) (y2 : Int) (y3 : Int) (y4 : Int) (h : GH) (K0 : Int → GH → Option β) : F_ref13_two_l0  R (n + 1) y2 y3 y4 h K0 =
    (bif decide (y4 < y2) then F_ref13_two_l0 R n y2 (IntKind.wrap .i64 (y3 * 2)) (IntKind.wrap .i64 (y4 + 1)) h K0 else K0 y3 h) := by kernel_rfl
noncomputable def G_ref13_two  (R : Nat) (a1 : Int) (h : GH) (K : Int → GH → Option β) : Option β := gfun Try.prog (CF_ref13_two ) HF_ref13_two R Try.f29 [Value.int .i64 a1] h (fun v h' => exI .i64 (some v) fun u10 => K u10 h')
set_option maxRecDepth 100000 in
theorem F_ref13_two_gen  (R : Nat) (a1 : Int) (h : GH) (K : Int → GH → Option β) : G_ref13_two  R a1 h K =
    F_ref13_two_l0 R R a1 1 0 h (fun w6 h7 => K w6 h7) := by kernel_rfl
noncomputable def F_ref13_two (R : Nat) (a1 : Int) (h : GH) (K : Int → GH → Option β) : Option β := G_ref13_two  R a1 h K
theorem CF_ref13_two_sim : SimOrc Try.prog (CF_ref13_two (β := β)) := by
  intro f args h K r hc
  cases hc
set_option maxRecDepth 100000 in
theorem F_ref13_two_sim {R : Nat} {r : β} {a1 : Int} {h : GH} {K : Value → GH → Option β} (hc : F_ref13_two R a1 h (fun q0 h' => K (Value.int .i64 q0) h') = some r) : ∃ v h', K v h' = some r ∧ CallSim Try.prog 29 [Value.int .i64 a1] h v h' := by
  unfold F_ref13_two G_ref13_two at hc
  obtain ⟨v, h', hk, hs⟩ := gfun_sim CF_ref13_two_sim mixed_ok (fun f h => by cases h) Try.func29 (by kernel_rfl) hc
  obtain ⟨u0, e0, hk⟩ := exI_v hk; cases e0
  exact ⟨_, h', hk, hs⟩
/-! F30 (*duffel/duffelref07.Out).Lit -/
def CF_ref07_Out_Lit  : Orc β := fun f args h K => none
def HF_ref07_Out_Lit : Hints := ⟨[], [], []⟩
noncomputable def G_ref07_Out_Lit  (R : Nat) (a1 : Option Addr) (a2 : Int) (h : GH) (K : Int → GH → Option β) : Option β := gfun Try.prog (CF_ref07_Out_Lit ) HF_ref07_Out_Lit R Try.f30 [Value.pointer a1, Value.int .u8 a2] h (fun v h' => exI .i64 (some v) fun u20 => K u20 h')
set_option maxRecDepth 100000 in
theorem F_ref07_Out_Lit_gen  (R : Nat) (a1 : Option Addr) (a2 : Int) (h : GH) (K : Int → GH → Option β) : G_ref07_Out_Lit  R a1 a2 h K =
    exA a1 fun g3 o4 => exS (h.cell ⟨g3, o4 + 3, none⟩) fun x5 => exA a1 fun g6 o7 => exI .i64 (h.cell ⟨g6, o7 + 1, none⟩) fun x8 => (bif decide (((x5.n : Nat) : Int) ≥ x8) then K 9 h else exA a1 fun g9 o10 => exS (h.cell ⟨g9, o10 + 3, none⟩) fun x11 => gnew [Value.int .u8 a2] 1 h fun g12 h13 => gappS 1 1 x11 ⟨(some ⟨g12, 0, none⟩), 1, 1⟩ h13 fun s14 h15 => exA a1 fun g16 o17 => gput g16 (o17 + 3) [Value.slice s14.a s14.n s14.c] h15 fun h18 => K 0 h18) := by kernel_rfl
noncomputable def F_ref07_Out_Lit (R : Nat) (a1 : Option Addr) (a2 : Int) (h : GH) (K : Int → GH → Option β) : Option β := G_ref07_Out_Lit  R a1 a2 h K
theorem CF_ref07_Out_Lit_sim : SimOrc Try.prog (CF_ref07_Out_Lit (β := β)) := by
  intro f args h K r hc
  cases hc
set_option maxRecDepth 100000 in
theorem F_ref07_Out_Lit_sim {R : Nat} {r : β} {a1 : Option Addr} {a2 : Int} {h : GH} {K : Value → GH → Option β} (hc : F_ref07_Out_Lit R a1 a2 h (fun q0 h' => K (Value.int .i64 q0) h') = some r) : ∃ v h', K v h' = some r ∧ CallSim Try.prog 30 [Value.pointer a1, Value.int .u8 a2] h v h' := by
  unfold F_ref07_Out_Lit G_ref07_Out_Lit at hc
  obtain ⟨v, h', hk, hs⟩ := gfun_sim CF_ref07_Out_Lit_sim mixed_ok (fun f h => by cases h) Try.func30 (by kernel_rfl) hc
  obtain ⟨u0, e0, hk⟩ := exI_v hk; cases e0
  exact ⟨_, h', hk, hs⟩
/-! F31 (*duffel/duffelref07.Out).Copy -/
def CF_ref07_Out_Copy  : Orc β := fun f args h K => none
def HF_ref07_Out_Copy : Hints := ⟨[(8, [0, 1, 2, 7], [(0, [])], none)], [], []⟩
noncomputable def BF_ref07_Out_Copy : Code := match Try.f31.body with | some c => c | none => .skip
noncomputable def F_ref07_Out_Copy_l0  (R : Nat) (n : Nat) (y19 : Option Addr) (y20 : Int) (y21 : Int) (y22 : Int) (h : GH) (K0 : GH → Option β) : Option β := gloop (gcode Try.prog (CF_ref07_Out_Copy ) Try.f31.ntmps HF_ref07_Out_Copy R (at_ [true, true, true, true, false, true, false, false] BF_ref07_Out_Copy)) [0, 1, 2, 7] n [(0, Value.pointer y19), (1, Value.int .i64 y20), (2, Value.int .i64 y21), (7, Value.int .i64 y22)] h (fun i e' h' => bif Nat.beq i 0 then (K0 h') else none) (fun e' h' => none)
set_option maxRecDepth 100000 in
theorem F_ref07_Out_Copy_l0_succ  (R : Nat) (n : Nat) (y19 : Option Addr) (y20 : Int) (y21 : Int) (y22 : Int) (h : GH) (K0 : GH → Option β) : F_ref07_Out_Copy_l0  R (n + 1) y19 y20 y21 y22 h K0 =
    (bif decide (y22 < y21) then exA y19 fun g23 o24 => exS (h.cell ⟨g23, o24 + 3, none⟩) fun x25 => (bif decide (y20 ≤ ((x25.n : Nat) : Int)) then exA y19 fun g26 o27 => exS (h.cell ⟨g26, o27 + 3, none⟩) fun x28 => exA y19 fun g29 o30 => exS (h.cell ⟨g29, o30 + 3, none⟩) fun x31 => exA x28.a fun g32 o33 => within (IntKind.wrap .i64 (((x31.n : Nat) : Int) - y20)) x28.n (exI .u8 (h.cell ⟨g32, o33 + (IntKind.wrap .i64 (((x31.n : Nat) : Int) - y20)).toNat * 1, none⟩) fun x34 => exA y19 fun g35 o36 => exS (h.cell ⟨g35, o36 + 3, none⟩) fun x37 => gnew [Value.int .u8 x34] 1 h fun g38 h39 => gappS 1 1 x37 ⟨(some ⟨g38, 0, none⟩), 1, 1⟩ h39 fun s40 h41 => exA y19 fun g42 o43 => gput g42 (o43 + 3) [Value.slice s40.a s40.n s40.c] h41 fun h44 => F_ref07_Out_Copy_l0 R n y19 y20 y21 (IntKind.wrap .i64 (y22 + 1)) h44 K0) else exA y19 fun g45 o46 => exS (h.cell ⟨g45, o46 + 3, none⟩) fun x47 => gnew [Value.int .u8 0] 1 h fun g48 h49 => gappS 1 1 x47 ⟨(some ⟨g48, 0, none⟩), 1, 1⟩ h49 fun s50 h51 => exA y19 fun g52 o53 => gput g52 (o53 + 3) [Value.slice s50.a s50.n s50.c] h51 fun h54 => F_ref07_Out_Copy_l0 R n y19 y20 y21 (IntKind.wrap .i64 (y22 + 1)) h54 K0) else K0 h) := by kernel_rfl
noncomputable def G_ref07_Out_Copy  (R : Nat) (a1 : Option Addr) (a2 : Int) (a3 : Int) (h : GH) (K : Int → GH → Option β) : Option β := gfun Try.prog (CF_ref07_Out_Copy ) HF_ref07_Out_Copy R Try.f31 [Value.pointer a1, Value.int .i64 a2, Value.int .i64 a3] h (fun v h' => exI .i64 (some v) fun u64 => K u64 h')
set_option maxRecDepth 100000 in
theorem F_ref07_Out_Copy_gen  (R : Nat) (a1 : Option Addr) (a2 : Int) (a3 : Int) (h : GH) (K : Int → GH → Option β) : G_ref07_Out_Copy  R a1 a2 a3 h K =
    (bif decide (a2 < 1) then K 2 h else (bif decide (a3 < 0) then K 2 h else exA a1 fun g4 o5 => exI .i64 (h.cell ⟨g4, o5 + 0, none⟩) fun x6 => (bif decide (a2 > x6) then K 8 h else exA a1 fun g7 o8 => exS (h.cell ⟨g7, o8 + 3, none⟩) fun x9 => (bif decide (a2 > ((x9.n : Nat) : Int)) then exA a1 fun g10 o11 => exB (h.cell ⟨g10, o11 + 2, none⟩) fun x12 => (bif !x12 then K 8 h else exA a1 fun g13 o14 => exI .i64 (h.cell ⟨g13, o14 + 1, none⟩) fun x15 => exA a1 fun g16 o17 => exS (h.cell ⟨g16, o17 + 3, none⟩) fun x18 => (bif decide (a3 > (IntKind.wrap .i64 (x15 - ((x18.n : Nat) : Int)))) then K 9 h else F_ref07_Out_Copy_l0 R R a1 a2 a3 0 h (fun h55 => K 0 h55))) else exA a1 fun g56 o57 => exI .i64 (h.cell ⟨g56, o57 + 1, none⟩) fun x58 => exA a1 fun g59 o60 => exS (h.cell ⟨g59, o60 + 3, none⟩) fun x61 => (bif decide (a3 > (IntKind.wrap .i64 (x58 - ((x61.n : Nat) : Int)))) then K 9 h else F_ref07_Out_Copy_l0 R R a1 a2 a3 0 h (fun h62 => K 0 h62)))))) := by kernel_rfl
noncomputable def F_ref07_Out_Copy (R : Nat) (a1 : Option Addr) (a2 : Int) (a3 : Int) (h : GH) (K : Int → GH → Option β) : Option β := G_ref07_Out_Copy  R a1 a2 a3 h K
theorem CF_ref07_Out_Copy_sim : SimOrc Try.prog (CF_ref07_Out_Copy (β := β)) := by
  intro f args h K r hc
  cases hc
set_option maxRecDepth 100000 in
theorem F_ref07_Out_Copy_sim {R : Nat} {r : β} {a1 : Option Addr} {a2 : Int} {a3 : Int} {h : GH} {K : Value → GH → Option β} (hc : F_ref07_Out_Copy R a1 a2 a3 h (fun q0 h' => K (Value.int .i64 q0) h') = some r) : ∃ v h', K v h' = some r ∧ CallSim Try.prog 31 [Value.pointer a1, Value.int .i64 a2, Value.int .i64 a3] h v h' := by
  unfold F_ref07_Out_Copy G_ref07_Out_Copy at hc
  obtain ⟨v, h', hk, hs⟩ := gfun_sim CF_ref07_Out_Copy_sim mixed_ok (fun f h => by cases h) Try.func31 (by kernel_rfl) hc
  obtain ⟨u0, e0, hk⟩ := exI_v hk; cases e0
  exact ⟨_, h', hk, hs⟩
/-! F12 (*duffel/duffelref13.Machine).Feed -/
def CF_ref13_Machine_Feed (F_ref13_Machine_Full : Option Addr → GH → (Bool → GH → Option β) → Option β) (F_ref13_two : Int → GH → (Int → GH → Option β) → Option β) (F_ref07_Out_Lit : Option Addr → Int → GH → (Int → GH → Option β) → Option β) (F_ref07_Out_Copy : Option Addr → Int → Int → GH → (Int → GH → Option β) → Option β) : Orc β := fun f args h K => bif Nat.beq f 16 then (match args with | [.pointer p1] => F_ref13_Machine_Full p1 h (fun q17 h' => K (Value.bool q17) h') | _ => none) else (bif Nat.beq f 29 then (match args with | [.int .i64 p1] => F_ref13_two p1 h (fun q8 h' => K (Value.int .i64 q8) h') | _ => none) else (bif Nat.beq f 30 then (match args with | [.pointer p1, .int .u8 p2] => F_ref07_Out_Lit p1 p2 h (fun q19 h' => K (Value.int .i64 q19) h') | _ => none) else (bif Nat.beq f 31 then (match args with | [.pointer p1, .int .i64 p2, .int .i64 p3] => F_ref07_Out_Copy p1 p2 p3 h (fun q63 h' => K (Value.int .i64 q63) h') | _ => none) else none)))
def HF_ref13_Machine_Feed : Hints := ⟨[], [], []⟩
noncomputable def G_ref13_Machine_Feed (F_ref13_Machine_Full : Option Addr → GH → (Bool → GH → Option β) → Option β) (F_ref13_two : Int → GH → (Int → GH → Option β) → Option β) (F_ref07_Out_Lit : Option Addr → Int → GH → (Int → GH → Option β) → Option β) (F_ref07_Out_Copy : Option Addr → Int → Int → GH → (Int → GH → Option β) → Option β) (R : Nat) (a1 : Option Addr) (a2 : Int) (h : GH) (K : Int → GH → Option β) : Option β := gfun Try.prog (CF_ref13_Machine_Feed F_ref13_Machine_Full F_ref13_two F_ref07_Out_Lit F_ref07_Out_Copy) HF_ref13_Machine_Feed R Try.f12 [Value.pointer a1, Value.int .u8 a2] h (fun v h' => exI .i64 (some v) fun u68 => K u68 h')
set_option maxRecDepth 100000 in
theorem F_ref13_Machine_Feed_gen (F_ref13_Machine_Full : Option Addr → GH → (Bool → GH → Option β) → Option β) (F_ref13_two : Int → GH → (Int → GH → Option β) → Option β) (F_ref07_Out_Lit : Option Addr → Int → GH → (Int → GH → Option β) → Option β) (F_ref07_Out_Copy : Option Addr → Int → Int → GH → (Int → GH → Option β) → Option β) (R : Nat) (a1 : Option Addr) (a2 : Int) (h : GH) (K : Int → GH → Option β) : G_ref13_Machine_Feed F_ref13_Machine_Full F_ref13_two F_ref07_Out_Lit F_ref07_Out_Copy R a1 a2 h K =
    F_ref13_Machine_Full a1 h fun r3 h4 => (bif r3 then K 9 h4 else exA a1 fun g5 o6 => exI .i64 (h4.cell ⟨g5, o6 + 0, none⟩) fun x7 => F_ref13_two (IntKind.wrap .i64 (8 - x7)) h4 fun r8 h9 => exA a1 fun g10 o11 => exI .i64 (h9.cell ⟨g10, o11 + 2, none⟩) fun x12 => (bif x12 == 0 then (bif a2 == 144 then exA a1 fun g13 o14 => gput g13 (o14 + 2) [Value.int .i64 1] h9 fun h15 => K 0 h15 else exA a1 fun g16 o17 => exP (h9.cell ⟨g16, o17 + 1, none⟩) fun x18 => F_ref07_Out_Lit x18 a2 h9 fun r19 h20 => K r19 h20) else (bif x12 == 1 then (bif a2 == 0 then exA a1 fun g21 o22 => exP (h9.cell ⟨g21, o22 + 1, none⟩) fun x23 => F_ref07_Out_Lit x23 144 h9 fun r24 h25 => (bif r24 == 0 then exA a1 fun g26 o27 => gput g26 (o27 + 2) [Value.int .i64 0] h25 fun h28 => K r24 h28 else K r24 h25) else (bif decide (r8 = 0) then none else exA a1 fun g29 o30 => gput g29 (o30 + 3) [Value.int .i64 (IntKind.wrap .i64 a2)] h9 fun h31 => exA a1 fun g32 o33 => gput g32 (o33 + 4) [Value.int .i64 (Int.tmod (IntKind.wrap .i64 a2) r8)] h31 fun h34 => exA a1 fun g35 o36 => gput g35 (o36 + 2) [Value.int .i64 3] h34 fun h37 => exA a1 fun g38 o39 => exI .i64 (h37.cell ⟨g38, o39 + 4, none⟩) fun x40 => (bif x40 == (IntKind.wrap .i64 (r8 - 1)) then exA a1 fun g41 o42 => gput g41 (o42 + 2) [Value.int .i64 2] h37 fun h43 => K 0 h43 else K 0 h37))) else (bif x12 == 2 then exA a1 fun g44 o45 => exI .i64 (h9.cell ⟨g44, o45 + 4, none⟩) fun x46 => exA a1 fun g47 o48 => gput g47 (o48 + 4) [Value.int .i64 (IntKind.wrap .i64 (x46 + (IntKind.wrap .i64 a2)))] h9 fun h49 => exA a1 fun g50 o51 => gput g50 (o51 + 2) [Value.int .i64 3] h49 fun h52 => K 0 h52 else exA a1 fun g53 o54 => exP (h9.cell ⟨g53, o54 + 1, none⟩) fun x55 => exA a1 fun g56 o57 => exI .i64 (h9.cell ⟨g56, o57 + 3, none⟩) fun x58 => (bif decide (r8 = 0) then none else exA a1 fun g59 o60 => exI .i64 (h9.cell ⟨g59, o60 + 4, none⟩) fun x61 => F_ref07_Out_Copy x55 (IntKind.wrap .i64 ((IntKind.wrap .i64 ((IntKind.wrap .i64 (256 * (IntKind.wrap .i64 (Int.tdiv x58 r8)))) + (IntKind.wrap .i64 a2))) + 1)) (IntKind.wrap .i64 (x61 + 3)) h9 fun r62 h63 => (bif r62 != 0 then K r62 h63 else exA a1 fun g64 o65 => gput g64 (o65 + 2) [Value.int .i64 0] h63 fun h66 => K 0 h66)))))) := by kernel_rfl
noncomputable def F_ref13_Machine_Feed (R : Nat) (a1 : Option Addr) (a2 : Int) (h : GH) (K : Int → GH → Option β) : Option β := G_ref13_Machine_Feed (F_ref13_Machine_Full R) (F_ref13_two R) (F_ref07_Out_Lit R) (F_ref07_Out_Copy R) R a1 a2 h K
set_option maxRecDepth 100000 in
theorem CF_ref13_Machine_Feed_sim {R : Nat} : SimOrc Try.prog (CF_ref13_Machine_Feed (F_ref13_Machine_Full R) (F_ref13_two R) (F_ref07_Out_Lit R) (F_ref07_Out_Copy R) (β := β)) := by
  intro f args h K r hc
  unfold CF_ref13_Machine_Feed at hc
  cases hb : Nat.beq f 16 with
  | true =>
    rw [hb] at hc
    simp only [cond_true] at hc
    obtain rfl := Nat.eq_of_beq_eq_true hb
    split at hc
    · exact any_call (F_ref13_Machine_Full_sim (K := K) hc)
    · cases hc
  | false =>
  rw [hb] at hc
  simp only [cond_false] at hc
  cases hb : Nat.beq f 29 with
  | true =>
    rw [hb] at hc
    simp only [cond_true] at hc
    obtain rfl := Nat.eq_of_beq_eq_true hb
    split at hc
    · exact any_call (F_ref13_two_sim (K := K) hc)
    · cases hc
  | false =>
  rw [hb] at hc
  simp only [cond_false] at hc
  cases hb : Nat.beq f 30 with
  | true =>
    rw [hb] at hc
    simp only [cond_true] at hc
    obtain rfl := Nat.eq_of_beq_eq_true hb
    split at hc
    · exact any_call (F_ref07_Out_Lit_sim (K := K) hc)
    · cases hc
  | false =>
  rw [hb] at hc
  simp only [cond_false] at hc
  cases hb : Nat.beq f 31 with
  | true =>
    rw [hb] at hc
    simp only [cond_true] at hc
    obtain rfl := Nat.eq_of_beq_eq_true hb
    split at hc
    · exact any_call (F_ref07_Out_Copy_sim (K := K) hc)
    · cases hc
  | false =>
  rw [hb] at hc
  simp only [cond_false] at hc
  cases hc
set_option maxRecDepth 100000 in
theorem F_ref13_Machine_Feed_sim {R : Nat} {r : β} {a1 : Option Addr} {a2 : Int} {h : GH} {K : Value → GH → Option β} (hc : F_ref13_Machine_Feed R a1 a2 h (fun q0 h' => K (Value.int .i64 q0) h') = some r) : ∃ v h', K v h' = some r ∧ CallSim Try.prog 12 [Value.pointer a1, Value.int .u8 a2] h v h' := by
  unfold F_ref13_Machine_Feed G_ref13_Machine_Feed at hc
  obtain ⟨v, h', hk, hs⟩ := gfun_sim (CF_ref13_Machine_Feed_sim (R := R)) mixed_ok (fun f h => by cases h) Try.func12 (by kernel_rfl) hc
  obtain ⟨u0, e0, hk⟩ := exI_v hk; cases e0
  exact ⟨_, h', hk, hs⟩
/-! F39 bytes.Clone -/
def CF_bytes_Clone  : Orc β := fun f args h K => none
def HF_bytes_Clone : Hints := ⟨[], [], []⟩
noncomputable def G_bytes_Clone  (R : Nat) (a1 : Sl) (h : GH) (K : Sl → GH → Option β) : Option β := gfun Try.prog (CF_bytes_Clone ) HF_bytes_Clone R Try.f39 [Value.slice a1.a a1.n a1.c] h (fun v h' => exS (some v) fun u7 => K u7 h')
set_option maxRecDepth 100000 in
theorem F_bytes_Clone_gen  (R : Nat) (a1 : Sl) (h : GH) (K : Sl → GH → Option β) : G_bytes_Clone  R a1 h K =
    (bif Option.isNone a1.a then K ⟨none, 0, 0⟩ h else gnew [] 1 h fun g2 h3 => gappS 1 1 ⟨(some ⟨g2, 0, none⟩), 0, 0⟩ a1 h3 fun s4 h5 => K s4 h5) := by kernel_rfl
noncomputable def F_bytes_Clone (R : Nat) (a1 : Sl) (h : GH) (K : Sl → GH → Option β) : Option β := G_bytes_Clone  R a1 h K
theorem CF_bytes_Clone_sim : SimOrc Try.prog (CF_bytes_Clone (β := β)) := by
  intro f args h K r hc
  cases hc
set_option maxRecDepth 100000 in
theorem F_bytes_Clone_sim {R : Nat} {r : β} {a1 : Sl} {h : GH} {K : Value → GH → Option β} (hc : F_bytes_Clone R a1 h (fun q0 h' => K (Value.slice q0.a q0.n q0.c) h') = some r) : ∃ v h', K v h' = some r ∧ CallSim Try.prog 39 [Value.slice a1.a a1.n a1.c] h v h' := by
  unfold F_bytes_Clone G_bytes_Clone at hc
  obtain ⟨v, h', hk, hs⟩ := gfun_sim CF_bytes_Clone_sim mixed_ok (fun f h => by cases h) Try.func39 (by kernel_rfl) hc
  obtain ⟨u0, e0, hk⟩ := exS_v hk; cases e0
  exact ⟨_, h', hk, hs⟩
/-! F32 (*duffel/hist.Out).Bytes -/
def CF_hist_Out_Bytes (F_hist_Out_ok : Option Addr → GH → (Bool → GH → Option β) → Option β) (F_bytes_Clone : Sl → GH → (Sl → GH → Option β) → Option β) : Orc β := fun f args h K => bif Nat.beq f 38 then (match args with | [.pointer p1] => F_hist_Out_ok p1 h (fun q5 h' => K (Value.bool q5) h') | _ => none) else (bif Nat.beq f 39 then (match args with | [.slice p1a p1n p1c] => F_bytes_Clone ⟨p1a, p1n, p1c⟩ h (fun q6 h' => K (Value.slice q6.a q6.n q6.c) h') | _ => none) else none)
def HF_hist_Out_Bytes : Hints := ⟨[], [], []⟩
noncomputable def G_hist_Out_Bytes (F_hist_Out_ok : Option Addr → GH → (Bool → GH → Option β) → Option β) (F_bytes_Clone : Sl → GH → (Sl → GH → Option β) → Option β) (R : Nat) (a1 : Option Addr) (h : GH) (K : Sl → GH → Option β) : Option β := gfun Try.prog (CF_hist_Out_Bytes F_hist_Out_ok F_bytes_Clone) HF_hist_Out_Bytes R Try.f32 [Value.pointer a1] h (fun v h' => exS (some v) fun u10 => K u10 h')
set_option maxRecDepth 100000 in
theorem F_hist_Out_Bytes_gen (F_hist_Out_ok : Option Addr → GH → (Bool → GH → Option β) → Option β) (F_bytes_Clone : Sl → GH → (Sl → GH → Option β) → Option β) (R : Nat) (a1 : Option Addr) (h : GH) (K : Sl → GH → Option β) : G_hist_Out_Bytes F_hist_Out_ok F_bytes_Clone R a1 h K =
    F_hist_Out_ok a1 h fun r2 h3 => (bif !r2 then K ⟨none, 0, 0⟩ h3 else exA a1 fun g4 o5 => exS (h3.cell ⟨g4, o5 + 3, none⟩) fun x6 => F_bytes_Clone x6 h3 fun r7 h8 => K r7 h8) := by kernel_rfl
noncomputable def F_hist_Out_Bytes (R : Nat) (a1 : Option Addr) (h : GH) (K : Sl → GH → Option β) : Option β := G_hist_Out_Bytes (F_hist_Out_ok R) (F_bytes_Clone R) R a1 h K
set_option maxRecDepth 100000 in
theorem CF_hist_Out_Bytes_sim {R : Nat} : SimOrc Try.prog (CF_hist_Out_Bytes (F_hist_Out_ok R) (F_bytes_Clone R) (β := β)) := by
  intro f args h K r hc
  unfold CF_hist_Out_Bytes at hc
  cases hb : Nat.beq f 38 with
  | true =>
    rw [hb] at hc
    simp only [cond_true] at hc
    obtain rfl := Nat.eq_of_beq_eq_true hb
    split at hc
    · exact any_call (F_hist_Out_ok_sim (K := K) hc)
    · cases hc
  | false =>
  rw [hb] at hc
  simp only [cond_false] at hc
  cases hb : Nat.beq f 39 with
  | true =>
    rw [hb] at hc
    simp only [cond_true] at hc
    obtain rfl := Nat.eq_of_beq_eq_true hb
    split at hc
    · exact any_call (F_bytes_Clone_sim (K := K) hc)
    · cases hc
  | false =>
  rw [hb] at hc
  simp only [cond_false] at hc
  cases hc
set_option maxRecDepth 100000 in
theorem F_hist_Out_Bytes_sim {R : Nat} {r : β} {a1 : Option Addr} {h : GH} {K : Value → GH → Option β} (hc : F_hist_Out_Bytes R a1 h (fun q0 h' => K (Value.slice q0.a q0.n q0.c) h') = some r) : ∃ v h', K v h' = some r ∧ CallSim Try.prog 32 [Value.pointer a1] h v h' := by
  unfold F_hist_Out_Bytes G_hist_Out_Bytes at hc
  obtain ⟨v, h', hk, hs⟩ := gfun_sim (CF_hist_Out_Bytes_sim (R := R)) mixed_ok (fun f h => by cases h) Try.func32 (by kernel_rfl) hc
  obtain ⟨u0, e0, hk⟩ := exS_v hk; cases e0
  exact ⟨_, h', hk, hs⟩
/-! F14 (*duffel/dle.Machine).Bytes -/
def CF_dle_Machine_Bytes (F_dle_Machine_ok : Option Addr → GH → (Bool → GH → Option β) → Option β) (F_hist_Out_Bytes : Option Addr → GH → (Sl → GH → Option β) → Option β) : Orc β := fun f args h K => bif Nat.beq f 25 then (match args with | [.pointer p1] => F_dle_Machine_ok p1 h (fun q5 h' => K (Value.bool q5) h') | _ => none) else (bif Nat.beq f 32 then (match args with | [.pointer p1] => F_hist_Out_Bytes p1 h (fun q9 h' => K (Value.slice q9.a q9.n q9.c) h') | _ => none) else none)
def HF_dle_Machine_Bytes : Hints := ⟨[], [], []⟩
noncomputable def G_dle_Machine_Bytes (F_dle_Machine_ok : Option Addr → GH → (Bool → GH → Option β) → Option β) (F_hist_Out_Bytes : Option Addr → GH → (Sl → GH → Option β) → Option β) (R : Nat) (a1 : Option Addr) (h : GH) (K : Sl → GH → Option β) : Option β := gfun Try.prog (CF_dle_Machine_Bytes F_dle_Machine_ok F_hist_Out_Bytes) HF_dle_Machine_Bytes R Try.f14 [Value.pointer a1] h (fun v h' => exS (some v) fun u10 => K u10 h')
set_option maxRecDepth 100000 in
theorem F_dle_Machine_Bytes_gen (F_dle_Machine_ok : Option Addr → GH → (Bool → GH → Option β) → Option β) (F_hist_Out_Bytes : Option Addr → GH → (Sl → GH → Option β) → Option β) (R : Nat) (a1 : Option Addr) (h : GH) (K : Sl → GH → Option β) : G_dle_Machine_Bytes F_dle_Machine_ok F_hist_Out_Bytes R a1 h K =
    F_dle_Machine_ok a1 h fun r2 h3 => (bif !r2 then K ⟨none, 0, 0⟩ h3 else exA a1 fun g4 o5 => exP (h3.cell ⟨g4, o5 + 1, none⟩) fun x6 => F_hist_Out_Bytes x6 h3 fun r7 h8 => K r7 h8) := by kernel_rfl
noncomputable def F_dle_Machine_Bytes (R : Nat) (a1 : Option Addr) (h : GH) (K : Sl → GH → Option β) : Option β := G_dle_Machine_Bytes (F_dle_Machine_ok R) (F_hist_Out_Bytes R) R a1 h K
set_option maxRecDepth 100000 in
theorem CF_dle_Machine_Bytes_sim {R : Nat} : SimOrc Try.prog (CF_dle_Machine_Bytes (F_dle_Machine_ok R) (F_hist_Out_Bytes R) (β := β)) := by
  intro f args h K r hc
  unfold CF_dle_Machine_Bytes at hc
  cases hb : Nat.beq f 25 with
  | true =>
    rw [hb] at hc
    simp only [cond_true] at hc
    obtain rfl := Nat.eq_of_beq_eq_true hb
    split at hc
    · exact any_call (F_dle_Machine_ok_sim (K := K) hc)
    · cases hc
  | false =>
  rw [hb] at hc
  simp only [cond_false] at hc
  cases hb : Nat.beq f 32 with
  | true =>
    rw [hb] at hc
    simp only [cond_true] at hc
    obtain rfl := Nat.eq_of_beq_eq_true hb
    split at hc
    · exact any_call (F_hist_Out_Bytes_sim (K := K) hc)
    · cases hc
  | false =>
  rw [hb] at hc
  simp only [cond_false] at hc
  cases hc
set_option maxRecDepth 100000 in
theorem F_dle_Machine_Bytes_sim {R : Nat} {r : β} {a1 : Option Addr} {h : GH} {K : Value → GH → Option β} (hc : F_dle_Machine_Bytes R a1 h (fun q0 h' => K (Value.slice q0.a q0.n q0.c) h') = some r) : ∃ v h', K v h' = some r ∧ CallSim Try.prog 14 [Value.pointer a1] h v h' := by
  unfold F_dle_Machine_Bytes G_dle_Machine_Bytes at hc
  obtain ⟨v, h', hk, hs⟩ := gfun_sim (CF_dle_Machine_Bytes_sim (R := R)) mixed_ok (fun f h => by cases h) Try.func14 (by kernel_rfl) hc
  obtain ⟨u0, e0, hk⟩ := exS_v hk; cases e0
  exact ⟨_, h', hk, hs⟩
/-! F13 duffel/duffelref01.Same -/
def CF_ref01_Same  : Orc β := fun f args h K => none
def HF_ref01_Same : Hints := ⟨[(4, [0, 1, 5], [(0, [])], some [(4, .ty 4)])], [], []⟩
noncomputable def BF_ref01_Same : Code := match Try.f13.body with | some c => c | none => .skip
noncomputable def F_ref01_Same_l0  (R : Nat) (n : Nat) (y3 : Sl) (y4 : Sl) (y5 : Int) (h : GH) (K0 : GH → Option β) (Kr : Bool → GH → Option β) : Option β := gloop (gcode Try.prog (CF_ref01_Same ) Try.f13.ntmps HF_ref01_Same R (at_ [true, true, false, true, false, false] BF_ref01_Same)) [0, 1, 5] n [(0, Value.slice y3.a y3.n y3.c), (1, Value.slice y4.a y4.n y4.c), (5, Value.int .i64 y5)] h (fun i e' h' => bif Nat.beq i 0 then (K0 h') else none) (fun e' h' => exB (some (e'.get 4)) fun u17 => Kr u17 h')
set_option maxRecDepth 100000 in
theorem F_ref01_Same_l0_succ  (R : Nat) (n : Nat) (y3 : Sl) (y4 : Sl) (y5 : Int) (h : GH) (K0 : GH → Option β) (Kr : Bool → GH → Option β) : F_ref01_Same_l0  R (n + 1) y3 y4 y5 h K0 Kr =
    (bif decide (y5 < ((y3.n : Nat) : Int)) then exA y3.a fun g7 o8 => within y5 y3.n (exI .u8 (h.cell ⟨g7, o8 + y5.toNat * 1, none⟩) fun x9 => exA y4.a fun g10 o11 => within y5 y4.n (exI .u8 (h.cell ⟨g10, o11 + y5.toNat * 1, none⟩) fun x12 => (bif x9 != x12 then Kr false h else F_ref01_Same_l0 R n y3 y4 (IntKind.wrap .i64 (y5 + 1)) h K0 Kr))) else K0 h) := by kernel_rfl
noncomputable def G_ref01_Same  (R : Nat) (a1 : Sl) (a2 : Sl) (h : GH) (K : Bool → GH → Option β) : Option β := gfun Try.prog (CF_ref01_Same ) HF_ref01_Same R Try.f13 [Value.slice a1.a a1.n a1.c, Value.slice a2.a a2.n a2.c] h (fun v h' => exB (some v) fun u18 => K u18 h')
set_option maxRecDepth 100000 in
theorem F_ref01_Same_gen  (R : Nat) (a1 : Sl) (a2 : Sl) (h : GH) (K : Bool → GH → Option β) : G_ref01_Same  R a1 a2 h K =
    (bif ((a1.n : Nat) : Int) != ((a2.n : Nat) : Int) then K false h else F_ref01_Same_l0 R R a1 a2 0 h (fun h13 => K true h13) (fun w14 h15 => K w14 h15)) := by kernel_rfl
noncomputable def F_ref01_Same (R : Nat) (a1 : Sl) (a2 : Sl) (h : GH) (K : Bool → GH → Option β) : Option β := G_ref01_Same  R a1 a2 h K
theorem CF_ref01_Same_sim : SimOrc Try.prog (CF_ref01_Same (β := β)) := by
  intro f args h K r hc
  cases hc
set_option maxRecDepth 100000 in
theorem F_ref01_Same_sim {R : Nat} {r : β} {a1 : Sl} {a2 : Sl} {h : GH} {K : Value → GH → Option β} (hc : F_ref01_Same R a1 a2 h (fun q0 h' => K (Value.bool q0) h') = some r) : ∃ v h', K v h' = some r ∧ CallSim Try.prog 13 [Value.slice a1.a a1.n a1.c, Value.slice a2.a a2.n a2.c] h v h' := by
  unfold F_ref01_Same G_ref01_Same at hc
  obtain ⟨v, h', hk, hs⟩ := gfun_sim CF_ref01_Same_sim mixed_ok (fun f h => by cases h) Try.func13 (by kernel_rfl) hc
  obtain ⟨u0, e0, hk⟩ := exB_v hk; cases e0
  exact ⟨_, h', hk, hs⟩
/-! F6 duffel/duffellaw13.DleBack -/
def CF_law13_DleBack (F_ref01_Cut : Sl → Int → GH → (Sl → GH → Option β) → Option β) (F_ref01_Within : Int → Int → Int → GH → (Int → GH → Option β) → Option β) (F_dle_Encode : Sl → Int → GH → (Sl → Int → GH → Option β) → Option β) (F_dle_New : Int → Int → GH → (Option Addr → Int → GH → Option β) → Option β) (F_ref13_New : Int → Int → GH → (Option Addr → Int → GH → Option β) → Option β) (F_dle_Machine_Full : Option Addr → GH → (Bool → GH → Option β) → Option β) (F_dle_Machine_Feed : Option Addr → Int → GH → (Int → GH → Option β) → Option β) (F_ref13_Machine_Feed : Option Addr → Int → GH → (Int → GH → Option β) → Option β) (F_ref13_Machine_Full : Option Addr → GH → (Bool → GH → Option β) → Option β) (F_dle_Machine_Bytes : Option Addr → GH → (Sl → GH → Option β) → Option β) (F_ref01_Same : Sl → Sl → GH → (Bool → GH → Option β) → Option β) (F_law13_lives : GH → (Bool → GH → Option β) → Option β) : Orc β := fun f args h K => bif Nat.beq f 8 then (match args with | [.slice p1a p1n p1c, .int .i64 p2] => F_ref01_Cut ⟨p1a, p1n, p1c⟩ p2 h (fun q4 h' => K (Value.slice q4.a q4.n q4.c) h') | _ => none) else (bif Nat.beq f 22 then (match args with | [.int .i64 p1, .int .i64 p2, .int .i64 p3] => F_ref01_Within p1 p2 p3 h (fun q4 h' => K (Value.int .i64 q4) h') | _ => none) else (bif Nat.beq f 20 then (match args with | [.slice p1a p1n p1c, .int .i64 p2] => F_dle_Encode ⟨p1a, p1n, p1c⟩ p2 h (fun q50 q51 h' => K (Value.tuple #[Value.slice q50.a q50.n q50.c, Value.int .i64 q51]) h') | _ => none) else (bif Nat.beq f 9 then (match args with | [.int .i64 p1, .int .i64 p2] => F_dle_New p1 p2 h (fun q10 q11 h' => K (Value.tuple #[Value.pointer q10, Value.int .i64 q11]) h') | _ => none) else (bif Nat.beq f 10 then (match args with | [.int .i64 p1, .int .i64 p2] => F_ref13_New p1 p2 h (fun q7 q8 h' => K (Value.tuple #[Value.pointer q7, Value.int .i64 q8]) h') | _ => none) else (bif Nat.beq f 15 then (match args with | [.pointer p1] => F_dle_Machine_Full p1 h (fun q9 h' => K (Value.bool q9) h') | _ => none) else (bif Nat.beq f 11 then (match args with | [.pointer p1, .int .u8 p2] => F_dle_Machine_Feed p1 p2 h (fun q46 h' => K (Value.int .i64 q46) h') | _ => none) else (bif Nat.beq f 12 then (match args with | [.pointer p1, .int .u8 p2] => F_ref13_Machine_Feed p1 p2 h (fun q67 h' => K (Value.int .i64 q67) h') | _ => none) else (bif Nat.beq f 16 then (match args with | [.pointer p1] => F_ref13_Machine_Full p1 h (fun q17 h' => K (Value.bool q17) h') | _ => none) else (bif Nat.beq f 14 then (match args with | [.pointer p1] => F_dle_Machine_Bytes p1 h (fun q9 h' => K (Value.slice q9.a q9.n q9.c) h') | _ => none) else (bif Nat.beq f 13 then (match args with | [.slice p1a p1n p1c, .slice p2a p2n p2c] => F_ref01_Same ⟨p1a, p1n, p1c⟩ ⟨p2a, p2n, p2c⟩ h (fun q16 h' => K (Value.bool q16) h') | _ => none) else (bif Nat.beq f 18 then (match args with | [] => F_law13_lives  h (fun q1 h' => K (Value.bool q1) h') | _ => none) else none)))))))))))
def HF_law13_DleBack : Hints := ⟨[(8, [0, 5, 7, 9, 11], [(0, [(0, .ty 22), (7, .ty 24), (9, .ty 28)])], some [(4, .ty 4)])], [], []⟩
noncomputable def BF_law13_DleBack : Code := match Try.f6.body with | some c => c | none => .skip
noncomputable def F_law13_DleBack_l0 (F_ref01_Cut : Sl → Int → GH → (Sl → GH → Option β) → Option β) (F_ref01_Within : Int → Int → Int → GH → (Int → GH → Option β) → Option β) (F_dle_Encode : Sl → Int → GH → (Sl → Int → GH → Option β) → Option β) (F_dle_New : Int → Int → GH → (Option Addr → Int → GH → Option β) → Option β) (F_ref13_New : Int → Int → GH → (Option Addr → Int → GH → Option β) → Option β) (F_dle_Machine_Full : Option Addr → GH → (Bool → GH → Option β) → Option β) (F_dle_Machine_Feed : Option Addr → Int → GH → (Int → GH → Option β) → Option β) (F_ref13_Machine_Feed : Option Addr → Int → GH → (Int → GH → Option β) → Option β) (F_ref13_Machine_Full : Option Addr → GH → (Bool → GH → Option β) → Option β) (F_dle_Machine_Bytes : Option Addr → GH → (Sl → GH → Option β) → Option β) (F_ref01_Same : Sl → Sl → GH → (Bool → GH → Option β) → Option β) (F_law13_lives : GH → (Bool → GH → Option β) → Option β) (R : Nat) (n : Nat) (y16 : Sl) (y17 : Sl) (y18 : Option Addr) (y19 : Option Addr) (y20 : Int) (h : GH) (K0 : Sl → Option Addr → Option Addr → GH → Option β) (Kr : Bool → GH → Option β) : Option β := gloop (gcode Try.prog (CF_law13_DleBack F_ref01_Cut F_ref01_Within F_dle_Encode F_dle_New F_ref13_New F_dle_Machine_Full F_dle_Machine_Feed F_ref13_Machine_Feed F_ref13_Machine_Full F_dle_Machine_Bytes F_ref01_Same F_law13_lives) Try.f6.ntmps HF_law13_DleBack R (at_ [true, true, true, true, true, true, false, true, false, false] BF_law13_DleBack)) [0, 5, 7, 9, 11] n [(0, Value.slice y16.a y16.n y16.c), (5, Value.slice y17.a y17.n y17.c), (7, Value.pointer y18), (9, Value.pointer y19), (11, Value.int .i64 y20)] h (fun i e' h' => bif Nat.beq i 0 then (exS (some (e'.get 0)) fun u62 => exP (some (e'.get 7)) fun u63 => exP (some (e'.get 9)) fun u64 => K0 u62 u63 u64 h') else none) (fun e' h' => exB (some (e'.get 4)) fun u65 => Kr u65 h')
set_option maxRecDepth 100000 in
theorem F_law13_DleBack_l0_succ (F_ref01_Cut : Sl → Int → GH → (Sl → GH → Option β) → Option β) (F_ref01_Within : Int → Int → Int → GH → (Int → GH → Option β) → Option β) (F_dle_Encode : Sl → Int → GH → (Sl → Int → GH → Option β) → Option β) (F_dle_New : Int → Int → GH → (Option Addr → Int → GH → Option β) → Option β) (F_ref13_New : Int → Int → GH → (Option Addr → Int → GH → Option β) → Option β) (F_dle_Machine_Full : Option Addr → GH → (Bool → GH → Option β) → Option β) (F_dle_Machine_Feed : Option Addr → Int → GH → (Int → GH → Option β) → Option β) (F_ref13_Machine_Feed : Option Addr → Int → GH → (Int → GH → Option β) → Option β) (F_ref13_Machine_Full : Option Addr → GH → (Bool → GH → Option β) → Option β) (F_dle_Machine_Bytes : Option Addr → GH → (Sl → GH → Option β) → Option β) (F_ref01_Same : Sl → Sl → GH → (Bool → GH → Option β) → Option β) (F_law13_lives : GH → (Bool → GH → Option β) → Option β) (R : Nat) (n : Nat) (y16 : Sl) (y17 : Sl) (y18 : Option Addr) (y19 : Option Addr) (y20 : Int) (h : GH) (K0 : Sl → Option Addr → Option Addr → GH → Option β) (Kr : Bool → GH → Option β) : F_law13_DleBack_l0 F_ref01_Cut F_ref01_Within F_dle_Encode F_dle_New F_ref13_New F_dle_Machine_Full F_dle_Machine_Feed F_ref13_Machine_Feed F_ref13_Machine_Full F_dle_Machine_Bytes F_ref01_Same F_law13_lives R (n + 1) y16 y17 y18 y19 y20 h K0 Kr =
    (bif decide (y20 < ((y17.n : Nat) : Int)) then F_dle_Machine_Full y18 h fun r25 h26 => (bif r25 then Kr false h26 else exA y17.a fun g27 o28 => within y20 y17.n (exI .u8 (h26.cell ⟨g27, o28 + y20.toNat * 1, none⟩) fun x29 => F_dle_Machine_Feed y18 x29 h26 fun r30 h31 => (bif r30 != 0 then Kr false h31 else exA y17.a fun g32 o33 => within y20 y17.n (exI .u8 (h31.cell ⟨g32, o33 + y20.toNat * 1, none⟩) fun x34 => F_ref13_Machine_Feed y19 x34 h31 fun r35 h36 => (bif r35 != 0 then Kr false h36 else F_law13_DleBack_l0 F_ref01_Cut F_ref01_Within F_dle_Encode F_dle_New F_ref13_New F_dle_Machine_Full F_dle_Machine_Feed F_ref13_Machine_Feed F_ref13_Machine_Full F_dle_Machine_Bytes F_ref01_Same F_law13_lives R n y16 y17 y18 y19 (IntKind.wrap .i64 (y20 + 1)) h36 K0 Kr))))) else K0 y16 y18 y19 h) := by kernel_rfl
noncomputable def G_law13_DleBack (F_ref01_Cut : Sl → Int → GH → (Sl → GH → Option β) → Option β) (F_ref01_Within : Int → Int → Int → GH → (Int → GH → Option β) → Option β) (F_dle_Encode : Sl → Int → GH → (Sl → Int → GH → Option β) → Option β) (F_dle_New : Int → Int → GH → (Option Addr → Int → GH → Option β) → Option β) (F_ref13_New : Int → Int → GH → (Option Addr → Int → GH → Option β) → Option β) (F_dle_Machine_Full : Option Addr → GH → (Bool → GH → Option β) → Option β) (F_dle_Machine_Feed : Option Addr → Int → GH → (Int → GH → Option β) → Option β) (F_ref13_Machine_Feed : Option Addr → Int → GH → (Int → GH → Option β) → Option β) (F_ref13_Machine_Full : Option Addr → GH → (Bool → GH → Option β) → Option β) (F_dle_Machine_Bytes : Option Addr → GH → (Sl → GH → Option β) → Option β) (F_ref01_Same : Sl → Sl → GH → (Bool → GH → Option β) → Option β) (F_law13_lives : GH → (Bool → GH → Option β) → Option β) (R : Nat) (a1 : Sl) (a2 : Int) (h : GH) (K : Bool → GH → Option β) : Option β := gfun Try.prog (CF_law13_DleBack F_ref01_Cut F_ref01_Within F_dle_Encode F_dle_New F_ref13_New F_dle_Machine_Full F_dle_Machine_Feed F_ref13_Machine_Feed F_ref13_Machine_Full F_dle_Machine_Bytes F_ref01_Same F_law13_lives) HF_law13_DleBack R Try.f6 [Value.slice a1.a a1.n a1.c, Value.int .i64 a2] h (fun v h' => exB (some v) fun u66 => K u66 h')
set_option maxRecDepth 100000 in
theorem F_law13_DleBack_gen (F_ref01_Cut : Sl → Int → GH → (Sl → GH → Option β) → Option β) (F_ref01_Within : Int → Int → Int → GH → (Int → GH → Option β) → Option β) (F_dle_Encode : Sl → Int → GH → (Sl → Int → GH → Option β) → Option β) (F_dle_New : Int → Int → GH → (Option Addr → Int → GH → Option β) → Option β) (F_ref13_New : Int → Int → GH → (Option Addr → Int → GH → Option β) → Option β) (F_dle_Machine_Full : Option Addr → GH → (Bool → GH → Option β) → Option β) (F_dle_Machine_Feed : Option Addr → Int → GH → (Int → GH → Option β) → Option β) (F_ref13_Machine_Feed : Option Addr → Int → GH → (Int → GH → Option β) → Option β) (F_ref13_Machine_Full : Option Addr → GH → (Bool → GH → Option β) → Option β) (F_dle_Machine_Bytes : Option Addr → GH → (Sl → GH → Option β) → Option β) (F_ref01_Same : Sl → Sl → GH → (Bool → GH → Option β) → Option β) (F_law13_lives : GH → (Bool → GH → Option β) → Option β) (R : Nat) (a1 : Sl) (a2 : Int) (h : GH) (K : Bool → GH → Option β) : G_law13_DleBack F_ref01_Cut F_ref01_Within F_dle_Encode F_dle_New F_ref13_New F_dle_Machine_Full F_dle_Machine_Feed F_ref13_Machine_Feed F_ref13_Machine_Full F_dle_Machine_Bytes F_ref01_Same F_law13_lives R a1 a2 h K =
    F_ref01_Cut a1 2000 h fun r3 h4 => F_ref01_Within a2 1 4 h4 fun r5 h6 => F_dle_Encode r3 r5 h6 fun r7 r8 h9 => F_dle_New r5 ((r3.n : Nat) : Int) h9 fun r10 r11 h12 => F_ref13_New r5 ((r3.n : Nat) : Int) h12 fun r13 r14 h15 => (bif r8 != 0 then K false h15 else (bif r11 != 0 then K false h15 else (bif decide (((r7.n : Nat) : Int) > (IntKind.wrap .i64 (2 * ((r3.n : Nat) : Int)))) then K false h15 else F_law13_DleBack_l0 F_ref01_Cut F_ref01_Within F_dle_Encode F_dle_New F_ref13_New F_dle_Machine_Full F_dle_Machine_Feed F_ref13_Machine_Feed F_ref13_Machine_Full F_dle_Machine_Bytes F_ref01_Same F_law13_lives R R r3 r7 r10 r13 0 h15 (fun w37 w38 w39 h40 => F_dle_Machine_Full w38 h40 fun r41 h42 => (bif r41 then F_ref13_Machine_Full w39 h42 fun r43 h44 => (bif r43 then F_dle_Machine_Bytes w38 h44 fun r45 h46 => F_ref01_Same r45 w37 h46 fun r47 h48 => (bif r47 then exA w39 fun g49 o50 => exP (h48.cell ⟨g49, o50 + 1, none⟩) fun x51 => exA x51 fun g52 o53 => exS (h48.cell ⟨g52, o53 + 3, none⟩) fun x54 => F_ref01_Same x54 w37 h48 fun r55 h56 => (bif r55 then F_law13_lives h56 fun r57 h58 => K r57 h58 else K false h56) else K false h48) else K false h44) else K false h42)) (fun w59 h60 => K w59 h60)))) := by kernel_rfl
noncomputable def F_law13_DleBack (R : Nat) (a1 : Sl) (a2 : Int) (h : GH) (K : Bool → GH → Option β) : Option β := G_law13_DleBack (F_ref01_Cut R) (F_ref01_Within R) (F_dle_Encode R) (F_dle_New R) (F_ref13_New R) (F_dle_Machine_Full R) (F_dle_Machine_Feed R) (F_ref13_Machine_Feed R) (F_ref13_Machine_Full R) (F_dle_Machine_Bytes R) (F_ref01_Same R) F_law13_lives R a1 a2 h K
set_option maxRecDepth 100000 in
theorem CF_law13_DleBack_sim {R : Nat} : SimOrc Try.prog (CF_law13_DleBack (F_ref01_Cut R) (F_ref01_Within R) (F_dle_Encode R) (F_dle_New R) (F_ref13_New R) (F_dle_Machine_Full R) (F_dle_Machine_Feed R) (F_ref13_Machine_Feed R) (F_ref13_Machine_Full R) (F_dle_Machine_Bytes R) (F_ref01_Same R) F_law13_lives (β := β)) := by
  intro f args h K r hc
  unfold CF_law13_DleBack at hc
  cases hb : Nat.beq f 8 with
  | true =>
    rw [hb] at hc
    simp only [cond_true] at hc
    obtain rfl := Nat.eq_of_beq_eq_true hb
    split at hc
    · exact any_call (F_ref01_Cut_sim (K := K) hc)
    · cases hc
  | false =>
  rw [hb] at hc
  simp only [cond_false] at hc
  cases hb : Nat.beq f 22 with
  | true =>
    rw [hb] at hc
    simp only [cond_true] at hc
    obtain rfl := Nat.eq_of_beq_eq_true hb
    split at hc
    · exact any_call (F_ref01_Within_sim (K := K) hc)
    · cases hc
  | false =>
  rw [hb] at hc
  simp only [cond_false] at hc
  cases hb : Nat.beq f 20 with
  | true =>
    rw [hb] at hc
    simp only [cond_true] at hc
    obtain rfl := Nat.eq_of_beq_eq_true hb
    split at hc
    · exact any_call (F_dle_Encode_sim (K := K) hc)
    · cases hc
  | false =>
  rw [hb] at hc
  simp only [cond_false] at hc
  cases hb : Nat.beq f 9 with
  | true =>
    rw [hb] at hc
    simp only [cond_true] at hc
    obtain rfl := Nat.eq_of_beq_eq_true hb
    split at hc
    · exact any_call (F_dle_New_sim (K := K) hc)
    · cases hc
  | false =>
  rw [hb] at hc
  simp only [cond_false] at hc
  cases hb : Nat.beq f 10 with
  | true =>
    rw [hb] at hc
    simp only [cond_true] at hc
    obtain rfl := Nat.eq_of_beq_eq_true hb
    split at hc
    · exact any_call (F_ref13_New_sim (K := K) hc)
    · cases hc
  | false =>
  rw [hb] at hc
  simp only [cond_false] at hc
  cases hb : Nat.beq f 15 with
  | true =>
    rw [hb] at hc
    simp only [cond_true] at hc
    obtain rfl := Nat.eq_of_beq_eq_true hb
    split at hc
    · exact any_call (F_dle_Machine_Full_sim (K := K) hc)
    · cases hc
  | false =>
  rw [hb] at hc
  simp only [cond_false] at hc
  cases hb : Nat.beq f 11 with
  | true =>
    rw [hb] at hc
    simp only [cond_true] at hc
    obtain rfl := Nat.eq_of_beq_eq_true hb
    split at hc
    · exact any_call (F_dle_Machine_Feed_sim (K := K) hc)
    · cases hc
  | false =>
  rw [hb] at hc
  simp only [cond_false] at hc
  cases hb : Nat.beq f 12 with
  | true =>
    rw [hb] at hc
    simp only [cond_true] at hc
    obtain rfl := Nat.eq_of_beq_eq_true hb
    split at hc
    · exact any_call (F_ref13_Machine_Feed_sim (K := K) hc)
    · cases hc
  | false =>
  rw [hb] at hc
  simp only [cond_false] at hc
  cases hb : Nat.beq f 16 with
  | true =>
    rw [hb] at hc
    simp only [cond_true] at hc
    obtain rfl := Nat.eq_of_beq_eq_true hb
    split at hc
    · exact any_call (F_ref13_Machine_Full_sim (K := K) hc)
    · cases hc
  | false =>
  rw [hb] at hc
  simp only [cond_false] at hc
  cases hb : Nat.beq f 14 with
  | true =>
    rw [hb] at hc
    simp only [cond_true] at hc
    obtain rfl := Nat.eq_of_beq_eq_true hb
    split at hc
    · exact any_call (F_dle_Machine_Bytes_sim (K := K) hc)
    · cases hc
  | false =>
  rw [hb] at hc
  simp only [cond_false] at hc
  cases hb : Nat.beq f 13 with
  | true =>
    rw [hb] at hc
    simp only [cond_true] at hc
    obtain rfl := Nat.eq_of_beq_eq_true hb
    split at hc
    · exact any_call (F_ref01_Same_sim (K := K) hc)
    · cases hc
  | false =>
  rw [hb] at hc
  simp only [cond_false] at hc
  cases hb : Nat.beq f 18 with
  | true =>
    rw [hb] at hc
    simp only [cond_true] at hc
    obtain rfl := Nat.eq_of_beq_eq_true hb
    split at hc
    · exact any_call (F_law13_lives_sim (K := K) hc)
    · cases hc
  | false =>
  rw [hb] at hc
  simp only [cond_false] at hc
  cases hc
set_option maxRecDepth 100000 in
theorem F_law13_DleBack_sim {R : Nat} {r : β} {a1 : Sl} {a2 : Int} {h : GH} {K : Value → GH → Option β} (hc : F_law13_DleBack R a1 a2 h (fun q0 h' => K (Value.bool q0) h') = some r) : ∃ v h', K v h' = some r ∧ CallSim Try.prog 6 [Value.slice a1.a a1.n a1.c, Value.int .i64 a2] h v h' := by
  unfold F_law13_DleBack G_law13_DleBack at hc
  obtain ⟨v, h', hk, hs⟩ := gfun_sim (CF_law13_DleBack_sim (R := R)) mixed_ok (fun f h => by cases h) Try.func6 (by kernel_rfl) hc
  obtain ⟨u0, e0, hk⟩ := exB_v hk; cases e0
  exact ⟨_, h', hk, hs⟩
end
end Go.Proofs.Ytplkdjbcdeakaaa.Gx
