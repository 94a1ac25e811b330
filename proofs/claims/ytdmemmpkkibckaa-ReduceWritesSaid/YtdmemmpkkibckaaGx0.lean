/- Functions of the program as the plain machine has them, each with its equation. Printed by a program of this place (wip/gx/gx.py) out of the translation. No condition. -/
import Derived.Test.YtdmemmpkkibckaaGxQ
import Derived.Test.YtdmemmpkkibckaaProg
namespace Go.Proofs.Ytdmemmpkkibckaa.Gx
open Go
set_option linter.unusedVariables false
theorem mixed_ok : Try.prog.follows .mixedOrders = true := by kernel_rfl
section
variable {β : Type}
noncomputable def Str0 : ByteArray := ⟨([0, 1, 2, 2, 3, 3, 3, 3, 4, 4, 4, 4, 4, 4, 4, 4, 5, 5, 5, 5, 5, 5, 5, 5, 5, 5, 5, 5, 5, 5, 5, 5, 6, 6, 6, 6, 6, 6, 6, 6, 6, 6, 6, 6, 6, 6, 6, 6, 6, 6, 6, 6, 6, 6, 6, 6, 6, 6, 6, 6, 6, 6, 6, 6, 7, 7, 7, 7, 7, 7, 7, 7, 7, 7, 7, 7, 7, 7, 7, 7, 7, 7, 7, 7, 7, 7, 7, 7, 7, 7, 7, 7, 7, 7, 7, 7, 7, 7, 7, 7, 7, 7, 7, 7, 7, 7, 7, 7, 7, 7, 7, 7, 7, 7, 7, 7, 7, 7, 7, 7, 7, 7, 7, 7, 7, 7, 7, 7, 8, 8, 8, 8, 8, 8, 8, 8, 8, 8, 8, 8, 8, 8, 8, 8, 8, 8, 8, 8, 8, 8, 8, 8, 8, 8, 8, 8, 8, 8, 8, 8, 8, 8, 8, 8, 8, 8, 8, 8, 8, 8, 8, 8, 8, 8, 8, 8, 8, 8, 8, 8, 8, 8, 8, 8, 8, 8, 8, 8, 8, 8, 8, 8, 8, 8, 8, 8, 8, 8, 8, 8, 8, 8, 8, 8, 8, 8, 8, 8, 8, 8, 8, 8, 8, 8, 8, 8, 8, 8, 8, 8, 8, 8, 8, 8, 8, 8, 8, 8, 8, 8, 8, 8, 8, 8, 8, 8, 8, 8, 8, 8, 8, 8, 8, 8, 8, 8, 8, 8, 8, 8, 8, 8, 8, 8, 8, 8] : List UInt8).toArray⟩
/-- internal/bytealg.IndexByte: the first place of a byte -/
def F_internal_bytealg_IndexByte (a1 : Sl) (a2 : Int) (h : GH) (K : Int → GH → Option β) : Option β := slCells ⟨a1.a, a1.n, a1.c⟩ 1 h fun vs => exBs vs fun xs => K (gIdx xs a2 0) h
theorem F_internal_bytealg_IndexByte_sim {r : β} {a1 : Sl} {a2 : Int} {h : GH} {K : Value → GH → Option β} (hc : F_internal_bytealg_IndexByte a1 a2 h (fun q1 h' => K (Value.int .i64 q1) h') = some r) : ∃ v h', K v h' = some r ∧ ExtSim Try.prog 76 [Value.slice a1.a a1.n a1.c, Value.int .u8 a2] h v h' := xIndexByte_sim (args := [Value.slice a1.a a1.n a1.c, Value.int .u8 a2]) Try.func76 (by kernel_rfl) (by kernel_rfl) (by kernel_rfl) (by kernel_rfl) hc
noncomputable def Z40 : List Value := match zeroT Try.prog 40 with | some v => vcells v | none => []
noncomputable def Z94 : List Value := match zeroT Try.prog 94 with | some v => vcells v | none => []
noncomputable def Z92 : List Value := match zeroT Try.prog 92 with | some v => vcells v | none => []
/-! F8 duffel/duffelref01.Cut -/
def CF_ref01_Cut  : Orc β := fun f args h K => none
def HF_ref01_Cut : Hints := ⟨[], [], []⟩
noncomputable def G_ref01_Cut  (R : Nat) (a1 : Sl) (a2 : Int) (h : GH) (K : Sl → GH → Option β) : Option β := gfun Try.prog (CF_ref01_Cut ) HF_ref01_Cut R Try.f8 [Value.slice a1.a a1.n a1.c, Value.int .i64 a2] h (fun v h' => exS (some v) fun u5 => K u5 h')
set_option maxRecDepth 100000 in
theorem F_ref01_Cut_gen  (R : Nat) (a1 : Sl) (a2 : Int) (h : GH) (K : Sl → GH → Option β) : G_ref01_Cut  R a1 a2 h K =
    (bif decide (((a1.n : Nat) : Int) > a2) then bnd a2 a1.c fun m3 => K ⟨addO a1.a (0 * 1), m3 - 0, a1.c - 0⟩ h else K a1 h) := by kernel_rfl
noncomputable def F_ref01_Cut (R : Nat) (a1 : Sl) (a2 : Int) (h : GH) (K : Sl → GH → Option β) : Option β := G_ref01_Cut  R a1 a2 h K
theorem CF_ref01_Cut_sim : SimOrc Try.prog (CF_ref01_Cut (β := β)) := by
  intro f args h K r hc
  cases hc
set_option maxRecDepth 100000 in
theorem F_ref01_Cut_sim {R : Nat} {r : β} {a1 : Sl} {a2 : Int} {h : GH} {K : Value → GH → Option β} (hc : F_ref01_Cut R a1 a2 h (fun q0 h' => K (Value.slice q0.a q0.n q0.c) h') = some r) : ∃ v h', K v h' = some r ∧ CallSim Try.prog 8 [Value.slice a1.a a1.n a1.c, Value.int .i64 a2] h v h' := by
  unfold F_ref01_Cut G_ref01_Cut at hc
  obtain ⟨v, h', hk, hs⟩ := gfun_sim CF_ref01_Cut_sim mixed_ok (fun f h => by cases h) Try.func8 (by kernel_rfl) hc
  obtain ⟨u0, e0, hk⟩ := exS_v hk; cases e0
  exact ⟨_, h', hk, hs⟩
/-! F9 duffel/duffelref01.Copy -/
def CF_ref01_Copy  : Orc β := fun f args h K => none
def HF_ref01_Copy : Hints := ⟨[], [], []⟩
noncomputable def G_ref01_Copy  (R : Nat) (a1 : Sl) (h : GH) (K : Sl → GH → Option β) : Option β := gfun Try.prog (CF_ref01_Copy ) HF_ref01_Copy R Try.f9 [Value.slice a1.a a1.n a1.c] h (fun v h' => exS (some v) fun u5 => K u5 h')
set_option maxRecDepth 100000 in
theorem F_ref01_Copy_gen  (R : Nat) (a1 : Sl) (h : GH) (K : Sl → GH → Option β) : G_ref01_Copy  R a1 h K =
    gappS 1 1 ⟨none, 0, 0⟩ a1 h fun s2 h3 => K s2 h3 := by kernel_rfl
noncomputable def F_ref01_Copy (R : Nat) (a1 : Sl) (h : GH) (K : Sl → GH → Option β) : Option β := G_ref01_Copy  R a1 h K
theorem CF_ref01_Copy_sim : SimOrc Try.prog (CF_ref01_Copy (β := β)) := by
  intro f args h K r hc
  cases hc
set_option maxRecDepth 100000 in
theorem F_ref01_Copy_sim {R : Nat} {r : β} {a1 : Sl} {h : GH} {K : Value → GH → Option β} (hc : F_ref01_Copy R a1 h (fun q0 h' => K (Value.slice q0.a q0.n q0.c) h') = some r) : ∃ v h', K v h' = some r ∧ CallSim Try.prog 9 [Value.slice a1.a a1.n a1.c] h v h' := by
  unfold F_ref01_Copy G_ref01_Copy at hc
  obtain ⟨v, h', hk, hs⟩ := gfun_sim CF_ref01_Copy_sim mixed_ok (fun f h => by cases h) Try.func9 (by kernel_rfl) hc
  obtain ⟨u0, e0, hk⟩ := exS_v hk; cases e0
  exact ⟨_, h', hk, hs⟩
/-! F42 duffel/dle.right -/
def CF_dle_right  : Orc β := fun f args h K => none
def HF_dle_right : Hints := ⟨[], [], []⟩
noncomputable def G_dle_right  (R : Nat) (a1 : Int) (h : GH) (K : Bool → GH → Option β) : Option β := gfun Try.prog (CF_dle_right ) HF_dle_right R Try.f42 [Value.int .i64 a1] h (fun v h' => exB (some v) fun u3 => K u3 h')
set_option maxRecDepth 100000 in
theorem F_dle_right_gen  (R : Nat) (a1 : Int) (h : GH) (K : Bool → GH → Option β) : G_dle_right  R a1 h K =
    (bif decide (a1 ≥ 1) then K (decide (a1 ≤ 4)) h else K false h) := by kernel_rfl
noncomputable def F_dle_right (R : Nat) (a1 : Int) (h : GH) (K : Bool → GH → Option β) : Option β := G_dle_right  R a1 h K
theorem CF_dle_right_sim : SimOrc Try.prog (CF_dle_right (β := β)) := by
  intro f args h K r hc
  cases hc
set_option maxRecDepth 100000 in
theorem F_dle_right_sim {R : Nat} {r : β} {a1 : Int} {h : GH} {K : Value → GH → Option β} (hc : F_dle_right R a1 h (fun q0 h' => K (Value.bool q0) h') = some r) : ∃ v h', K v h' = some r ∧ CallSim Try.prog 42 [Value.int .i64 a1] h v h' := by
  unfold F_dle_right G_dle_right at hc
  obtain ⟨v, h', hk, hs⟩ := gfun_sim CF_dle_right_sim mixed_ok (fun f h => by cases h) Try.func42 (by kernel_rfl) hc
  obtain ⟨u0, e0, hk⟩ := exB_v hk; cases e0
  exact ⟨_, h', hk, hs⟩
/-! F43 duffel/dle.mask -/
def CF_dle_mask  : Orc β := fun f args h K => none
def HF_dle_mask : Hints := ⟨[], [], []⟩
noncomputable def G_dle_mask  (R : Nat) (a1 : Int) (h : GH) (K : Int → GH → Option β) : Option β := gfun Try.prog (CF_dle_mask ) HF_dle_mask R Try.f43 [Value.int .i64 a1] h (fun v h' => exI .i64 (some v) fun u3 => K u3 h')
set_option maxRecDepth 100000 in
theorem F_dle_mask_gen  (R : Nat) (a1 : Int) (h : GH) (K : Int → GH → Option β) : G_dle_mask  R a1 h K =
    (bif decide ((IntKind.wrap .i64 (8 - a1)) < 0) then none else K (IntKind.wrap .i64 ((shlI .i64 1 (IntKind.wrap .i64 (8 - a1))) - 1)) h) := by kernel_rfl
noncomputable def F_dle_mask (R : Nat) (a1 : Int) (h : GH) (K : Int → GH → Option β) : Option β := G_dle_mask  R a1 h K
theorem CF_dle_mask_sim : SimOrc Try.prog (CF_dle_mask (β := β)) := by
  intro f args h K r hc
  cases hc
set_option maxRecDepth 100000 in
theorem F_dle_mask_sim {R : Nat} {r : β} {a1 : Int} {h : GH} {K : Value → GH → Option β} (hc : F_dle_mask R a1 h (fun q0 h' => K (Value.int .i64 q0) h') = some r) : ∃ v h', K v h' = some r ∧ CallSim Try.prog 43 [Value.int .i64 a1] h v h' := by
  unfold F_dle_mask G_dle_mask at hc
  obtain ⟨v, h', hk, hs⟩ := gfun_sim CF_dle_mask_sim mixed_ok (fun f h => by cases h) Try.func43 (by kernel_rfl) hc
  obtain ⟨u0, e0, hk⟩ := exI_v hk; cases e0
  exact ⟨_, h', hk, hs⟩
/-! F73 duffel/finder.Check -/
def CF_finder_Check  : Orc β := fun f args h K => none
def HF_finder_Check : Hints := ⟨[], [], []⟩
noncomputable def G_finder_Check  (R : Nat) (a1 : Int) (a2 : Int) (a3 : Int) (a4 : Int) (a5 : Bool) (h : GH) (K : Int → GH → Option β) : Option β := gfun Try.prog (CF_finder_Check ) HF_finder_Check R Try.f73 [Value.agg #[Value.int .i64 a1, Value.int .i64 a2, Value.int .i64 a3, Value.int .i64 a4, Value.bool a5]] h (fun v h' => exI .i64 (some v) fun u18 => K u18 h')
set_option maxRecDepth 100000 in
theorem F_finder_Check_gen  (R : Nat) (a1 : Int) (a2 : Int) (a3 : Int) (a4 : Int) (a5 : Bool) (h : GH) (K : Int → GH → Option β) : G_finder_Check  R a1 a2 a3 a4 a5 h K =
    gnew [Value.int .i64 a1, Value.int .i64 a2, Value.int .i64 a3, Value.int .i64 a4, Value.bool a5] 0 h fun g6 h7 => exI .i64 (h7.cell ⟨g6, 0 + 0, none⟩) fun x8 => (bif decide (x8 < 1) then K 2 h7 else exI .i64 (h7.cell ⟨g6, 0 + 0, none⟩) fun x9 => (bif decide (x9 > 65536) then K 2 h7 else exI .i64 (h7.cell ⟨g6, 0 + 1, none⟩) fun x10 => (bif decide (x10 < 2) then K 2 h7 else exI .i64 (h7.cell ⟨g6, 0 + 1, none⟩) fun x11 => (bif decide (x11 > 3) then K 2 h7 else exI .i64 (h7.cell ⟨g6, 0 + 2, none⟩) fun x12 => exI .i64 (h7.cell ⟨g6, 0 + 1, none⟩) fun x13 => (bif decide (x12 < x13) then K 2 h7 else exI .i64 (h7.cell ⟨g6, 0 + 2, none⟩) fun x14 => (bif decide (x14 > 65538) then K 2 h7 else exI .i64 (h7.cell ⟨g6, 0 + 3, none⟩) fun x15 => (bif decide (x15 < 0) then K 2 h7 else exI .i64 (h7.cell ⟨g6, 0 + 3, none⟩) fun x16 => (bif decide (x16 > 4096) then K 2 h7 else K 0 h7)))))))) := by kernel_rfl
noncomputable def F_finder_Check (R : Nat) (a1 : Int) (a2 : Int) (a3 : Int) (a4 : Int) (a5 : Bool) (h : GH) (K : Int → GH → Option β) : Option β := G_finder_Check  R a1 a2 a3 a4 a5 h K
theorem CF_finder_Check_sim : SimOrc Try.prog (CF_finder_Check (β := β)) := by
  intro f args h K r hc
  cases hc
set_option maxRecDepth 100000 in
theorem F_finder_Check_sim {R : Nat} {r : β} {a1 : Int} {a2 : Int} {a3 : Int} {a4 : Int} {a5 : Bool} {h : GH} {K : Value → GH → Option β} (hc : F_finder_Check R a1 a2 a3 a4 a5 h (fun q0 h' => K (Value.int .i64 q0) h') = some r) : ∃ v h', K v h' = some r ∧ CallSim Try.prog 73 [Value.agg #[Value.int .i64 a1, Value.int .i64 a2, Value.int .i64 a3, Value.int .i64 a4, Value.bool a5]] h v h' := by
  unfold F_finder_Check G_finder_Check at hc
  obtain ⟨v, h', hk, hs⟩ := gfun_sim CF_finder_Check_sim mixed_ok (fun f h => by cases h) Try.func73 (by kernel_rfl) hc
  obtain ⟨u0, e0, hk⟩ := exI_v hk; cases e0
  exact ⟨_, h', hk, hs⟩
/-! F88 (*duffel/finder.finder).key -/
def CF_finder_finder_key  : Orc β := fun f args h K => none
def HF_finder_finder_key : Hints := ⟨[], [], []⟩
noncomputable def G_finder_finder_key  (R : Nat) (a1 : Option Addr) (a2 : Int) (h : GH) (K : Int → Int → Int → Bool → GH → Option β) : Option β := gfun Try.prog (CF_finder_finder_key ) HF_finder_finder_key R Try.f88 [Value.pointer a1, Value.int .i64 a2] h (fun v h' => exTup 2 v fun vs => exV (nth vs 0) fun v0 => exAg v0 fun c41 => (bif Nat.beq c41.length 3 then exI .u8 (nth c41 (0)) fun u42 => exI .u8 (nth c41 (0 + 1)) fun u43 => exI .u8 (nth c41 (0 + 1 + 1)) fun u44 => exV (nth vs 1) fun v1 => exB (some v1) fun u45 => K u42 u43 u44 u45 h' else none))
set_option maxRecDepth 100000 in
theorem F_finder_finder_key_gen  (R : Nat) (a1 : Option Addr) (a2 : Int) (h : GH) (K : Int → Int → Int → Bool → GH → Option β) : G_finder_finder_key  R a1 a2 h K =
    gnew [Value.int .u8 0, Value.int .u8 0, Value.int .u8 0] 0 h fun g3 h4 => gnew [Value.int .u8 0, Value.int .u8 0, Value.int .u8 0] 0 h4 fun g5 h6 => exA a1 fun g7 o8 => exI .i64 (h6.cell ⟨g7, o8 + 0 + 1, none⟩) fun x9 => exA a1 fun g10 o11 => exS (h6.cell ⟨g10, o11 + 5, none⟩) fun x12 => (bif decide ((IntKind.wrap .i64 (a2 + x9)) > ((x12.n : Nat) : Int)) then exI .u8 (h6.cell ⟨g5, 0, none⟩) fun x13 => exI .u8 (h6.cell ⟨g5, 0 + 1, none⟩) fun x14 => exI .u8 (h6.cell ⟨g5, 0 + 1 + 1, none⟩) fun x15 => gput g3 (0) [Value.int .u8 x13, Value.int .u8 x14, Value.int .u8 x15] h6 fun h16 => exI .u8 (h16.cell ⟨g3, 0, none⟩) fun x17 => exI .u8 (h16.cell ⟨g3, 0 + 1, none⟩) fun x18 => exI .u8 (h16.cell ⟨g3, 0 + 1 + 1, none⟩) fun x19 => K x17 x18 x19 false h16 else exA a1 fun g20 o21 => exS (h6.cell ⟨g20, o21 + 5, none⟩) fun x22 => exA a1 fun g23 o24 => exI .i64 (h6.cell ⟨g23, o24 + 0 + 1, none⟩) fun x25 => bnd (IntKind.wrap .i64 (a2 + x25)) x22.c fun m26 => bnd a2 m26 fun m27 => gcopy 1 ⟨(some ⟨g5, bif Nat.beq 3 0 then 0 else 0 + 0 * 1, none⟩), 3 - 0, 3 - 0⟩ ⟨addO x22.a (m27 * 1), m26 - m27, x22.c - m27⟩ h6 fun x28 h29 => exI .u8 (h29.cell ⟨g5, 0, none⟩) fun x30 => exI .u8 (h29.cell ⟨g5, 0 + 1, none⟩) fun x31 => exI .u8 (h29.cell ⟨g5, 0 + 1 + 1, none⟩) fun x32 => gput g3 (0) [Value.int .u8 x30, Value.int .u8 x31, Value.int .u8 x32] h29 fun h33 => exI .u8 (h33.cell ⟨g3, 0, none⟩) fun x34 => exI .u8 (h33.cell ⟨g3, 0 + 1, none⟩) fun x35 => exI .u8 (h33.cell ⟨g3, 0 + 1 + 1, none⟩) fun x36 => K x34 x35 x36 true h33) := by kernel_rfl
noncomputable def F_finder_finder_key (R : Nat) (a1 : Option Addr) (a2 : Int) (h : GH) (K : Int → Int → Int → Bool → GH → Option β) : Option β := G_finder_finder_key  R a1 a2 h K
theorem CF_finder_finder_key_sim : SimOrc Try.prog (CF_finder_finder_key (β := β)) := by
  intro f args h K r hc
  cases hc
set_option maxRecDepth 100000 in
theorem F_finder_finder_key_sim {R : Nat} {r : β} {a1 : Option Addr} {a2 : Int} {h : GH} {K : Value → GH → Option β} (hc : F_finder_finder_key R a1 a2 h (fun q0 q1 q2 q3 h' => K (Value.tuple #[Value.agg #[Value.int .u8 q0, Value.int .u8 q1, Value.int .u8 q2], Value.bool q3]) h') = some r) : ∃ v h', K v h' = some r ∧ CallSim Try.prog 88 [Value.pointer a1, Value.int .i64 a2] h v h' := by
  unfold F_finder_finder_key G_finder_finder_key at hc
  obtain ⟨v, h', hk, hs⟩ := gfun_sim CF_finder_finder_key_sim mixed_ok (fun f h => by cases h) Try.func88 (by kernel_rfl) hc
  obtain ⟨vs, rfl, hl, hk⟩ := exTup_v hk
  obtain ⟨v0, t0, hk⟩ := exV_v hk
  obtain ⟨cs0, f0, hk⟩ := exAg_v hk; cases f0; obtain ⟨hl0, hk⟩ := beq_v hk
  obtain ⟨u1, e1, hk⟩ := exI_v hk
  obtain ⟨u2, e2, hk⟩ := exI_v hk
  obtain ⟨u3, e3, hk⟩ := exI_v hk
  obtain rfl := arr3 hl0 e1 e2 e3
  obtain ⟨v1, t1, hk⟩ := exV_v hk
  obtain ⟨u4, e4, hk⟩ := exB_v hk; cases e4
  obtain rfl := arr2 hl t0 t1
  exact ⟨_, h', hk, hs⟩
/-! F87 (*duffel/finder.finder).enter -/
def CF_finder_finder_enter (F_finder_finder_key : Option Addr → Int → GH → (Int → Int → Int → Bool → GH → Option β) → Option β) : Orc β := fun f args h K => bif Nat.beq f 88 then (match args with | [.pointer p1, .int .i64 p2] => F_finder_finder_key p1 p2 h (fun q37 q38 q39 q40 h' => K (Value.tuple #[Value.agg #[Value.int .u8 q37, Value.int .u8 q38, Value.int .u8 q39], Value.bool q40]) h') | _ => none) else none
def HF_finder_finder_enter : Hints := ⟨[(0, [0, 1], [(0, [])], none)], [], []⟩
noncomputable def BF_finder_finder_enter : Code := match Try.f87.body with | some c => c | none => .skip
noncomputable def F_finder_finder_enter_l0 (F_finder_finder_key : Option Addr → Int → GH → (Int → Int → Int → Bool → GH → Option β) → Option β) (R : Nat) (n : Nat) (y3 : Option Addr) (y4 : Int) (h : GH) (K0 : GH → Option β) : Option β := gloop (gcode Try.prog (CF_finder_finder_enter F_finder_finder_key) Try.f87.ntmps HF_finder_finder_enter R (at_ [false, false] BF_finder_finder_enter)) [0, 1] n [(0, Value.pointer y3), (1, Value.int .i64 y4)] h (fun i e' h' => bif Nat.beq i 0 then (K0 h') else none) (fun e' h' => none)
set_option maxRecDepth 100000 in
theorem F_finder_finder_enter_l0_succ (F_finder_finder_key : Option Addr → Int → GH → (Int → Int → Int → Bool → GH → Option β) → Option β) (R : Nat) (n : Nat) (y3 : Option Addr) (y4 : Int) (h : GH) (K0 : GH → Option β) : F_finder_finder_enter_l0 F_finder_finder_key R (n + 1) y3 y4 h K0 =
    exA y3 fun g5 o6 => exI .i64 (h.cell ⟨g5, o6 + 8, none⟩) fun x7 => (bif decide (x7 < y4) then exA y3 fun g8 o9 => exI .i64 (h.cell ⟨g8, o9 + 8, none⟩) fun x10 => F_finder_finder_key y3 x10 h fun r11 r12 r13 r14 h15 => gnew [Value.int .u8 0, Value.int .u8 0, Value.int .u8 0] 0 h15 fun g16 h17 => gput g16 (0) [Value.int .u8 r11, Value.int .u8 r12, Value.int .u8 r13] h17 fun h18 => (bif r14 then exA y3 fun g19 o20 => exS (h18.cell ⟨g19, o20 + 7, none⟩) fun x21 => exA y3 fun g22 o23 => exI .i64 (h18.cell ⟨g22, o23 + 8, none⟩) fun x24 => exA y3 fun g25 o26 => exV (h18.cell ⟨g25, o26 + 6, none⟩) fun x27 => exI .u8 (h18.cell ⟨g16, 0, none⟩) fun x28 => exI .u8 (h18.cell ⟨g16, 0 + 1, none⟩) fun x29 => exI .u8 (h18.cell ⟨g16, 0 + 1 + 1, none⟩) fun x30 => glookI Try.prog 135 .i64 x27 (Value.agg #[Value.int .u8 x28, Value.int .u8 x29, Value.int .u8 x30]) h18 fun x31 => exA x21.a fun g32 o33 => within x24 x21.n (gput g32 (o33 + x24.toNat * 1) [Value.int .i64 x31] h18 fun h34 => (bif sameAt g22 (o23 + 8) 1 h18 h18 then (bif sameAt g19 (o20 + 7) 1 h18 h18 then exA y3 fun g35 o36 => exV (h34.cell ⟨g35, o36 + 6, none⟩) fun x37 => exI .u8 (h34.cell ⟨g16, 0, none⟩) fun x38 => exI .u8 (h34.cell ⟨g16, 0 + 1, none⟩) fun x39 => exI .u8 (h34.cell ⟨g16, 0 + 1 + 1, none⟩) fun x40 => exA y3 fun g41 o42 => exI .i64 (h34.cell ⟨g41, o42 + 8, none⟩) fun x43 => gmapSet Try.prog 135 x37 (Value.agg #[Value.int .u8 x38, Value.int .u8 x39, Value.int .u8 x40]) (Value.int .i64 (IntKind.wrap .i64 (x43 + 1))) h34 fun h44 => exA y3 fun g45 o46 => exI .i64 (h44.cell ⟨g45, o46 + 8, none⟩) fun x47 => exA y3 fun g48 o49 => gput g48 (o49 + 8) [Value.int .i64 (IntKind.wrap .i64 (x47 + 1))] h44 fun h50 => F_finder_finder_enter_l0 F_finder_finder_key R n y3 y4 h50 K0 else none) else none)) else exA y3 fun g51 o52 => exI .i64 (h18.cell ⟨g51, o52 + 8, none⟩) fun x53 => exA y3 fun g54 o55 => gput g54 (o55 + 8) [Value.int .i64 (IntKind.wrap .i64 (x53 + 1))] h18 fun h56 => F_finder_finder_enter_l0 F_finder_finder_key R n y3 y4 h56 K0) else K0 h) := by kernel_rfl
noncomputable def G_finder_finder_enter (F_finder_finder_key : Option Addr → Int → GH → (Int → Int → Int → Bool → GH → Option β) → Option β) (R : Nat) (a1 : Option Addr) (a2 : Int) (h : GH) (K : GH → Option β) : Option β := gfun Try.prog (CF_finder_finder_enter F_finder_finder_key) HF_finder_finder_enter R Try.f87 [Value.pointer a1, Value.int .i64 a2] h (fun _ h' => K h')
set_option maxRecDepth 100000 in
theorem F_finder_finder_enter_gen (F_finder_finder_key : Option Addr → Int → GH → (Int → Int → Int → Bool → GH → Option β) → Option β) (R : Nat) (a1 : Option Addr) (a2 : Int) (h : GH) (K : GH → Option β) : G_finder_finder_enter F_finder_finder_key R a1 a2 h K =
    F_finder_finder_enter_l0 F_finder_finder_key R R a1 a2 h (fun h57 => K h57) := by kernel_rfl
noncomputable def F_finder_finder_enter (R : Nat) (a1 : Option Addr) (a2 : Int) (h : GH) (K : GH → Option β) : Option β := G_finder_finder_enter (F_finder_finder_key R) R a1 a2 h K
set_option maxRecDepth 100000 in
theorem CF_finder_finder_enter_sim {R : Nat} : SimOrc Try.prog (CF_finder_finder_enter (F_finder_finder_key R) (β := β)) := by
  intro f args h K r hc
  unfold CF_finder_finder_enter at hc
  cases hb : Nat.beq f 88 with
  | true =>
    rw [hb] at hc
    simp only [cond_true] at hc
    obtain rfl := Nat.eq_of_beq_eq_true hb
    split at hc
    · exact any_call (F_finder_finder_key_sim (K := K) hc)
    · cases hc
  | false =>
  rw [hb] at hc
  simp only [cond_false] at hc
  cases hc
set_option maxRecDepth 100000 in
theorem F_finder_finder_enter_sim {R : Nat} {r : β} {a1 : Option Addr} {a2 : Int} {h : GH} {K : Value → GH → Option β} (hc : F_finder_finder_enter R a1 a2 h (fun h' => K (Value.tuple #[]) h') = some r) : ∃ v h', K v h' = some r ∧ CallSim Try.prog 87 [Value.pointer a1, Value.int .i64 a2] h v h' := by
  unfold F_finder_finder_enter G_finder_finder_enter at hc
  obtain ⟨v, h', hk, hs⟩ := gfun_sim (CF_finder_finder_enter_sim (R := R)) mixed_ok (fun f h => by cases h) Try.func87 (by kernel_rfl) hc
  exact ⟨_, h', hk, hs.unit⟩
/-! F89 (*duffel/finder.finder).length -/
def CF_finder_finder_length  : Orc β := fun f args h K => none
def HF_finder_finder_length : Hints := ⟨[(2, [0, 1, 2, 7], [(0, [(7, .ty 3)])], none)], [], []⟩
noncomputable def BF_finder_finder_length : Code := match Try.f89.body with | some c => c | none => .skip
noncomputable def F_finder_finder_length_l0  (R : Nat) (n : Nat) (y4 : Option Addr) (y5 : Int) (y6 : Int) (y7 : Int) (h : GH) (K0 : Int → GH → Option β) : Option β := gloop (gcode Try.prog (CF_finder_finder_length ) Try.f89.ntmps HF_finder_finder_length R (at_ [true, true, false, false, false] BF_finder_finder_length)) [0, 1, 2, 7] n [(0, Value.pointer y4), (1, Value.int .i64 y5), (2, Value.int .i64 y6), (7, Value.int .i64 y7)] h (fun i e' h' => bif Nat.beq i 0 then (exI .i64 (some (e'.get 7)) fun u30 => K0 u30 h') else none) (fun e' h' => none)
set_option maxRecDepth 100000 in
theorem F_finder_finder_length_l0_succ  (R : Nat) (n : Nat) (y4 : Option Addr) (y5 : Int) (y6 : Int) (y7 : Int) (h : GH) (K0 : Int → GH → Option β) : F_finder_finder_length_l0  R (n + 1) y4 y5 y6 y7 h K0 =
    exA y4 fun g9 o10 => exI .i64 (h.cell ⟨g9, o10 + 0 + 2, none⟩) fun x11 => (bif decide (y7 < x11) then exA y4 fun g12 o13 => exS (h.cell ⟨g12, o13 + 5, none⟩) fun x14 => (bif decide ((IntKind.wrap .i64 (y6 + y7)) < ((x14.n : Nat) : Int)) then exA y4 fun g15 o16 => exS (h.cell ⟨g15, o16 + 5, none⟩) fun x17 => exA x17.a fun g18 o19 => within (IntKind.wrap .i64 (y5 + y7)) x17.n (exI .u8 (h.cell ⟨g18, o19 + (IntKind.wrap .i64 (y5 + y7)).toNat * 1, none⟩) fun x20 => exA y4 fun g21 o22 => exS (h.cell ⟨g21, o22 + 5, none⟩) fun x23 => exA x23.a fun g24 o25 => within (IntKind.wrap .i64 (y6 + y7)) x23.n (exI .u8 (h.cell ⟨g24, o25 + (IntKind.wrap .i64 (y6 + y7)).toNat * 1, none⟩) fun x26 => (bif x20 == x26 then F_finder_finder_length_l0 R n y4 y5 y6 (IntKind.wrap .i64 (y7 + 1)) h K0 else K0 y7 h))) else K0 y7 h) else K0 y7 h) := by kernel_rfl
noncomputable def G_finder_finder_length  (R : Nat) (a1 : Option Addr) (a2 : Int) (a3 : Int) (h : GH) (K : Int → GH → Option β) : Option β := gfun Try.prog (CF_finder_finder_length ) HF_finder_finder_length R Try.f89 [Value.pointer a1, Value.int .i64 a2, Value.int .i64 a3] h (fun v h' => exI .i64 (some v) fun u31 => K u31 h')
set_option maxRecDepth 100000 in
theorem F_finder_finder_length_gen  (R : Nat) (a1 : Option Addr) (a2 : Int) (a3 : Int) (h : GH) (K : Int → GH → Option β) : G_finder_finder_length  R a1 a2 a3 h K =
    F_finder_finder_length_l0 R R a1 a2 a3 0 h (fun w27 h28 => K w27 h28) := by kernel_rfl
noncomputable def F_finder_finder_length (R : Nat) (a1 : Option Addr) (a2 : Int) (a3 : Int) (h : GH) (K : Int → GH → Option β) : Option β := G_finder_finder_length  R a1 a2 a3 h K
theorem CF_finder_finder_length_sim : SimOrc Try.prog (CF_finder_finder_length (β := β)) := by
  intro f args h K r hc
  cases hc
set_option maxRecDepth 100000 in
theorem F_finder_finder_length_sim {R : Nat} {r : β} {a1 : Option Addr} {a2 : Int} {a3 : Int} {h : GH} {K : Value → GH → Option β} (hc : F_finder_finder_length R a1 a2 a3 h (fun q0 h' => K (Value.int .i64 q0) h') = some r) : ∃ v h', K v h' = some r ∧ CallSim Try.prog 89 [Value.pointer a1, Value.int .i64 a2, Value.int .i64 a3] h v h' := by
  unfold F_finder_finder_length G_finder_finder_length at hc
  obtain ⟨v, h', hk, hs⟩ := gfun_sim CF_finder_finder_length_sim mixed_ok (fun f h => by cases h) Try.func89 (by kernel_rfl) hc
  obtain ⟨u0, e0, hk⟩ := exI_v hk; cases e0
  exact ⟨_, h', hk, hs⟩
/-! F74 (*duffel/finder.finder).at -/
def CF_finder_finder_at (F_finder_finder_enter : Option Addr → Int → GH → (GH → Option β) → Option β) (F_finder_finder_key : Option Addr → Int → GH → (Int → Int → Int → Bool → GH → Option β) → Option β) (F_finder_finder_length : Option Addr → Int → Int → GH → (Int → GH → Option β) → Option β) : Orc β := fun f args h K => bif Nat.beq f 87 then (match args with | [.pointer p1, .int .i64 p2] => F_finder_finder_enter p1 p2 h (fun h' => K (Value.tuple #[]) h') | _ => none) else (bif Nat.beq f 88 then (match args with | [.pointer p1, .int .i64 p2] => F_finder_finder_key p1 p2 h (fun q37 q38 q39 q40 h' => K (Value.tuple #[Value.agg #[Value.int .u8 q37, Value.int .u8 q38, Value.int .u8 q39], Value.bool q40]) h') | _ => none) else (bif Nat.beq f 89 then (match args with | [.pointer p1, .int .i64 p2, .int .i64 p3] => F_finder_finder_length p1 p2 p3 h (fun q29 h' => K (Value.int .i64 q29) h') | _ => none) else none))
def HF_finder_finder_at : Hints := ⟨[(8, [0, 1, 4, 5, 8, 9], [(0, [(4, .ty 15), (5, .ty 15)])], none)], [], []⟩
noncomputable def BF_finder_finder_at : Code := match Try.f74.body with | some c => c | none => .skip
noncomputable def F_finder_finder_at_l0 (F_finder_finder_enter : Option Addr → Int → GH → (GH → Option β) → Option β) (F_finder_finder_key : Option Addr → Int → GH → (Int → Int → Int → Bool → GH → Option β) → Option β) (F_finder_finder_length : Option Addr → Int → Int → GH → (Int → GH → Option β) → Option β) (R : Nat) (n : Nat) (y30 : Option Addr) (y31 : Int) (y32 : Option Addr) (y33 : Option Addr) (y34 : Int) (y35 : Int) (h : GH) (K0 : Option Addr → Option Addr → GH → Option β) : Option β := gloop (gcode Try.prog (CF_finder_finder_at F_finder_finder_enter F_finder_finder_key F_finder_finder_length) Try.f74.ntmps HF_finder_finder_at R (at_ [true, true, true, true, true, true, false, true, false, false] BF_finder_finder_at)) [0, 1, 4, 5, 8, 9] n [(0, Value.pointer y30), (1, Value.int .i64 y31), (4, Value.pointer y32), (5, Value.pointer y33), (8, Value.int .i64 y34), (9, Value.int .i64 y35)] h (fun i e' h' => bif Nat.beq i 0 then (exP (some (e'.get 4)) fun u95 => exP (some (e'.get 5)) fun u96 => K0 u95 u96 h') else none) (fun e' h' => none)
set_option maxRecDepth 100000 in
theorem F_finder_finder_at_l0_succ (F_finder_finder_enter : Option Addr → Int → GH → (GH → Option β) → Option β) (F_finder_finder_key : Option Addr → Int → GH → (Int → Int → Int → Bool → GH → Option β) → Option β) (F_finder_finder_length : Option Addr → Int → Int → GH → (Int → GH → Option β) → Option β) (R : Nat) (n : Nat) (y30 : Option Addr) (y31 : Int) (y32 : Option Addr) (y33 : Option Addr) (y34 : Int) (y35 : Int) (h : GH) (K0 : Option Addr → Option Addr → GH → Option β) : F_finder_finder_at_l0 F_finder_finder_enter F_finder_finder_key F_finder_finder_length R (n + 1) y30 y31 y32 y33 y34 y35 h K0 =
    exA y30 fun g38 o39 => exI .i64 (h.cell ⟨g38, o39 + 0 + 3, none⟩) fun x40 => (bif decide (y35 < x40) then (bif decide (y34 > 0) then exA y30 fun g41 o42 => exI .i64 (h.cell ⟨g41, o42 + 0 + 0, none⟩) fun x43 => (bif decide ((IntKind.wrap .i64 (y31 - (IntKind.wrap .i64 (y34 - 1)))) ≤ x43) then F_finder_finder_length y30 (IntKind.wrap .i64 (y34 - 1)) y31 h fun r44 h45 => exA y33 fun g46 o47 => exI .i64 (h45.cell ⟨g46, o47 + 2, none⟩) fun x48 => (bif decide (r44 > x48) then exA y33 fun g49 o50 => gput g49 (o50) [Value.int .u8 0, Value.int .i64 (IntKind.wrap .i64 (y31 - (IntKind.wrap .i64 (y34 - 1)))), Value.int .i64 r44] h45 fun h51 => exA y33 fun g52 o53 => exI .i64 (h51.cell ⟨g52, o53 + 2, none⟩) fun x54 => exA y30 fun g55 o56 => exI .i64 (h51.cell ⟨g55, o56 + 0 + 2, none⟩) fun x57 => (bif x54 == x57 then K0 y32 y33 h51 else exA y30 fun g58 o59 => exS (h51.cell ⟨g58, o59 + 7, none⟩) fun x60 => exA x60.a fun g61 o62 => within (IntKind.wrap .i64 (y34 - 1)) x60.n (exI .i64 (h51.cell ⟨g61, o62 + (IntKind.wrap .i64 (y34 - 1)).toNat * 1, none⟩) fun x63 => F_finder_finder_at_l0 F_finder_finder_enter F_finder_finder_key F_finder_finder_length R n y30 y31 y32 y33 x63 (IntKind.wrap .i64 (y35 + 1)) h51 K0)) else exA y33 fun g64 o65 => exI .i64 (h45.cell ⟨g64, o65 + 2, none⟩) fun x66 => exA y30 fun g67 o68 => exI .i64 (h45.cell ⟨g67, o68 + 0 + 2, none⟩) fun x69 => (bif x66 == x69 then K0 y32 y33 h45 else exA y30 fun g70 o71 => exS (h45.cell ⟨g70, o71 + 7, none⟩) fun x72 => exA x72.a fun g73 o74 => within (IntKind.wrap .i64 (y34 - 1)) x72.n (exI .i64 (h45.cell ⟨g73, o74 + (IntKind.wrap .i64 (y34 - 1)).toNat * 1, none⟩) fun x75 => F_finder_finder_at_l0 F_finder_finder_enter F_finder_finder_key F_finder_finder_length R n y30 y31 y32 y33 x75 (IntKind.wrap .i64 (y35 + 1)) h45 K0))) else K0 y32 y33 h) else K0 y32 y33 h) else K0 y32 y33 h) := by kernel_rfl
noncomputable def G_finder_finder_at (F_finder_finder_enter : Option Addr → Int → GH → (GH → Option β) → Option β) (F_finder_finder_key : Option Addr → Int → GH → (Int → Int → Int → Bool → GH → Option β) → Option β) (F_finder_finder_length : Option Addr → Int → Int → GH → (Int → GH → Option β) → Option β) (R : Nat) (a1 : Option Addr) (a2 : Int) (h : GH) (K : Int → Int → Int → GH → Option β) : Option β := gfun Try.prog (CF_finder_finder_at F_finder_finder_enter F_finder_finder_key F_finder_finder_length) HF_finder_finder_at R Try.f74 [Value.pointer a1, Value.int .i64 a2] h (fun v h' => exAg v fun c97 => (bif Nat.beq c97.length 3 then exI .u8 (nth c97 (0)) fun u98 => exI .i64 (nth c97 (0 + 1)) fun u99 => exI .i64 (nth c97 (0 + 1 + 1)) fun u100 => K u98 u99 u100 h' else none))
set_option maxRecDepth 100000 in
theorem F_finder_finder_at_gen (F_finder_finder_enter : Option Addr → Int → GH → (GH → Option β) → Option β) (F_finder_finder_key : Option Addr → Int → GH → (Int → Int → Int → Bool → GH → Option β) → Option β) (F_finder_finder_length : Option Addr → Int → Int → GH → (Int → GH → Option β) → Option β) (R : Nat) (a1 : Option Addr) (a2 : Int) (h : GH) (K : Int → Int → Int → GH → Option β) : G_finder_finder_at F_finder_finder_enter F_finder_finder_key F_finder_finder_length R a1 a2 h K =
    gnew [Value.int .u8 0, Value.int .i64 0, Value.int .i64 0] 0 h fun g3 h4 => gnew [Value.int .u8 0, Value.int .i64 0, Value.int .i64 0] 0 h4 fun g5 h6 => F_finder_finder_enter a1 a2 h6 fun h7 => F_finder_finder_key a1 a2 h7 fun r8 r9 r10 r11 h12 => gnew [Value.int .u8 0, Value.int .u8 0, Value.int .u8 0] 0 h12 fun g13 h14 => gput g13 (0) [Value.int .u8 r8, Value.int .u8 r9, Value.int .u8 r10] h14 fun h15 => (bif !r11 then exI .u8 (h15.cell ⟨g5, 0, none⟩) fun x16 => exI .i64 (h15.cell ⟨g5, 0 + 1, none⟩) fun x17 => exI .i64 (h15.cell ⟨g5, 0 + 1 + 1, none⟩) fun x18 => gput g3 (0) [Value.int .u8 x16, Value.int .i64 x17, Value.int .i64 x18] h15 fun h19 => exI .u8 (h19.cell ⟨g3, 0, none⟩) fun x20 => exI .i64 (h19.cell ⟨g3, 0 + 1, none⟩) fun x21 => exI .i64 (h19.cell ⟨g3, 0 + 1 + 1, none⟩) fun x22 => K x20 x21 x22 h19 else exA a1 fun g23 o24 => exV (h15.cell ⟨g23, o24 + 6, none⟩) fun x25 => exI .u8 (h15.cell ⟨g13, 0, none⟩) fun x26 => exI .u8 (h15.cell ⟨g13, 0 + 1, none⟩) fun x27 => exI .u8 (h15.cell ⟨g13, 0 + 1 + 1, none⟩) fun x28 => glookI Try.prog 135 .i64 x25 (Value.agg #[Value.int .u8 x26, Value.int .u8 x27, Value.int .u8 x28]) h15 fun x29 => F_finder_finder_at_l0 F_finder_finder_enter F_finder_finder_key F_finder_finder_length R R a1 a2 (some ⟨g3, 0, none⟩) (some ⟨g5, 0, none⟩) x29 0 h15 (fun w76 w77 h78 => exA w77 fun g79 o80 => exI .u8 (h78.cell ⟨g79, o80, none⟩) fun x81 => exI .i64 (h78.cell ⟨g79, o80 + 1, none⟩) fun x82 => exI .i64 (h78.cell ⟨g79, o80 + 1 + 1, none⟩) fun x83 => exA w76 fun g84 o85 => gput g84 (o85) [Value.int .u8 x81, Value.int .i64 x82, Value.int .i64 x83] h78 fun h86 => exA w76 fun g87 o88 => exI .u8 (h86.cell ⟨g87, o88, none⟩) fun x89 => exI .i64 (h86.cell ⟨g87, o88 + 1, none⟩) fun x90 => exI .i64 (h86.cell ⟨g87, o88 + 1 + 1, none⟩) fun x91 => K x89 x90 x91 h86)) := by kernel_rfl
noncomputable def F_finder_finder_at (R : Nat) (a1 : Option Addr) (a2 : Int) (h : GH) (K : Int → Int → Int → GH → Option β) : Option β := G_finder_finder_at (F_finder_finder_enter R) (F_finder_finder_key R) (F_finder_finder_length R) R a1 a2 h K
set_option maxRecDepth 100000 in
theorem CF_finder_finder_at_sim {R : Nat} : SimOrc Try.prog (CF_finder_finder_at (F_finder_finder_enter R) (F_finder_finder_key R) (F_finder_finder_length R) (β := β)) := by
  intro f args h K r hc
  unfold CF_finder_finder_at at hc
  cases hb : Nat.beq f 87 with
  | true =>
    rw [hb] at hc
    simp only [cond_true] at hc
    obtain rfl := Nat.eq_of_beq_eq_true hb
    split at hc
    · exact any_call (F_finder_finder_enter_sim (K := K) hc)
    · cases hc
  | false =>
  rw [hb] at hc
  simp only [cond_false] at hc
  cases hb : Nat.beq f 88 with
  | true =>
    rw [hb] at hc
    simp only [cond_true] at hc
    obtain rfl := Nat.eq_of_beq_eq_true hb
    split at hc
    · exact any_call (F_finder_finder_key_sim (K := K) hc)
    · cases hc
  | false =>
  rw [hb] at hc
  simp only [cond_false] at hc
  cases hb : Nat.beq f 89 with
  | true =>
    rw [hb] at hc
    simp only [cond_true] at hc
    obtain rfl := Nat.eq_of_beq_eq_true hb
    split at hc
    · exact any_call (F_finder_finder_length_sim (K := K) hc)
    · cases hc
  | false =>
  rw [hb] at hc
  simp only [cond_false] at hc
  cases hc
set_option maxRecDepth 100000 in
theorem F_finder_finder_at_sim {R : Nat} {r : β} {a1 : Option Addr} {a2 : Int} {h : GH} {K : Value → GH → Option β} (hc : F_finder_finder_at R a1 a2 h (fun q0 q1 q2 h' => K (Value.agg #[Value.int .u8 q0, Value.int .i64 q1, Value.int .i64 q2]) h') = some r) : ∃ v h', K v h' = some r ∧ CallSim Try.prog 74 [Value.pointer a1, Value.int .i64 a2] h v h' := by
  unfold F_finder_finder_at G_finder_finder_at at hc
  obtain ⟨v, h', hk, hs⟩ := gfun_sim (CF_finder_finder_at_sim (R := R)) mixed_ok (fun f h => by cases h) Try.func74 (by kernel_rfl) hc
  obtain ⟨cs0, f0, hk⟩ := exAg_v hk; cases f0; obtain ⟨hl0, hk⟩ := beq_v hk
  obtain ⟨u1, e1, hk⟩ := exI_v hk
  obtain ⟨u2, e2, hk⟩ := exI_v hk
  obtain ⟨u3, e3, hk⟩ := exI_v hk
  obtain rfl := arr3 hl0 e1 e2 e3
  exact ⟨_, h', hk, hs⟩
/-! F44 duffel/finder.Find -/
def CF_finder_Find (F_finder_Check : Int → Int → Int → Int → Bool → GH → (Int → GH → Option β) → Option β) (F_finder_finder_at : Option Addr → Int → GH → (Int → Int → Int → GH → Option β) → Option β) : Orc β := fun f args h K => bif Nat.beq f 73 then (match args with | [.agg ⟨[.int .i64 p1, .int .i64 p2, .int .i64 p3, .int .i64 p4, .bool p5]⟩] => F_finder_Check p1 p2 p3 p4 p5 h (fun q17 h' => K (Value.int .i64 q17) h') | _ => none) else (bif Nat.beq f 74 then (match args with | [.pointer p1, .int .i64 p2] => F_finder_finder_at p1 p2 h (fun q92 q93 q94 h' => K (Value.agg #[Value.int .u8 q92, Value.int .i64 q93, Value.int .i64 q94]) h') | _ => none) else none)
def HF_finder_Find : Hints := ⟨[(7, [0, 3, 7, 8, 9], [(0, [(8, .ty 83)])], none)], [], []⟩
noncomputable def BF_finder_Find : Code := match Try.f44.body with | some c => c | none => .skip
noncomputable def F_finder_Find_l0 (F_finder_Check : Int → Int → Int → Int → Bool → GH → (Int → GH → Option β) → Option β) (F_finder_finder_at : Option Addr → Int → GH → (Int → Int → Int → GH → Option β) → Option β) (R : Nat) (n : Nat) (y27 : Sl) (y28 : Option Addr) (y29 : Option Addr) (y30 : Sl) (y31 : Int) (h : GH) (K0 : Sl → GH → Option β) : Option β := gloop (gcode Try.prog (CF_finder_Find F_finder_Check F_finder_finder_at) Try.f44.ntmps HF_finder_Find R (at_ [true, true, true, true, false, true, false, false] BF_finder_Find)) [0, 3, 7, 8, 9] n [(0, Value.slice y27.a y27.n y27.c), (3, Value.pointer y28), (7, Value.pointer y29), (8, Value.slice y30.a y30.n y30.c), (9, Value.int .i64 y31)] h (fun i e' h' => bif Nat.beq i 0 then (exS (some (e'.get 8)) fun u97 => K0 u97 h') else none) (fun e' h' => none)
set_option maxRecDepth 100000 in
theorem F_finder_Find_l0_succ (F_finder_Check : Int → Int → Int → Int → Bool → GH → (Int → GH → Option β) → Option β) (F_finder_finder_at : Option Addr → Int → GH → (Int → Int → Int → GH → Option β) → Option β) (R : Nat) (n : Nat) (y27 : Sl) (y28 : Option Addr) (y29 : Option Addr) (y30 : Sl) (y31 : Int) (h : GH) (K0 : Sl → GH → Option β) : F_finder_Find_l0 F_finder_Check F_finder_finder_at R (n + 1) y27 y28 y29 y30 y31 h K0 =
    (bif decide (y31 < ((y27.n : Nat) : Int)) then F_finder_finder_at y29 y31 h fun r33 r34 r35 h36 => gnew [Value.int .u8 0, Value.int .i64 0, Value.int .i64 0] 0 h36 fun g37 h38 => gput g37 (0) [Value.int .u8 r33, Value.int .i64 r34, Value.int .i64 r35] h38 fun h39 => exI .u8 (h39.cell ⟨g37, 0, none⟩) fun x40 => exI .i64 (h39.cell ⟨g37, 0 + 1, none⟩) fun x41 => exI .i64 (h39.cell ⟨g37, 0 + 1 + 1, none⟩) fun x42 => (bif ((x40 == 0) && ((x41 == 0) && ((x42 == 0) && true))) then exA y27.a fun g43 o44 => within y31 y27.n (exI .u8 (h39.cell ⟨g43, o44 + y31.toNat * 1, none⟩) fun x45 => gnew [Value.int .u8 x45, Value.int .i64 0, Value.int .i64 0] 3 h39 fun g46 h47 => gappS 3 24 y30 ⟨(some ⟨g46, 0, none⟩), 1, 1⟩ h47 fun s48 h49 => F_finder_Find_l0 F_finder_Check F_finder_finder_at R n y27 y28 y29 s48 (IntKind.wrap .i64 (y31 + 1)) h49 K0) else exA y28 fun g50 o51 => exB (h39.cell ⟨g50, o51 + 4, none⟩) fun x52 => (bif x52 then exI .i64 (h39.cell ⟨g37, 0 + 2, none⟩) fun x53 => exA y28 fun g54 o55 => exI .i64 (h39.cell ⟨g54, o55 + 2, none⟩) fun x56 => (bif decide (x53 < x56) then F_finder_finder_at y29 (IntKind.wrap .i64 (y31 + 1)) h39 fun r57 r58 r59 h60 => exI .i64 (h60.cell ⟨g37, 0 + 2, none⟩) fun x61 => (bif sameAt g37 (0 + 2) 1 h39 h60 then (bif decide (r59 > x61) then exA y27.a fun g62 o63 => within y31 y27.n (exI .u8 (h60.cell ⟨g62, o63 + y31.toNat * 1, none⟩) fun x64 => gnew [Value.int .u8 x64, Value.int .i64 0, Value.int .i64 0] 3 h60 fun g65 h66 => gappS 3 24 y30 ⟨(some ⟨g65, 0, none⟩), 1, 1⟩ h66 fun s67 h68 => F_finder_Find_l0 F_finder_Check F_finder_finder_at R n y27 y28 y29 s67 (IntKind.wrap .i64 (y31 + 1)) h68 K0) else exI .u8 (h60.cell ⟨g37, 0, none⟩) fun x69 => exI .i64 (h60.cell ⟨g37, 0 + 1, none⟩) fun x70 => exI .i64 (h60.cell ⟨g37, 0 + 1 + 1, none⟩) fun x71 => gnew [Value.int .u8 x69, Value.int .i64 x70, Value.int .i64 x71] 3 h60 fun g72 h73 => gappS 3 24 y30 ⟨(some ⟨g72, 0, none⟩), 1, 1⟩ h73 fun s74 h75 => exI .i64 (h75.cell ⟨g37, 0 + 2, none⟩) fun x76 => F_finder_Find_l0 F_finder_Check F_finder_finder_at R n y27 y28 y29 s74 (IntKind.wrap .i64 (y31 + x76)) h75 K0) else none) else exI .u8 (h39.cell ⟨g37, 0, none⟩) fun x77 => exI .i64 (h39.cell ⟨g37, 0 + 1, none⟩) fun x78 => exI .i64 (h39.cell ⟨g37, 0 + 1 + 1, none⟩) fun x79 => gnew [Value.int .u8 x77, Value.int .i64 x78, Value.int .i64 x79] 3 h39 fun g80 h81 => gappS 3 24 y30 ⟨(some ⟨g80, 0, none⟩), 1, 1⟩ h81 fun s82 h83 => exI .i64 (h83.cell ⟨g37, 0 + 2, none⟩) fun x84 => F_finder_Find_l0 F_finder_Check F_finder_finder_at R n y27 y28 y29 s82 (IntKind.wrap .i64 (y31 + x84)) h83 K0) else exI .u8 (h39.cell ⟨g37, 0, none⟩) fun x85 => exI .i64 (h39.cell ⟨g37, 0 + 1, none⟩) fun x86 => exI .i64 (h39.cell ⟨g37, 0 + 1 + 1, none⟩) fun x87 => gnew [Value.int .u8 x85, Value.int .i64 x86, Value.int .i64 x87] 3 h39 fun g88 h89 => gappS 3 24 y30 ⟨(some ⟨g88, 0, none⟩), 1, 1⟩ h89 fun s90 h91 => exI .i64 (h91.cell ⟨g37, 0 + 2, none⟩) fun x92 => F_finder_Find_l0 F_finder_Check F_finder_finder_at R n y27 y28 y29 s90 (IntKind.wrap .i64 (y31 + x92)) h91 K0)) else K0 y30 h) := by kernel_rfl
noncomputable def G_finder_Find (F_finder_Check : Int → Int → Int → Int → Bool → GH → (Int → GH → Option β) → Option β) (F_finder_finder_at : Option Addr → Int → GH → (Int → Int → Int → GH → Option β) → Option β) (R : Nat) (a1 : Sl) (a2 : Int) (a3 : Int) (a4 : Int) (a5 : Int) (a6 : Bool) (h : GH) (K : Sl → Int → GH → Option β) : Option β := gfun Try.prog (CF_finder_Find F_finder_Check F_finder_finder_at) HF_finder_Find R Try.f44 [Value.slice a1.a a1.n a1.c, Value.agg #[Value.int .i64 a2, Value.int .i64 a3, Value.int .i64 a4, Value.int .i64 a5, Value.bool a6]] h (fun v h' => exTup 2 v fun vs => exV (nth vs 0) fun v0 => exS (some v0) fun u98 => exV (nth vs 1) fun v1 => exI .i64 (some v1) fun u99 => K u98 u99 h')
set_option maxRecDepth 100000 in
theorem F_finder_Find_gen (F_finder_Check : Int → Int → Int → Int → Bool → GH → (Int → GH → Option β) → Option β) (F_finder_finder_at : Option Addr → Int → GH → (Int → Int → Int → GH → Option β) → Option β) (R : Nat) (a1 : Sl) (a2 : Int) (a3 : Int) (a4 : Int) (a5 : Int) (a6 : Bool) (h : GH) (K : Sl → Int → GH → Option β) : G_finder_Find F_finder_Check F_finder_finder_at R a1 a2 a3 a4 a5 a6 h K =
    gnew [Value.int .i64 a2, Value.int .i64 a3, Value.int .i64 a4, Value.int .i64 a5, Value.bool a6] 0 h fun g7 h8 => exI .i64 (h8.cell ⟨g7, 0, none⟩) fun x9 => exI .i64 (h8.cell ⟨g7, 0 + 1, none⟩) fun x10 => exI .i64 (h8.cell ⟨g7, 0 + 1 + 1, none⟩) fun x11 => exI .i64 (h8.cell ⟨g7, 0 + 1 + 1 + 1, none⟩) fun x12 => exB (h8.cell ⟨g7, 0 + 1 + 1 + 1 + 1, none⟩) fun x13 => F_finder_Check x9 x10 x11 x12 x13 h8 fun r14 h15 => (bif r14 != 0 then K ⟨none, 0, 0⟩ r14 h15 else exI .i64 (h15.cell ⟨g7, 0, none⟩) fun x16 => exI .i64 (h15.cell ⟨g7, 0 + 1, none⟩) fun x17 => exI .i64 (h15.cell ⟨g7, 0 + 1 + 1, none⟩) fun x18 => exI .i64 (h15.cell ⟨g7, 0 + 1 + 1 + 1, none⟩) fun x19 => exB (h15.cell ⟨g7, 0 + 1 + 1 + 1 + 1, none⟩) fun x20 => gmkMap h15 fun g21 h22 => gmake 1 8 (Value.int .i64 0) ((a1.n : Nat) : Int) ((a1.n : Nat) : Int) h22 fun s23 h24 => gnew [Value.int .i64 x16, Value.int .i64 x17, Value.int .i64 x18, Value.int .i64 x19, Value.bool x20, Value.slice a1.a a1.n a1.c, Value.map (some g21), Value.slice s23.a s23.n s23.c, Value.int .i64 0] 0 h24 fun g25 h26 => (bif sameAt g7 (0) 5 h15 h22 then F_finder_Find_l0 F_finder_Check F_finder_finder_at R R a1 (some ⟨g7, 0, none⟩) (some ⟨g25, 0, none⟩) ⟨none, 0, 0⟩ 0 h26 (fun w93 h94 => K w93 0 h94) else none)) := by kernel_rfl
noncomputable def F_finder_Find (R : Nat) (a1 : Sl) (a2 : Int) (a3 : Int) (a4 : Int) (a5 : Int) (a6 : Bool) (h : GH) (K : Sl → Int → GH → Option β) : Option β := G_finder_Find (F_finder_Check R) (F_finder_finder_at R) R a1 a2 a3 a4 a5 a6 h K
set_option maxRecDepth 100000 in
theorem CF_finder_Find_sim {R : Nat} : SimOrc Try.prog (CF_finder_Find (F_finder_Check R) (F_finder_finder_at R) (β := β)) := by
  intro f args h K r hc
  unfold CF_finder_Find at hc
  cases hb : Nat.beq f 73 with
  | true =>
    rw [hb] at hc
    simp only [cond_true] at hc
    obtain rfl := Nat.eq_of_beq_eq_true hb
    split at hc
    · exact any_call (F_finder_Check_sim (K := K) hc)
    · cases hc
  | false =>
  rw [hb] at hc
  simp only [cond_false] at hc
  cases hb : Nat.beq f 74 with
  | true =>
    rw [hb] at hc
    simp only [cond_true] at hc
    obtain rfl := Nat.eq_of_beq_eq_true hb
    split at hc
    · exact any_call (F_finder_finder_at_sim (K := K) hc)
    · cases hc
  | false =>
  rw [hb] at hc
  simp only [cond_false] at hc
  cases hc
set_option maxRecDepth 100000 in
theorem F_finder_Find_sim {R : Nat} {r : β} {a1 : Sl} {a2 : Int} {a3 : Int} {a4 : Int} {a5 : Int} {a6 : Bool} {h : GH} {K : Value → GH → Option β} (hc : F_finder_Find R a1 a2 a3 a4 a5 a6 h (fun q0 q1 h' => K (Value.tuple #[Value.slice q0.a q0.n q0.c, Value.int .i64 q1]) h') = some r) : ∃ v h', K v h' = some r ∧ CallSim Try.prog 44 [Value.slice a1.a a1.n a1.c, Value.agg #[Value.int .i64 a2, Value.int .i64 a3, Value.int .i64 a4, Value.int .i64 a5, Value.bool a6]] h v h' := by
  unfold F_finder_Find G_finder_Find at hc
  obtain ⟨v, h', hk, hs⟩ := gfun_sim (CF_finder_Find_sim (R := R)) mixed_ok (fun f h => by cases h) Try.func44 (by kernel_rfl) hc
  obtain ⟨vs, rfl, hl, hk⟩ := exTup_v hk
  obtain ⟨v0, t0, hk⟩ := exV_v hk
  obtain ⟨u0, e0, hk⟩ := exS_v hk; cases e0
  obtain ⟨v1, t1, hk⟩ := exV_v hk
  obtain ⟨u1, e1, hk⟩ := exI_v hk; cases e1
  obtain rfl := arr2 hl t0 t1
  exact ⟨_, h', hk, hs⟩
/-! F45 duffel/dle.plain -/
def CF_dle_plain  : Orc β := fun f args h K => none
def HF_dle_plain : Hints := ⟨[(2, [0, 7, 8, 9], [(0, [(0, .ty 22)])], none)], [], []⟩
noncomputable def BF_dle_plain : Code := match Try.f45.body with | some c => c | none => .skip
noncomputable def F_dle_plain_l0  (R : Nat) (n : Nat) (y3 : Sl) (y4 : Sl) (y5 : Int) (y6 : Int) (h : GH) (K0 : Sl → GH → Option β) : Option β := gloop (gcode Try.prog (CF_dle_plain ) Try.f45.ntmps HF_dle_plain R (at_ [true, false, true, false, false] BF_dle_plain)) [0, 7, 8, 9] n [(0, Value.slice y3.a y3.n y3.c), (7, Value.slice y4.a y4.n y4.c), (8, Value.int .i64 y5), (9, Value.int .i64 y6)] h (fun i e' h' => bif Nat.beq i 0 then (exS (some (e'.get 0)) fun u22 => K0 u22 h') else none) (fun e' h' => none)
set_option maxRecDepth 100000 in
theorem F_dle_plain_l0_succ  (R : Nat) (n : Nat) (y3 : Sl) (y4 : Sl) (y5 : Int) (y6 : Int) (h : GH) (K0 : Sl → GH → Option β) : F_dle_plain_l0  R (n + 1) y3 y4 y5 y6 h K0 =
    (bif decide (y6 < y5) then exA y4.a fun g8 o9 => within y6 y4.n (exI .u8 (h.cell ⟨g8, o9 + y6.toNat * 1, none⟩) fun x10 => gnew [Value.int .u8 x10] 1 h fun g11 h12 => gappS 1 1 y3 ⟨(some ⟨g11, 0, none⟩), 1, 1⟩ h12 fun s13 h14 => (bif x10 == 144 then gnew [Value.int .u8 0] 1 h14 fun g15 h16 => gappS 1 1 s13 ⟨(some ⟨g15, 0, none⟩), 1, 1⟩ h16 fun s17 h18 => F_dle_plain_l0 R n s17 y4 y5 (IntKind.wrap .i64 (y6 + 1)) h18 K0 else F_dle_plain_l0 R n s13 y4 y5 (IntKind.wrap .i64 (y6 + 1)) h14 K0)) else K0 y3 h) := by kernel_rfl
noncomputable def G_dle_plain  (R : Nat) (a1 : Sl) (a2 : Sl) (h : GH) (K : Sl → GH → Option β) : Option β := gfun Try.prog (CF_dle_plain ) HF_dle_plain R Try.f45 [Value.slice a1.a a1.n a1.c, Value.slice a2.a a2.n a2.c] h (fun v h' => exS (some v) fun u23 => K u23 h')
set_option maxRecDepth 100000 in
theorem F_dle_plain_gen  (R : Nat) (a1 : Sl) (a2 : Sl) (h : GH) (K : Sl → GH → Option β) : G_dle_plain  R a1 a2 h K =
    F_dle_plain_l0 R R a1 a2 ((a2.n : Nat) : Int) 0 h (fun w19 h20 => K w19 h20) := by kernel_rfl
noncomputable def F_dle_plain (R : Nat) (a1 : Sl) (a2 : Sl) (h : GH) (K : Sl → GH → Option β) : Option β := G_dle_plain  R a1 a2 h K
theorem CF_dle_plain_sim : SimOrc Try.prog (CF_dle_plain (β := β)) := by
  intro f args h K r hc
  cases hc
set_option maxRecDepth 100000 in
theorem F_dle_plain_sim {R : Nat} {r : β} {a1 : Sl} {a2 : Sl} {h : GH} {K : Value → GH → Option β} (hc : F_dle_plain R a1 a2 h (fun q0 h' => K (Value.slice q0.a q0.n q0.c) h') = some r) : ∃ v h', K v h' = some r ∧ CallSim Try.prog 45 [Value.slice a1.a a1.n a1.c, Value.slice a2.a a2.n a2.c] h v h' := by
  unfold F_dle_plain G_dle_plain at hc
  obtain ⟨v, h', hk, hs⟩ := gfun_sim CF_dle_plain_sim mixed_ok (fun f h => by cases h) Try.func45 (by kernel_rfl) hc
  obtain ⟨u0, e0, hk⟩ := exS_v hk; cases e0
  exact ⟨_, h', hk, hs⟩
/-! F17 duffel/dle.Encode -/
def CF_dle_Encode (F_dle_right : Int → GH → (Bool → GH → Option β) → Option β) (F_dle_mask : Int → GH → (Int → GH → Option β) → Option β) (F_finder_Find : Sl → Int → Int → Int → Int → Bool → GH → (Sl → Int → GH → Option β) → Option β) (F_dle_plain : Sl → Sl → GH → (Sl → GH → Option β) → Option β) : Orc β := fun f args h K => bif Nat.beq f 42 then (match args with | [.int .i64 p1] => F_dle_right p1 h (fun q2 h' => K (Value.bool q2) h') | _ => none) else (bif Nat.beq f 43 then (match args with | [.int .i64 p1] => F_dle_mask p1 h (fun q2 h' => K (Value.int .i64 q2) h') | _ => none) else (bif Nat.beq f 44 then (match args with | [.slice p1a p1n p1c, .agg ⟨[.int .i64 p2, .int .i64 p3, .int .i64 p4, .int .i64 p5, .bool p6]⟩] => F_finder_Find ⟨p1a, p1n, p1c⟩ p2 p3 p4 p5 p6 h (fun q95 q96 h' => K (Value.tuple #[Value.slice q95.a q95.n q95.c, Value.int .i64 q96]) h') | _ => none) else (bif Nat.beq f 45 then (match args with | [.slice p1a p1n p1c, .slice p2a p2n p2c] => F_dle_plain ⟨p1a, p1n, p1c⟩ ⟨p2a, p2n, p2c⟩ h (fun q21 h' => K (Value.slice q21.a q21.n q21.c) h') | _ => none) else none)))
def HF_dle_Encode : Hints := ⟨[(10, [0, 1, 6, 9, 10, 34, 35, 36], [(0, [(9, .ty 22)])], none)], [], []⟩
noncomputable def BF_dle_Encode : Code := match Try.f17.body with | some c => c | none => .skip
noncomputable def F_dle_Encode_l0 (F_dle_right : Int → GH → (Bool → GH → Option β) → Option β) (F_dle_mask : Int → GH → (Int → GH → Option β) → Option β) (F_finder_Find : Sl → Int → Int → Int → Int → Bool → GH → (Sl → Int → GH → Option β) → Option β) (F_dle_plain : Sl → Sl → GH → (Sl → GH → Option β) → Option β) (R : Nat) (n : Nat) (y10 : Sl) (y11 : Int) (y12 : Int) (y13 : Sl) (y14 : Int) (y15 : Sl) (y16 : Int) (y17 : Int) (h : GH) (K0 : Sl → GH → Option β) : Option β := gloop (gcode Try.prog (CF_dle_Encode F_dle_right F_dle_mask F_finder_Find F_dle_plain) Try.f17.ntmps HF_dle_Encode R (at_ [true, true, true, true, true, true, true, false, true, false, false] BF_dle_Encode)) [0, 1, 6, 9, 10, 34, 35, 36] n [(0, Value.slice y10.a y10.n y10.c), (1, Value.int .i64 y11), (6, Value.int .i64 y12), (9, Value.slice y13.a y13.n y13.c), (10, Value.int .i64 y14), (34, Value.slice y15.a y15.n y15.c), (35, Value.int .i64 y16), (36, Value.int .i64 y17)] h (fun i e' h' => bif Nat.beq i 0 then (exS (some (e'.get 9)) fun u52 => K0 u52 h') else none) (fun e' h' => none)
set_option maxRecDepth 100000 in
theorem F_dle_Encode_l0_succ (F_dle_right : Int → GH → (Bool → GH → Option β) → Option β) (F_dle_mask : Int → GH → (Int → GH → Option β) → Option β) (F_finder_Find : Sl → Int → Int → Int → Int → Bool → GH → (Sl → Int → GH → Option β) → Option β) (F_dle_plain : Sl → Sl → GH → (Sl → GH → Option β) → Option β) (R : Nat) (n : Nat) (y10 : Sl) (y11 : Int) (y12 : Int) (y13 : Sl) (y14 : Int) (y15 : Sl) (y16 : Int) (y17 : Int) (h : GH) (K0 : Sl → GH → Option β) : F_dle_Encode_l0 F_dle_right F_dle_mask F_finder_Find F_dle_plain R (n + 1) y10 y11 y12 y13 y14 y15 y16 y17 h K0 =
    (bif decide (y17 < y16) then exA y15.a fun g19 o20 => within y17 y15.n (exI .u8 (h.cell ⟨g19, o20 + y17.toNat * 3, none⟩) fun x21 => exI .i64 (h.cell ⟨g19, o20 + y17.toNat * 3 + 1, none⟩) fun x22 => exI .i64 (h.cell ⟨g19, o20 + y17.toNat * 3 + 1 + 1, none⟩) fun x23 => gnew [Value.int .u8 0, Value.int .i64 0, Value.int .i64 0] 0 h fun g24 h25 => gput g24 (0) [Value.int .u8 x21, Value.int .i64 x22, Value.int .i64 x23] h25 fun h26 => exI .i64 (h26.cell ⟨g24, 0 + 2, none⟩) fun x27 => exI .i64 (h26.cell ⟨g24, 0 + 1, none⟩) fun x28 => (bif decide ((IntKind.wrap .i64 (8 - y11)) < 0) then none else exI .i64 (h26.cell ⟨g24, 0 + 2, none⟩) fun x29 => (bif x29 == 0 then bnd (IntKind.wrap .i64 (y14 + (if 1 > x27 then 1 else x27))) y10.c fun m30 => bnd y14 m30 fun m31 => F_dle_plain y13 ⟨addO y10.a (m31 * 1), m30 - m31, y10.c - m31⟩ h26 fun r32 h33 => F_dle_Encode_l0 F_dle_right F_dle_mask F_finder_Find F_dle_plain R n y10 y11 y12 r32 (IntKind.wrap .i64 (y14 + (if 1 > x27 then 1 else x27))) y15 y16 (IntKind.wrap .i64 (y17 + 1)) h33 K0 else (bif (IntKind.wrap .i64 ((if y12 < (IntKind.wrap .i64 ((if 1 > x27 then 1 else x27) - 3)) then y12 else IntKind.wrap .i64 ((if 1 > x27 then 1 else x27) - 3)) + (shlI .i64 (shrI .i64 (IntKind.wrap .i64 (x28 - 1)) 8) (IntKind.wrap .i64 (8 - y11))))) == 0 then bnd (IntKind.wrap .i64 (y14 + (if 1 > x27 then 1 else x27))) y10.c fun m34 => bnd y14 m34 fun m35 => F_dle_plain y13 ⟨addO y10.a (m35 * 1), m34 - m35, y10.c - m35⟩ h26 fun r36 h37 => F_dle_Encode_l0 F_dle_right F_dle_mask F_finder_Find F_dle_plain R n y10 y11 y12 r36 (IntKind.wrap .i64 (y14 + (if 1 > x27 then 1 else x27))) y15 y16 (IntKind.wrap .i64 (y17 + 1)) h37 K0 else (bif (if y12 < (IntKind.wrap .i64 ((if 1 > x27 then 1 else x27) - 3)) then y12 else IntKind.wrap .i64 ((if 1 > x27 then 1 else x27) - 3)) == y12 then exI .i64 (h26.cell ⟨g24, 0 + 1, none⟩) fun x38 => gnew [Value.int .u8 144, Value.int .u8 (IntKind.wrap .u8 (IntKind.wrap .i64 ((if y12 < (IntKind.wrap .i64 ((if 1 > x27 then 1 else x27) - 3)) then y12 else IntKind.wrap .i64 ((if 1 > x27 then 1 else x27) - 3)) + (shlI .i64 (shrI .i64 (IntKind.wrap .i64 (x28 - 1)) 8) (IntKind.wrap .i64 (8 - y11)))))), Value.int .u8 (IntKind.wrap .u8 (IntKind.wrap .i64 ((IntKind.wrap .i64 ((if 1 > x27 then 1 else x27) - 3)) - y12))), Value.int .u8 (IntKind.wrap .u8 (IntKind.wrap .i64 (x38 - 1)))] 1 h26 fun g39 h40 => gappS 1 1 y13 ⟨(some ⟨g39, 0, none⟩), 4, 4⟩ h40 fun s41 h42 => F_dle_Encode_l0 F_dle_right F_dle_mask F_finder_Find F_dle_plain R n y10 y11 y12 s41 (IntKind.wrap .i64 (y14 + (if 1 > x27 then 1 else x27))) y15 y16 (IntKind.wrap .i64 (y17 + 1)) h42 K0 else exI .i64 (h26.cell ⟨g24, 0 + 1, none⟩) fun x43 => gnew [Value.int .u8 144, Value.int .u8 (IntKind.wrap .u8 (IntKind.wrap .i64 ((if y12 < (IntKind.wrap .i64 ((if 1 > x27 then 1 else x27) - 3)) then y12 else IntKind.wrap .i64 ((if 1 > x27 then 1 else x27) - 3)) + (shlI .i64 (shrI .i64 (IntKind.wrap .i64 (x28 - 1)) 8) (IntKind.wrap .i64 (8 - y11)))))), Value.int .u8 (IntKind.wrap .u8 (IntKind.wrap .i64 (x43 - 1)))] 1 h26 fun g44 h45 => gappS 1 1 y13 ⟨(some ⟨g44, 0, none⟩), 3, 3⟩ h45 fun s46 h47 => F_dle_Encode_l0 F_dle_right F_dle_mask F_finder_Find F_dle_plain R n y10 y11 y12 s46 (IntKind.wrap .i64 (y14 + (if 1 > x27 then 1 else x27))) y15 y16 (IntKind.wrap .i64 (y17 + 1)) h47 K0))))) else K0 y13 h) := by kernel_rfl
noncomputable def G_dle_Encode (F_dle_right : Int → GH → (Bool → GH → Option β) → Option β) (F_dle_mask : Int → GH → (Int → GH → Option β) → Option β) (F_finder_Find : Sl → Int → Int → Int → Int → Bool → GH → (Sl → Int → GH → Option β) → Option β) (F_dle_plain : Sl → Sl → GH → (Sl → GH → Option β) → Option β) (R : Nat) (a1 : Sl) (a2 : Int) (h : GH) (K : Sl → Int → GH → Option β) : Option β := gfun Try.prog (CF_dle_Encode F_dle_right F_dle_mask F_finder_Find F_dle_plain) HF_dle_Encode R Try.f17 [Value.slice a1.a a1.n a1.c, Value.int .i64 a2] h (fun v h' => exTup 2 v fun vs => exV (nth vs 0) fun v0 => exS (some v0) fun u53 => exV (nth vs 1) fun v1 => exI .i64 (some v1) fun u54 => K u53 u54 h')
set_option maxRecDepth 100000 in
theorem F_dle_Encode_gen (F_dle_right : Int → GH → (Bool → GH → Option β) → Option β) (F_dle_mask : Int → GH → (Int → GH → Option β) → Option β) (F_finder_Find : Sl → Int → Int → Int → Int → Bool → GH → (Sl → Int → GH → Option β) → Option β) (F_dle_plain : Sl → Sl → GH → (Sl → GH → Option β) → Option β) (R : Nat) (a1 : Sl) (a2 : Int) (h : GH) (K : Sl → Int → GH → Option β) : G_dle_Encode F_dle_right F_dle_mask F_finder_Find F_dle_plain R a1 a2 h K =
    F_dle_right a2 h fun r3 h4 => (bif !r3 then K ⟨none, 0, 0⟩ 2 h4 else F_dle_mask a2 h4 fun r5 h6 => (bif decide (a2 < 0) then none else F_finder_Find a1 (shlI .i64 256 a2) 3 (IntKind.wrap .i64 (r5 + 258)) 64 true h6 fun r7 r8 h9 => (bif r8 != 0 then K ⟨none, 0, 0⟩ r8 h9 else F_dle_Encode_l0 F_dle_right F_dle_mask F_finder_Find F_dle_plain R R a1 a2 r5 ⟨none, 0, 0⟩ 0 r7 ((r7.n : Nat) : Int) 0 h9 (fun w48 h49 => K w48 0 h49)))) := by kernel_rfl
noncomputable def F_dle_Encode (R : Nat) (a1 : Sl) (a2 : Int) (h : GH) (K : Sl → Int → GH → Option β) : Option β := G_dle_Encode (F_dle_right R) (F_dle_mask R) (F_finder_Find R) (F_dle_plain R) R a1 a2 h K
set_option maxRecDepth 100000 in
theorem CF_dle_Encode_sim {R : Nat} : SimOrc Try.prog (CF_dle_Encode (F_dle_right R) (F_dle_mask R) (F_finder_Find R) (F_dle_plain R) (β := β)) := by
  intro f args h K r hc
  unfold CF_dle_Encode at hc
  cases hb : Nat.beq f 42 with
  | true =>
    rw [hb] at hc
    simp only [cond_true] at hc
    obtain rfl := Nat.eq_of_beq_eq_true hb
    split at hc
    · exact any_call (F_dle_right_sim (K := K) hc)
    · cases hc
  | false =>
  rw [hb] at hc
  simp only [cond_false] at hc
  cases hb : Nat.beq f 43 with
  | true =>
    rw [hb] at hc
    simp only [cond_true] at hc
    obtain rfl := Nat.eq_of_beq_eq_true hb
    split at hc
    · exact any_call (F_dle_mask_sim (K := K) hc)
    · cases hc
  | false =>
  rw [hb] at hc
  simp only [cond_false] at hc
  cases hb : Nat.beq f 44 with
  | true =>
    rw [hb] at hc
    simp only [cond_true] at hc
    obtain rfl := Nat.eq_of_beq_eq_true hb
    split at hc
    · exact any_call (F_finder_Find_sim (K := K) hc)
    · cases hc
  | false =>
  rw [hb] at hc
  simp only [cond_false] at hc
  cases hb : Nat.beq f 45 with
  | true =>
    rw [hb] at hc
    simp only [cond_true] at hc
    obtain rfl := Nat.eq_of_beq_eq_true hb
    split at hc
    · exact any_call (F_dle_plain_sim (K := K) hc)
    · cases hc
  | false =>
  rw [hb] at hc
  simp only [cond_false] at hc
  cases hc
set_option maxRecDepth 100000 in
theorem F_dle_Encode_sim {R : Nat} {r : β} {a1 : Sl} {a2 : Int} {h : GH} {K : Value → GH → Option β} (hc : F_dle_Encode R a1 a2 h (fun q0 q1 h' => K (Value.tuple #[Value.slice q0.a q0.n q0.c, Value.int .i64 q1]) h') = some r) : ∃ v h', K v h' = some r ∧ CallSim Try.prog 17 [Value.slice a1.a a1.n a1.c, Value.int .i64 a2] h v h' := by
  unfold F_dle_Encode G_dle_Encode at hc
  obtain ⟨v, h', hk, hs⟩ := gfun_sim (CF_dle_Encode_sim (R := R)) mixed_ok (fun f h => by cases h) Try.func17 (by kernel_rfl) hc
  obtain ⟨vs, rfl, hl, hk⟩ := exTup_v hk
  obtain ⟨v0, t0, hk⟩ := exV_v hk
  obtain ⟨u0, e0, hk⟩ := exS_v hk; cases e0
  obtain ⟨v1, t1, hk⟩ := exV_v hk
  obtain ⟨u1, e1, hk⟩ := exI_v hk; cases e1
  obtain rfl := arr2 hl t0 t1
  exact ⟨_, h', hk, hs⟩
/-! F98 cmp.isNaN[int] -/
def CF_cmp_isNaN_int  : Orc β := fun f args h K => none
def HF_cmp_isNaN_int : Hints := ⟨[], [], []⟩
noncomputable def G_cmp_isNaN_int  (R : Nat) (a1 : Int) (h : GH) (K : Bool → GH → Option β) : Option β := gfun Try.prog (CF_cmp_isNaN_int ) HF_cmp_isNaN_int R Try.f98 [Value.int .i64 a1] h (fun v h' => exB (some v) fun u3 => K u3 h')
set_option maxRecDepth 100000 in
theorem F_cmp_isNaN_int_gen  (R : Nat) (a1 : Int) (h : GH) (K : Bool → GH → Option β) : G_cmp_isNaN_int  R a1 h K =
    K (a1 != a1) h := by kernel_rfl
noncomputable def F_cmp_isNaN_int (R : Nat) (a1 : Int) (h : GH) (K : Bool → GH → Option β) : Option β := G_cmp_isNaN_int  R a1 h K
theorem CF_cmp_isNaN_int_sim : SimOrc Try.prog (CF_cmp_isNaN_int (β := β)) := by
  intro f args h K r hc
  cases hc
set_option maxRecDepth 100000 in
theorem F_cmp_isNaN_int_sim {R : Nat} {r : β} {a1 : Int} {h : GH} {K : Value → GH → Option β} (hc : F_cmp_isNaN_int R a1 h (fun q0 h' => K (Value.bool q0) h') = some r) : ∃ v h', K v h' = some r ∧ CallSim Try.prog 98 [Value.int .i64 a1] h v h' := by
  unfold F_cmp_isNaN_int G_cmp_isNaN_int at hc
  obtain ⟨v, h', hk, hs⟩ := gfun_sim CF_cmp_isNaN_int_sim mixed_ok (fun f h => by cases h) Try.func98 (by kernel_rfl) hc
  obtain ⟨u0, e0, hk⟩ := exB_v hk; cases e0
  exact ⟨_, h', hk, hs⟩
/-! F92 cmp.Compare[int] -/
def CF_cmp_Compare_int (F_cmp_isNaN_int : Int → GH → (Bool → GH → Option β) → Option β) : Orc β := fun f args h K => bif Nat.beq f 98 then (match args with | [.int .i64 p1] => F_cmp_isNaN_int p1 h (fun q2 h' => K (Value.bool q2) h') | _ => none) else none
def HF_cmp_Compare_int : Hints := ⟨[], [], []⟩
noncomputable def G_cmp_Compare_int (F_cmp_isNaN_int : Int → GH → (Bool → GH → Option β) → Option β) (R : Nat) (a1 : Int) (a2 : Int) (h : GH) (K : Int → GH → Option β) : Option β := gfun Try.prog (CF_cmp_Compare_int F_cmp_isNaN_int) HF_cmp_Compare_int R Try.f92 [Value.int .i64 a1, Value.int .i64 a2] h (fun v h' => exI .i64 (some v) fun u8 => K u8 h')
set_option maxRecDepth 100000 in
theorem F_cmp_Compare_int_gen (F_cmp_isNaN_int : Int → GH → (Bool → GH → Option β) → Option β) (R : Nat) (a1 : Int) (a2 : Int) (h : GH) (K : Int → GH → Option β) : G_cmp_Compare_int F_cmp_isNaN_int R a1 a2 h K =
    F_cmp_isNaN_int a1 h fun r3 h4 => F_cmp_isNaN_int a2 h4 fun r5 h6 => (bif r3 then (bif r5 then K 0 h6 else K (-1) h6) else (bif r5 then K 1 h6 else (bif decide (a1 < a2) then K (-1) h6 else (bif decide (a1 > a2) then K 1 h6 else K 0 h6)))) := by kernel_rfl
noncomputable def F_cmp_Compare_int (R : Nat) (a1 : Int) (a2 : Int) (h : GH) (K : Int → GH → Option β) : Option β := G_cmp_Compare_int (F_cmp_isNaN_int R) R a1 a2 h K
set_option maxRecDepth 100000 in
theorem CF_cmp_Compare_int_sim {R : Nat} : SimOrc Try.prog (CF_cmp_Compare_int (F_cmp_isNaN_int R) (β := β)) := by
  intro f args h K r hc
  unfold CF_cmp_Compare_int at hc
  cases hb : Nat.beq f 98 with
  | true =>
    rw [hb] at hc
    simp only [cond_true] at hc
    obtain rfl := Nat.eq_of_beq_eq_true hb
    split at hc
    · exact any_call (F_cmp_isNaN_int_sim (K := K) hc)
    · cases hc
  | false =>
  rw [hb] at hc
  simp only [cond_false] at hc
  cases hc
set_option maxRecDepth 100000 in
theorem F_cmp_Compare_int_sim {R : Nat} {r : β} {a1 : Int} {a2 : Int} {h : GH} {K : Value → GH → Option β} (hc : F_cmp_Compare_int R a1 a2 h (fun q0 h' => K (Value.int .i64 q0) h') = some r) : ∃ v h', K v h' = some r ∧ CallSim Try.prog 92 [Value.int .i64 a1, Value.int .i64 a2] h v h' := by
  unfold F_cmp_Compare_int G_cmp_Compare_int at hc
  obtain ⟨v, h', hk, hs⟩ := gfun_sim (CF_cmp_Compare_int_sim (R := R)) mixed_ok (fun f h => by cases h) Try.func92 (by kernel_rfl) hc
  obtain ⟨u0, e0, hk⟩ := exI_v hk; cases e0
  exact ⟨_, h', hk, hs⟩
/-! F91 (*duffel/follow.counts).ordered$1 -/
def CF_follow_counts_ordered_1_s1 (F_cmp_Compare_int : Int → Int → GH → (Int → GH → Option β) → Option β) : Orc β := fun f args h K => bif Nat.beq f 92 then (match args with | [.int .i64 p1, .int .i64 p2] => F_cmp_Compare_int p1 p2 h (fun q7 h' => K (Value.int .i64 q7) h') | _ => none) else none
def HF_follow_counts_ordered_1_s1 : Hints := ⟨[], [], []⟩
noncomputable def G_follow_counts_ordered_1_s1 (F_cmp_Compare_int : Int → Int → GH → (Int → GH → Option β) → Option β) (R : Nat) (a1 : Int) (a2 : Int) (y3 : Option Addr) (h : GH) (K : Int → GH → Option β) : Option β := gfun Try.prog (CF_follow_counts_ordered_1_s1 F_cmp_Compare_int) HF_follow_counts_ordered_1_s1 R Try.f91 [Value.int .u8 a1, Value.int .u8 a2, Value.pointer y3] h (fun v h' => exI .i64 (some v) fun u19 => K u19 h')
set_option maxRecDepth 100000 in
theorem F_follow_counts_ordered_1_s1_gen (F_cmp_Compare_int : Int → Int → GH → (Int → GH → Option β) → Option β) (R : Nat) (a1 : Int) (a2 : Int) (y3 : Option Addr) (h : GH) (K : Int → GH → Option β) : G_follow_counts_ordered_1_s1 F_cmp_Compare_int R a1 a2 y3 h K =
    exA y3 fun g4 o5 => exP (h.cell ⟨g4, o5, none⟩) fun x6 => exA x6 fun g7 o8 => within a2 256 (exI .i64 (h.cell ⟨g7, o8 + a2.toNat * 1, none⟩) fun x9 => exA y3 fun g10 o11 => exP (h.cell ⟨g10, o11, none⟩) fun x12 => exA x12 fun g13 o14 => within a1 256 (exI .i64 (h.cell ⟨g13, o14 + a1.toNat * 1, none⟩) fun x15 => F_cmp_Compare_int x9 x15 h fun r16 h17 => K r16 h17)) := by kernel_rfl
noncomputable def F_follow_counts_ordered_1_s1 (R : Nat) (a1 : Int) (a2 : Int) (y3 : Option Addr) (h : GH) (K : Int → GH → Option β) : Option β := G_follow_counts_ordered_1_s1 (F_cmp_Compare_int R) R a1 a2 y3 h K
set_option maxRecDepth 100000 in
theorem CF_follow_counts_ordered_1_s1_sim {R : Nat} : SimOrc Try.prog (CF_follow_counts_ordered_1_s1 (F_cmp_Compare_int R) (β := β)) := by
  intro f args h K r hc
  unfold CF_follow_counts_ordered_1_s1 at hc
  cases hb : Nat.beq f 92 with
  | true =>
    rw [hb] at hc
    simp only [cond_true] at hc
    obtain rfl := Nat.eq_of_beq_eq_true hb
    split at hc
    · exact any_call (F_cmp_Compare_int_sim (K := K) hc)
    · cases hc
  | false =>
  rw [hb] at hc
  simp only [cond_false] at hc
  cases hc
set_option maxRecDepth 100000 in
theorem F_follow_counts_ordered_1_s1_sim {R : Nat} {r : β} {a1 : Int} {a2 : Int} {y3 : Option Addr} {h : GH} {K : Value → GH → Option β} (hc : F_follow_counts_ordered_1_s1 R a1 a2 y3 h (fun q0 h' => K (Value.int .i64 q0) h') = some r) : ∃ v h', K v h' = some r ∧ CallSim Try.prog 91 [Value.int .u8 a1, Value.int .u8 a2, Value.pointer y3] h v h' := by
  unfold F_follow_counts_ordered_1_s1 G_follow_counts_ordered_1_s1 at hc
  obtain ⟨v, h', hk, hs⟩ := gfun_sim (CF_follow_counts_ordered_1_s1_sim (R := R)) mixed_ok (fun f h => by cases h) Try.func91 (by kernel_rfl) hc
  obtain ⟨u0, e0, hk⟩ := exI_v hk; cases e0
  exact ⟨_, h', hk, hs⟩
/-! F99 slices.insertionSortCmpFunc[byte] -/
def CF_slices_insertionSortCmpFunc_byte_s1 (F_follow_counts_ordered_1_s1 : Int → Int → Option Addr → GH → (Int → GH → Option β) → Option β) : Orc β := fun f args h K => bif Nat.beq f 91 then (match args with | [.int .u8 p1, .int .u8 p2, .pointer p3] => F_follow_counts_ordered_1_s1 p1 p2 p3 h (fun q18 h' => K (Value.int .i64 q18) h') | _ => none) else none
def HF_slices_insertionSortCmpFunc_byte_s1 : Hints := ⟨[(1, [0, 1, 2, 3, 8], [(0, [])], none), (4, [0, 1, 2, 3, 8, 9], [(2, [(0, .ty 22), (1, .ty 3), (2, .ty 3), (3, .fn 91 [] [.ptr]), (8, .ty 3)])], none)], [], []⟩
noncomputable def BF_slices_insertionSortCmpFunc_byte_s1 : Code := match Try.f99.body with | some c => c | none => .skip
noncomputable def F_slices_insertionSortCmpFunc_byte_s1_l0 (F_follow_counts_ordered_1_s1 : Int → Int → Option Addr → GH → (Int → GH → Option β) → Option β) (R : Nat) (n : Nat) (y5 : Sl) (y6 : Int) (y7 : Int) (y8 : Option Addr) (y9 : Int) (h : GH) (K0 : GH → Option β) : Option β := gloop (gcode Try.prog (CF_slices_insertionSortCmpFunc_byte_s1 F_follow_counts_ordered_1_s1) Try.f99.ntmps HF_slices_insertionSortCmpFunc_byte_s1 R (at_ [true, false, false] BF_slices_insertionSortCmpFunc_byte_s1)) [0, 1, 2, 3, 8] n [(0, Value.slice y5.a y5.n y5.c), (1, Value.int .i64 y6), (2, Value.int .i64 y7), (3, Value.func (.func 91) #[] #[Value.pointer y8]), (8, Value.int .i64 y9)] h (fun i e' h' => bif Nat.beq i 0 then (K0 h') else none) (fun e' h' => none)
noncomputable def F_slices_insertionSortCmpFunc_byte_s1_l1 (F_follow_counts_ordered_1_s1 : Int → Int → Option Addr → GH → (Int → GH → Option β) → Option β) (R : Nat) (n : Nat) (y10 : Sl) (y11 : Int) (y12 : Int) (y13 : Option Addr) (y14 : Int) (y15 : Int) (h : GH) (K2 : Sl → Int → Int → Option Addr → Int → GH → Option β) : Option β := gloop (gcode Try.prog (CF_slices_insertionSortCmpFunc_byte_s1 F_follow_counts_ordered_1_s1) Try.f99.ntmps HF_slices_insertionSortCmpFunc_byte_s1 R (at_ [true, false, false, true, false, false, true, false, false] BF_slices_insertionSortCmpFunc_byte_s1)) [0, 1, 2, 3, 8, 9] n [(0, Value.slice y10.a y10.n y10.c), (1, Value.int .i64 y11), (2, Value.int .i64 y12), (3, Value.func (.func 91) #[] #[Value.pointer y13]), (8, Value.int .i64 y14), (9, Value.int .i64 y15)] h (fun i e' h' => bif Nat.beq i 2 then (exS (some (e'.get 0)) fun u48 => exI .i64 (some (e'.get 1)) fun u49 => exI .i64 (some (e'.get 2)) fun u50 => exF 91 [] [.ptr] (e'.get 3) fun ga52 gc53 => (match ga52, gc53 with | [], [.pointer p51] => exI .i64 (some (e'.get 8)) fun u54 => K2 u48 u49 u50 p51 u54 h' | _, _ => none)) else none) (fun e' h' => none)
set_option maxRecDepth 100000 in
theorem F_slices_insertionSortCmpFunc_byte_s1_l1_succ (F_follow_counts_ordered_1_s1 : Int → Int → Option Addr → GH → (Int → GH → Option β) → Option β) (R : Nat) (n : Nat) (y10 : Sl) (y11 : Int) (y12 : Int) (y13 : Option Addr) (y14 : Int) (y15 : Int) (h : GH) (K2 : Sl → Int → Int → Option Addr → Int → GH → Option β) : F_slices_insertionSortCmpFunc_byte_s1_l1 F_follow_counts_ordered_1_s1 R (n + 1) y10 y11 y12 y13 y14 y15 h K2 =
    (bif decide (y15 > y11) then exA y10.a fun g21 o22 => within y15 y10.n (exI .u8 (h.cell ⟨g21, o22 + y15.toNat * 1, none⟩) fun x23 => exA y10.a fun g24 o25 => within (IntKind.wrap .i64 (y15 - 1)) y10.n (exI .u8 (h.cell ⟨g24, o25 + (IntKind.wrap .i64 (y15 - 1)).toNat * 1, none⟩) fun x26 => F_follow_counts_ordered_1_s1 x23 x26 y13 h fun r27 h28 => (bif decide (r27 < 0) then exA y10.a fun g29 o30 => within (IntKind.wrap .i64 (y15 - 1)) y10.n (exI .u8 (h28.cell ⟨g29, o30 + (IntKind.wrap .i64 (y15 - 1)).toNat * 1, none⟩) fun x31 => exA y10.a fun g32 o33 => within y15 y10.n (exI .u8 (h28.cell ⟨g32, o33 + y15.toNat * 1, none⟩) fun x34 => exA y10.a fun g35 o36 => within y15 y10.n (gput g35 (o36 + y15.toNat * 1) [Value.int .u8 x31] h28 fun h37 => exA y10.a fun g38 o39 => within (IntKind.wrap .i64 (y15 - 1)) y10.n (gput g38 (o39 + (IntKind.wrap .i64 (y15 - 1)).toNat * 1) [Value.int .u8 x34] h37 fun h40 => F_slices_insertionSortCmpFunc_byte_s1_l1 F_follow_counts_ordered_1_s1 R n y10 y11 y12 y13 y14 (IntKind.wrap .i64 (y15 - 1)) h40 K2)))) else K2 y10 y11 y12 y13 y14 h28))) else K2 y10 y11 y12 y13 y14 h) := by kernel_rfl
set_option maxRecDepth 100000 in
theorem F_slices_insertionSortCmpFunc_byte_s1_l0_succ (F_follow_counts_ordered_1_s1 : Int → Int → Option Addr → GH → (Int → GH → Option β) → Option β) (R : Nat) (n : Nat) (y5 : Sl) (y6 : Int) (y7 : Int) (y8 : Option Addr) (y9 : Int) (h : GH) (K0 : GH → Option β) : F_slices_insertionSortCmpFunc_byte_s1_l0 F_follow_counts_ordered_1_s1 R (n + 1) y5 y6 y7 y8 y9 h K0 =
    (bif decide (y9 < y7) then F_slices_insertionSortCmpFunc_byte_s1_l1 F_follow_counts_ordered_1_s1 R R y5 y6 y7 y8 y9 y9 h (fun w41 w42 w43 y44 w45 h46 => F_slices_insertionSortCmpFunc_byte_s1_l0 F_follow_counts_ordered_1_s1 R n w41 w42 w43 y44 (IntKind.wrap .i64 (w45 + 1)) h46 K0) else K0 h) := by kernel_rfl
noncomputable def G_slices_insertionSortCmpFunc_byte_s1 (F_follow_counts_ordered_1_s1 : Int → Int → Option Addr → GH → (Int → GH → Option β) → Option β) (R : Nat) (a1 : Sl) (a2 : Int) (a3 : Int) (y4 : Option Addr) (h : GH) (K : GH → Option β) : Option β := gfun Try.prog (CF_slices_insertionSortCmpFunc_byte_s1 F_follow_counts_ordered_1_s1) HF_slices_insertionSortCmpFunc_byte_s1 R Try.f99 [Value.slice a1.a a1.n a1.c, Value.int .i64 a2, Value.int .i64 a3, Value.func (.func 91) #[] #[Value.pointer y4]] h (fun _ h' => K h')
set_option maxRecDepth 100000 in
theorem F_slices_insertionSortCmpFunc_byte_s1_gen (F_follow_counts_ordered_1_s1 : Int → Int → Option Addr → GH → (Int → GH → Option β) → Option β) (R : Nat) (a1 : Sl) (a2 : Int) (a3 : Int) (y4 : Option Addr) (h : GH) (K : GH → Option β) : G_slices_insertionSortCmpFunc_byte_s1 F_follow_counts_ordered_1_s1 R a1 a2 a3 y4 h K =
    F_slices_insertionSortCmpFunc_byte_s1_l0 F_follow_counts_ordered_1_s1 R R a1 a2 a3 y4 (IntKind.wrap .i64 (a2 + 1)) h (fun h47 => K h47) := by kernel_rfl
noncomputable def F_slices_insertionSortCmpFunc_byte_s1 (R : Nat) (a1 : Sl) (a2 : Int) (a3 : Int) (y4 : Option Addr) (h : GH) (K : GH → Option β) : Option β := G_slices_insertionSortCmpFunc_byte_s1 (F_follow_counts_ordered_1_s1 R) R a1 a2 a3 y4 h K
set_option maxRecDepth 100000 in
theorem CF_slices_insertionSortCmpFunc_byte_s1_sim {R : Nat} : SimOrc Try.prog (CF_slices_insertionSortCmpFunc_byte_s1 (F_follow_counts_ordered_1_s1 R) (β := β)) := by
  intro f args h K r hc
  unfold CF_slices_insertionSortCmpFunc_byte_s1 at hc
  cases hb : Nat.beq f 91 with
  | true =>
    rw [hb] at hc
    simp only [cond_true] at hc
    obtain rfl := Nat.eq_of_beq_eq_true hb
    split at hc
    · exact any_call (F_follow_counts_ordered_1_s1_sim (K := K) hc)
    · cases hc
  | false =>
  rw [hb] at hc
  simp only [cond_false] at hc
  cases hc
set_option maxRecDepth 100000 in
theorem F_slices_insertionSortCmpFunc_byte_s1_sim {R : Nat} {r : β} {a1 : Sl} {a2 : Int} {a3 : Int} {y4 : Option Addr} {h : GH} {K : Value → GH → Option β} (hc : F_slices_insertionSortCmpFunc_byte_s1 R a1 a2 a3 y4 h (fun h' => K (Value.tuple #[]) h') = some r) : ∃ v h', K v h' = some r ∧ CallSim Try.prog 99 [Value.slice a1.a a1.n a1.c, Value.int .i64 a2, Value.int .i64 a3, Value.func (.func 91) #[] #[Value.pointer y4]] h v h' := by
  unfold F_slices_insertionSortCmpFunc_byte_s1 G_slices_insertionSortCmpFunc_byte_s1 at hc
  obtain ⟨v, h', hk, hs⟩ := gfun_sim (CF_slices_insertionSortCmpFunc_byte_s1_sim (R := R)) mixed_ok (fun f h => by cases h) Try.func99 (by kernel_rfl) hc
  exact ⟨_, h', hk, hs.unit⟩
/-! F102 slices.swapRangeCmpFunc[byte] -/
def CF_slices_swapRangeCmpFunc_byte_s1  : Orc β := fun f args h K => none
def HF_slices_swapRangeCmpFunc_byte_s1 : Hints := ⟨[(1, [0, 1, 2, 3, 10], [(0, [])], none)], [], []⟩
noncomputable def BF_slices_swapRangeCmpFunc_byte_s1 : Code := match Try.f102.body with | some c => c | none => .skip
noncomputable def F_slices_swapRangeCmpFunc_byte_s1_l0  (R : Nat) (n : Nat) (y6 : Sl) (y7 : Int) (y8 : Int) (y9 : Int) (y10 : Int) (h : GH) (K0 : GH → Option β) : Option β := gloop (gcode Try.prog (CF_slices_swapRangeCmpFunc_byte_s1 ) Try.f102.ntmps HF_slices_swapRangeCmpFunc_byte_s1 R (at_ [true, false, false] BF_slices_swapRangeCmpFunc_byte_s1)) [0, 1, 2, 3, 10] n [(0, Value.slice y6.a y6.n y6.c), (1, Value.int .i64 y7), (2, Value.int .i64 y8), (3, Value.int .i64 y9), (10, Value.int .i64 y10)] h (fun i e' h' => bif Nat.beq i 0 then (K0 h') else none) (fun e' h' => none)
set_option maxRecDepth 100000 in
theorem F_slices_swapRangeCmpFunc_byte_s1_l0_succ  (R : Nat) (n : Nat) (y6 : Sl) (y7 : Int) (y8 : Int) (y9 : Int) (y10 : Int) (h : GH) (K0 : GH → Option β) : F_slices_swapRangeCmpFunc_byte_s1_l0  R (n + 1) y6 y7 y8 y9 y10 h K0 =
    (bif decide (y10 < y9) then exA y6.a fun g11 o12 => within (IntKind.wrap .i64 (y8 + y10)) y6.n (exI .u8 (h.cell ⟨g11, o12 + (IntKind.wrap .i64 (y8 + y10)).toNat * 1, none⟩) fun x13 => exA y6.a fun g14 o15 => within (IntKind.wrap .i64 (y7 + y10)) y6.n (exI .u8 (h.cell ⟨g14, o15 + (IntKind.wrap .i64 (y7 + y10)).toNat * 1, none⟩) fun x16 => exA y6.a fun g17 o18 => within (IntKind.wrap .i64 (y7 + y10)) y6.n (gput g17 (o18 + (IntKind.wrap .i64 (y7 + y10)).toNat * 1) [Value.int .u8 x13] h fun h19 => exA y6.a fun g20 o21 => within (IntKind.wrap .i64 (y8 + y10)) y6.n (gput g20 (o21 + (IntKind.wrap .i64 (y8 + y10)).toNat * 1) [Value.int .u8 x16] h19 fun h22 => F_slices_swapRangeCmpFunc_byte_s1_l0 R n y6 y7 y8 y9 (IntKind.wrap .i64 (y10 + 1)) h22 K0)))) else K0 h) := by kernel_rfl
noncomputable def G_slices_swapRangeCmpFunc_byte_s1  (R : Nat) (a1 : Sl) (a2 : Int) (a3 : Int) (a4 : Int) (y5 : Option Addr) (h : GH) (K : GH → Option β) : Option β := gfun Try.prog (CF_slices_swapRangeCmpFunc_byte_s1 ) HF_slices_swapRangeCmpFunc_byte_s1 R Try.f102 [Value.slice a1.a a1.n a1.c, Value.int .i64 a2, Value.int .i64 a3, Value.int .i64 a4, Value.func (.func 91) #[] #[Value.pointer y5]] h (fun _ h' => K h')
set_option maxRecDepth 100000 in
theorem F_slices_swapRangeCmpFunc_byte_s1_gen  (R : Nat) (a1 : Sl) (a2 : Int) (a3 : Int) (a4 : Int) (y5 : Option Addr) (h : GH) (K : GH → Option β) : G_slices_swapRangeCmpFunc_byte_s1  R a1 a2 a3 a4 y5 h K =
    F_slices_swapRangeCmpFunc_byte_s1_l0 R R a1 a2 a3 a4 0 h (fun h23 => K h23) := by kernel_rfl
noncomputable def F_slices_swapRangeCmpFunc_byte_s1 (R : Nat) (a1 : Sl) (a2 : Int) (a3 : Int) (a4 : Int) (y5 : Option Addr) (h : GH) (K : GH → Option β) : Option β := G_slices_swapRangeCmpFunc_byte_s1  R a1 a2 a3 a4 y5 h K
theorem CF_slices_swapRangeCmpFunc_byte_s1_sim : SimOrc Try.prog (CF_slices_swapRangeCmpFunc_byte_s1 (β := β)) := by
  intro f args h K r hc
  cases hc
set_option maxRecDepth 100000 in
theorem F_slices_swapRangeCmpFunc_byte_s1_sim {R : Nat} {r : β} {a1 : Sl} {a2 : Int} {a3 : Int} {a4 : Int} {y5 : Option Addr} {h : GH} {K : Value → GH → Option β} (hc : F_slices_swapRangeCmpFunc_byte_s1 R a1 a2 a3 a4 y5 h (fun h' => K (Value.tuple #[]) h') = some r) : ∃ v h', K v h' = some r ∧ CallSim Try.prog 102 [Value.slice a1.a a1.n a1.c, Value.int .i64 a2, Value.int .i64 a3, Value.int .i64 a4, Value.func (.func 91) #[] #[Value.pointer y5]] h v h' := by
  unfold F_slices_swapRangeCmpFunc_byte_s1 G_slices_swapRangeCmpFunc_byte_s1 at hc
  obtain ⟨v, h', hk, hs⟩ := gfun_sim CF_slices_swapRangeCmpFunc_byte_s1_sim mixed_ok (fun f h => by cases h) Try.func102 (by kernel_rfl) hc
  exact ⟨_, h', hk, hs.unit⟩
/-! F101 slices.rotateCmpFunc[byte] -/
def CF_slices_rotateCmpFunc_byte_s1 (F_slices_swapRangeCmpFunc_byte_s1 : Sl → Int → Int → Int → Option Addr → GH → (GH → Option β) → Option β) : Orc β := fun f args h K => bif Nat.beq f 102 then (match args with | [.slice p1a p1n p1c, .int .i64 p2, .int .i64 p3, .int .i64 p4, .func (.func 91) ⟨[]⟩ ⟨[.pointer p5]⟩] => F_slices_swapRangeCmpFunc_byte_s1 ⟨p1a, p1n, p1c⟩ p2 p3 p4 p5 h (fun h' => K (Value.tuple #[]) h') | _ => none) else none
def HF_slices_rotateCmpFunc_byte_s1 : Hints := ⟨[(2, [0, 2, 4, 10, 11], [(0, [(0, .ty 22), (2, .ty 3), (4, .fn 91 [] [.ptr]), (10, .ty 3)])], none)], [], []⟩
noncomputable def BF_slices_rotateCmpFunc_byte_s1 : Code := match Try.f101.body with | some c => c | none => .skip
noncomputable def F_slices_rotateCmpFunc_byte_s1_l0 (F_slices_swapRangeCmpFunc_byte_s1 : Sl → Int → Int → Int → Option Addr → GH → (GH → Option β) → Option β) (R : Nat) (n : Nat) (y6 : Sl) (y7 : Int) (y8 : Option Addr) (y9 : Int) (y10 : Int) (h : GH) (K0 : Sl → Int → Option Addr → Int → GH → Option β) : Option β := gloop (gcode Try.prog (CF_slices_rotateCmpFunc_byte_s1 F_slices_swapRangeCmpFunc_byte_s1) Try.f101.ntmps HF_slices_rotateCmpFunc_byte_s1 R (at_ [true, true, false, false, false] BF_slices_rotateCmpFunc_byte_s1)) [0, 2, 4, 10, 11] n [(0, Value.slice y6.a y6.n y6.c), (2, Value.int .i64 y7), (4, Value.func (.func 91) #[] #[Value.pointer y8]), (10, Value.int .i64 y9), (11, Value.int .i64 y10)] h (fun i e' h' => bif Nat.beq i 0 then (exS (some (e'.get 0)) fun u23 => exI .i64 (some (e'.get 2)) fun u24 => exF 91 [] [.ptr] (e'.get 4) fun ga26 gc27 => (match ga26, gc27 with | [], [.pointer p25] => exI .i64 (some (e'.get 10)) fun u28 => K0 u23 u24 p25 u28 h' | _, _ => none)) else none) (fun e' h' => none)
set_option maxRecDepth 100000 in
theorem F_slices_rotateCmpFunc_byte_s1_l0_succ (F_slices_swapRangeCmpFunc_byte_s1 : Sl → Int → Int → Int → Option Addr → GH → (GH → Option β) → Option β) (R : Nat) (n : Nat) (y6 : Sl) (y7 : Int) (y8 : Option Addr) (y9 : Int) (y10 : Int) (h : GH) (K0 : Sl → Int → Option Addr → Int → GH → Option β) : F_slices_rotateCmpFunc_byte_s1_l0 F_slices_swapRangeCmpFunc_byte_s1 R (n + 1) y6 y7 y8 y9 y10 h K0 =
    (bif y9 != y10 then (bif decide (y9 > y10) then F_slices_swapRangeCmpFunc_byte_s1 y6 (IntKind.wrap .i64 (y7 - y9)) y7 y10 y8 h fun h15 => F_slices_rotateCmpFunc_byte_s1_l0 F_slices_swapRangeCmpFunc_byte_s1 R n y6 y7 y8 (IntKind.wrap .i64 (y9 - y10)) y10 h15 K0 else F_slices_swapRangeCmpFunc_byte_s1 y6 (IntKind.wrap .i64 (y7 - y9)) (IntKind.wrap .i64 ((IntKind.wrap .i64 (y7 + y10)) - y9)) y9 y8 h fun h16 => F_slices_rotateCmpFunc_byte_s1_l0 F_slices_swapRangeCmpFunc_byte_s1 R n y6 y7 y8 y9 (IntKind.wrap .i64 (y10 - y9)) h16 K0) else K0 y6 y7 y8 y9 h) := by kernel_rfl
noncomputable def G_slices_rotateCmpFunc_byte_s1 (F_slices_swapRangeCmpFunc_byte_s1 : Sl → Int → Int → Int → Option Addr → GH → (GH → Option β) → Option β) (R : Nat) (a1 : Sl) (a2 : Int) (a3 : Int) (a4 : Int) (y5 : Option Addr) (h : GH) (K : GH → Option β) : Option β := gfun Try.prog (CF_slices_rotateCmpFunc_byte_s1 F_slices_swapRangeCmpFunc_byte_s1) HF_slices_rotateCmpFunc_byte_s1 R Try.f101 [Value.slice a1.a a1.n a1.c, Value.int .i64 a2, Value.int .i64 a3, Value.int .i64 a4, Value.func (.func 91) #[] #[Value.pointer y5]] h (fun _ h' => K h')
set_option maxRecDepth 100000 in
theorem F_slices_rotateCmpFunc_byte_s1_gen (F_slices_swapRangeCmpFunc_byte_s1 : Sl → Int → Int → Int → Option Addr → GH → (GH → Option β) → Option β) (R : Nat) (a1 : Sl) (a2 : Int) (a3 : Int) (a4 : Int) (y5 : Option Addr) (h : GH) (K : GH → Option β) : G_slices_rotateCmpFunc_byte_s1 F_slices_swapRangeCmpFunc_byte_s1 R a1 a2 a3 a4 y5 h K =
    F_slices_rotateCmpFunc_byte_s1_l0 F_slices_swapRangeCmpFunc_byte_s1 R R a1 a3 y5 (IntKind.wrap .i64 (a3 - a2)) (IntKind.wrap .i64 (a4 - a3)) h (fun w17 w18 y19 w20 h21 => F_slices_swapRangeCmpFunc_byte_s1 w17 (IntKind.wrap .i64 (w18 - w20)) w18 w20 y19 h21 fun h22 => K h22) := by kernel_rfl
noncomputable def F_slices_rotateCmpFunc_byte_s1 (R : Nat) (a1 : Sl) (a2 : Int) (a3 : Int) (a4 : Int) (y5 : Option Addr) (h : GH) (K : GH → Option β) : Option β := G_slices_rotateCmpFunc_byte_s1 (F_slices_swapRangeCmpFunc_byte_s1 R) R a1 a2 a3 a4 y5 h K
set_option maxRecDepth 100000 in
theorem CF_slices_rotateCmpFunc_byte_s1_sim {R : Nat} : SimOrc Try.prog (CF_slices_rotateCmpFunc_byte_s1 (F_slices_swapRangeCmpFunc_byte_s1 R) (β := β)) := by
  intro f args h K r hc
  unfold CF_slices_rotateCmpFunc_byte_s1 at hc
  cases hb : Nat.beq f 102 with
  | true =>
    rw [hb] at hc
    simp only [cond_true] at hc
    obtain rfl := Nat.eq_of_beq_eq_true hb
    split at hc
    · exact any_call (F_slices_swapRangeCmpFunc_byte_s1_sim (K := K) hc)
    · cases hc
  | false =>
  rw [hb] at hc
  simp only [cond_false] at hc
  cases hc
set_option maxRecDepth 100000 in
theorem F_slices_rotateCmpFunc_byte_s1_sim {R : Nat} {r : β} {a1 : Sl} {a2 : Int} {a3 : Int} {a4 : Int} {y5 : Option Addr} {h : GH} {K : Value → GH → Option β} (hc : F_slices_rotateCmpFunc_byte_s1 R a1 a2 a3 a4 y5 h (fun h' => K (Value.tuple #[]) h') = some r) : ∃ v h', K v h' = some r ∧ CallSim Try.prog 101 [Value.slice a1.a a1.n a1.c, Value.int .i64 a2, Value.int .i64 a3, Value.int .i64 a4, Value.func (.func 91) #[] #[Value.pointer y5]] h v h' := by
  unfold F_slices_rotateCmpFunc_byte_s1 G_slices_rotateCmpFunc_byte_s1 at hc
  obtain ⟨v, h', hk, hs⟩ := gfun_sim (CF_slices_rotateCmpFunc_byte_s1_sim (R := R)) mixed_ok (fun f h => by cases h) Try.func101 (by kernel_rfl) hc
  exact ⟨_, h', hk, hs.unit⟩
/-! F100 slices.symMergeCmpFunc[byte] -/
def CF_slices_symMergeCmpFunc_byte_s1 (F_follow_counts_ordered_1_s1 : Int → Int → Option Addr → GH → (Int → GH → Option β) → Option β) (F_slices_rotateCmpFunc_byte_s1 : Sl → Int → Int → Int → Option Addr → GH → (GH → Option β) → Option β) (F_slices_symMergeCmpFunc_byte_s1 : Sl → Int → Int → Int → Option Addr → GH → (GH → Option β) → Option β) : Orc β := fun f args h K => bif Nat.beq f 91 then (match args with | [.int .u8 p1, .int .u8 p2, .pointer p3] => F_follow_counts_ordered_1_s1 p1 p2 p3 h (fun q18 h' => K (Value.int .i64 q18) h') | _ => none) else (bif Nat.beq f 101 then (match args with | [.slice p1a p1n p1c, .int .i64 p2, .int .i64 p3, .int .i64 p4, .func (.func 91) ⟨[]⟩ ⟨[.pointer p5]⟩] => F_slices_rotateCmpFunc_byte_s1 ⟨p1a, p1n, p1c⟩ p2 p3 p4 p5 h (fun h' => K (Value.tuple #[]) h') | _ => none) else (bif Nat.beq f 100 then (match args with | [.slice p1a p1n p1c, .int .i64 p2, .int .i64 p3, .int .i64 p4, .func (.func 91) ⟨[]⟩ ⟨[.pointer p5]⟩] => F_slices_symMergeCmpFunc_byte_s1 ⟨p1a, p1n, p1c⟩ p2 p3 p4 p5 h (fun h' => K (Value.tuple #[]) h') | _ => none) else none))
def HF_slices_symMergeCmpFunc_byte_s1 : Hints := ⟨[(3, [0, 1, 4, 10, 11], [(0, [(0, .ty 22), (1, .ty 3), (10, .ty 3)])], none), (9, [0, 10, 13], [(2, [])], none), (15, [0, 2, 4, 14, 15], [(4, [(0, .ty 22), (2, .ty 3), (14, .ty 3)])], none), (21, [0, 14, 17], [(6, [])], none), (33, [0, 1, 2, 3, 4, 18, 19, 20, 21, 22], [(8, [(0, .ty 22), (1, .ty 3), (2, .ty 3), (3, .ty 3), (4, .fn 91 [] [.ptr]), (18, .ty 3), (19, .ty 3), (20, .ty 3)])], none)], [], []⟩
noncomputable def BF_slices_symMergeCmpFunc_byte_s1 : Code := match Try.f100.body with | some c => c | none => .skip
noncomputable def F_slices_symMergeCmpFunc_byte_s1_l0 (F_follow_counts_ordered_1_s1 : Int → Int → Option Addr → GH → (Int → GH → Option β) → Option β) (F_slices_rotateCmpFunc_byte_s1 : Sl → Int → Int → Int → Option Addr → GH → (GH → Option β) → Option β) (F_slices_symMergeCmpFunc_byte_s1 : Sl → Int → Int → Int → Option Addr → GH → (GH → Option β) → Option β) (R : Nat) (n : Nat) (y6 : Sl) (y7 : Int) (y8 : Option Addr) (y9 : Int) (y10 : Int) (h : GH) (K0 : Sl → Int → Int → GH → Option β) : Option β := gloop (gcode Try.prog (CF_slices_symMergeCmpFunc_byte_s1 F_follow_counts_ordered_1_s1 F_slices_rotateCmpFunc_byte_s1 F_slices_symMergeCmpFunc_byte_s1) Try.f100.ntmps HF_slices_symMergeCmpFunc_byte_s1 R (at_ [false, true, false, true, true, false, false, false] BF_slices_symMergeCmpFunc_byte_s1)) [0, 1, 4, 10, 11] n [(0, Value.slice y6.a y6.n y6.c), (1, Value.int .i64 y7), (4, Value.func (.func 91) #[] #[Value.pointer y8]), (10, Value.int .i64 y9), (11, Value.int .i64 y10)] h (fun i e' h' => bif Nat.beq i 0 then (exS (some (e'.get 0)) fun u148 => exI .i64 (some (e'.get 1)) fun u149 => exI .i64 (some (e'.get 10)) fun u150 => K0 u148 u149 u150 h') else none) (fun e' h' => none)
noncomputable def F_slices_symMergeCmpFunc_byte_s1_l1 (F_follow_counts_ordered_1_s1 : Int → Int → Option Addr → GH → (Int → GH → Option β) → Option β) (F_slices_rotateCmpFunc_byte_s1 : Sl → Int → Int → Int → Option Addr → GH → (GH → Option β) → Option β) (F_slices_symMergeCmpFunc_byte_s1 : Sl → Int → Int → Int → Option Addr → GH → (GH → Option β) → Option β) (R : Nat) (n : Nat) (y26 : Sl) (y27 : Int) (y28 : Int) (h : GH) (K2 : GH → Option β) : Option β := gloop (gcode Try.prog (CF_slices_symMergeCmpFunc_byte_s1 F_follow_counts_ordered_1_s1 F_slices_rotateCmpFunc_byte_s1 F_slices_symMergeCmpFunc_byte_s1) Try.f100.ntmps HF_slices_symMergeCmpFunc_byte_s1 R (at_ [false, true, false, true, true, true, false, true, false, false] BF_slices_symMergeCmpFunc_byte_s1)) [0, 10, 13] n [(0, Value.slice y26.a y26.n y26.c), (10, Value.int .i64 y27), (13, Value.int .i64 y28)] h (fun i e' h' => bif Nat.beq i 2 then (K2 h') else none) (fun e' h' => none)
noncomputable def F_slices_symMergeCmpFunc_byte_s1_l2 (F_follow_counts_ordered_1_s1 : Int → Int → Option Addr → GH → (Int → GH → Option β) → Option β) (F_slices_rotateCmpFunc_byte_s1 : Sl → Int → Int → Int → Option Addr → GH → (GH → Option β) → Option β) (F_slices_symMergeCmpFunc_byte_s1 : Sl → Int → Int → Int → Option Addr → GH → (GH → Option β) → Option β) (R : Nat) (n : Nat) (y42 : Sl) (y43 : Int) (y44 : Option Addr) (y45 : Int) (y46 : Int) (h : GH) (K4 : Sl → Int → Int → GH → Option β) : Option β := gloop (gcode Try.prog (CF_slices_symMergeCmpFunc_byte_s1 F_follow_counts_ordered_1_s1 F_slices_rotateCmpFunc_byte_s1 F_slices_symMergeCmpFunc_byte_s1) Try.f100.ntmps HF_slices_symMergeCmpFunc_byte_s1 R (at_ [true, false, true, false, true, true, false, false, false] BF_slices_symMergeCmpFunc_byte_s1)) [0, 2, 4, 14, 15] n [(0, Value.slice y42.a y42.n y42.c), (2, Value.int .i64 y43), (4, Value.func (.func 91) #[] #[Value.pointer y44]), (14, Value.int .i64 y45), (15, Value.int .i64 y46)] h (fun i e' h' => bif Nat.beq i 4 then (exS (some (e'.get 0)) fun u151 => exI .i64 (some (e'.get 2)) fun u152 => exI .i64 (some (e'.get 14)) fun u153 => K4 u151 u152 u153 h') else none) (fun e' h' => none)
noncomputable def F_slices_symMergeCmpFunc_byte_s1_l3 (F_follow_counts_ordered_1_s1 : Int → Int → Option Addr → GH → (Int → GH → Option β) → Option β) (F_slices_rotateCmpFunc_byte_s1 : Sl → Int → Int → Int → Option Addr → GH → (GH → Option β) → Option β) (F_slices_symMergeCmpFunc_byte_s1 : Sl → Int → Int → Int → Option Addr → GH → (GH → Option β) → Option β) (R : Nat) (n : Nat) (y62 : Sl) (y63 : Int) (y64 : Int) (h : GH) (K6 : GH → Option β) : Option β := gloop (gcode Try.prog (CF_slices_symMergeCmpFunc_byte_s1 F_follow_counts_ordered_1_s1 F_slices_rotateCmpFunc_byte_s1 F_slices_symMergeCmpFunc_byte_s1) Try.f100.ntmps HF_slices_symMergeCmpFunc_byte_s1 R (at_ [true, false, true, false, true, true, true, false, true, false, false] BF_slices_symMergeCmpFunc_byte_s1)) [0, 14, 17] n [(0, Value.slice y62.a y62.n y62.c), (14, Value.int .i64 y63), (17, Value.int .i64 y64)] h (fun i e' h' => bif Nat.beq i 6 then (K6 h') else none) (fun e' h' => none)
noncomputable def F_slices_symMergeCmpFunc_byte_s1_l4 (F_follow_counts_ordered_1_s1 : Int → Int → Option Addr → GH → (Int → GH → Option β) → Option β) (F_slices_rotateCmpFunc_byte_s1 : Sl → Int → Int → Int → Option Addr → GH → (GH → Option β) → Option β) (F_slices_symMergeCmpFunc_byte_s1 : Sl → Int → Int → Int → Option Addr → GH → (GH → Option β) → Option β) (R : Nat) (n : Nat) (y78 : Sl) (y79 : Int) (y80 : Int) (y81 : Int) (y82 : Option Addr) (y83 : Int) (y84 : Int) (y85 : Int) (y86 : Int) (y87 : Int) (h : GH) (K8 : Sl → Int → Int → Int → Option Addr → Int → Int → Int → GH → Option β) : Option β := gloop (gcode Try.prog (CF_slices_symMergeCmpFunc_byte_s1 F_follow_counts_ordered_1_s1 F_slices_rotateCmpFunc_byte_s1 F_slices_symMergeCmpFunc_byte_s1) Try.f100.ntmps HF_slices_symMergeCmpFunc_byte_s1 R (at_ [true, true, true, true, true, true, true, false, false, false] BF_slices_symMergeCmpFunc_byte_s1)) [0, 1, 2, 3, 4, 18, 19, 20, 21, 22] n [(0, Value.slice y78.a y78.n y78.c), (1, Value.int .i64 y79), (2, Value.int .i64 y80), (3, Value.int .i64 y81), (4, Value.func (.func 91) #[] #[Value.pointer y82]), (18, Value.int .i64 y83), (19, Value.int .i64 y84), (20, Value.int .i64 y85), (21, Value.int .i64 y86), (22, Value.int .i64 y87)] h (fun i e' h' => bif Nat.beq i 8 then (exS (some (e'.get 0)) fun u154 => exI .i64 (some (e'.get 1)) fun u155 => exI .i64 (some (e'.get 2)) fun u156 => exI .i64 (some (e'.get 3)) fun u157 => exF 91 [] [.ptr] (e'.get 4) fun ga159 gc160 => (match ga159, gc160 with | [], [.pointer p158] => exI .i64 (some (e'.get 18)) fun u161 => exI .i64 (some (e'.get 19)) fun u162 => exI .i64 (some (e'.get 20)) fun u163 => K8 u154 u155 u156 u157 p158 u161 u162 u163 h' | _, _ => none)) else none) (fun e' h' => none)
set_option maxRecDepth 100000 in
theorem F_slices_symMergeCmpFunc_byte_s1_l4_succ (F_follow_counts_ordered_1_s1 : Int → Int → Option Addr → GH → (Int → GH → Option β) → Option β) (F_slices_rotateCmpFunc_byte_s1 : Sl → Int → Int → Int → Option Addr → GH → (GH → Option β) → Option β) (F_slices_symMergeCmpFunc_byte_s1 : Sl → Int → Int → Int → Option Addr → GH → (GH → Option β) → Option β) (R : Nat) (n : Nat) (y78 : Sl) (y79 : Int) (y80 : Int) (y81 : Int) (y82 : Option Addr) (y83 : Int) (y84 : Int) (y85 : Int) (y86 : Int) (y87 : Int) (h : GH) (K8 : Sl → Int → Int → Int → Option Addr → Int → Int → Int → GH → Option β) : F_slices_symMergeCmpFunc_byte_s1_l4 F_follow_counts_ordered_1_s1 F_slices_rotateCmpFunc_byte_s1 F_slices_symMergeCmpFunc_byte_s1 R (n + 1) y78 y79 y80 y81 y82 y83 y84 y85 y86 y87 h K8 =
    (bif decide (y85 < y86) then exA y78.a fun g96 o97 => within (IntKind.wrap .i64 (y87 - (IntKind.wrap .i64 (shrI .u64 (IntKind.wrap .u64 (IntKind.wrap .i64 (y85 + y86))) 1)))) y78.n (exI .u8 (h.cell ⟨g96, o97 + (IntKind.wrap .i64 (y87 - (IntKind.wrap .i64 (shrI .u64 (IntKind.wrap .u64 (IntKind.wrap .i64 (y85 + y86))) 1)))).toNat * 1, none⟩) fun x98 => exA y78.a fun g99 o100 => within (IntKind.wrap .i64 (shrI .u64 (IntKind.wrap .u64 (IntKind.wrap .i64 (y85 + y86))) 1)) y78.n (exI .u8 (h.cell ⟨g99, o100 + (IntKind.wrap .i64 (shrI .u64 (IntKind.wrap .u64 (IntKind.wrap .i64 (y85 + y86))) 1)).toNat * 1, none⟩) fun x101 => F_follow_counts_ordered_1_s1 x98 x101 y82 h fun r102 h103 => (bif !(decide (r102 < 0)) then F_slices_symMergeCmpFunc_byte_s1_l4 F_follow_counts_ordered_1_s1 F_slices_rotateCmpFunc_byte_s1 F_slices_symMergeCmpFunc_byte_s1 R n y78 y79 y80 y81 y82 y83 y84 (IntKind.wrap .i64 ((IntKind.wrap .i64 (shrI .u64 (IntKind.wrap .u64 (IntKind.wrap .i64 (y85 + y86))) 1)) + 1)) y86 y87 h103 K8 else F_slices_symMergeCmpFunc_byte_s1_l4 F_follow_counts_ordered_1_s1 F_slices_rotateCmpFunc_byte_s1 F_slices_symMergeCmpFunc_byte_s1 R n y78 y79 y80 y81 y82 y83 y84 y85 (IntKind.wrap .i64 (shrI .u64 (IntKind.wrap .u64 (IntKind.wrap .i64 (y85 + y86))) 1)) y87 h103 K8))) else K8 y78 y79 y80 y81 y82 y83 y84 y85 h) := by kernel_rfl
set_option maxRecDepth 100000 in
theorem F_slices_symMergeCmpFunc_byte_s1_l3_succ (F_follow_counts_ordered_1_s1 : Int → Int → Option Addr → GH → (Int → GH → Option β) → Option β) (F_slices_rotateCmpFunc_byte_s1 : Sl → Int → Int → Int → Option Addr → GH → (GH → Option β) → Option β) (F_slices_symMergeCmpFunc_byte_s1 : Sl → Int → Int → Int → Option Addr → GH → (GH → Option β) → Option β) (R : Nat) (n : Nat) (y62 : Sl) (y63 : Int) (y64 : Int) (h : GH) (K6 : GH → Option β) : F_slices_symMergeCmpFunc_byte_s1_l3 F_follow_counts_ordered_1_s1 F_slices_rotateCmpFunc_byte_s1 F_slices_symMergeCmpFunc_byte_s1 R (n + 1) y62 y63 y64 h K6 =
    (bif decide (y64 > y63) then exA y62.a fun g65 o66 => within (IntKind.wrap .i64 (y64 - 1)) y62.n (exI .u8 (h.cell ⟨g65, o66 + (IntKind.wrap .i64 (y64 - 1)).toNat * 1, none⟩) fun x67 => exA y62.a fun g68 o69 => within y64 y62.n (exI .u8 (h.cell ⟨g68, o69 + y64.toNat * 1, none⟩) fun x70 => exA y62.a fun g71 o72 => within y64 y62.n (gput g71 (o72 + y64.toNat * 1) [Value.int .u8 x67] h fun h73 => exA y62.a fun g74 o75 => within (IntKind.wrap .i64 (y64 - 1)) y62.n (gput g74 (o75 + (IntKind.wrap .i64 (y64 - 1)).toNat * 1) [Value.int .u8 x70] h73 fun h76 => F_slices_symMergeCmpFunc_byte_s1_l3 F_follow_counts_ordered_1_s1 F_slices_rotateCmpFunc_byte_s1 F_slices_symMergeCmpFunc_byte_s1 R n y62 y63 (IntKind.wrap .i64 (y64 - 1)) h76 K6)))) else K6 h) := by kernel_rfl
set_option maxRecDepth 100000 in
theorem F_slices_symMergeCmpFunc_byte_s1_l2_succ (F_follow_counts_ordered_1_s1 : Int → Int → Option Addr → GH → (Int → GH → Option β) → Option β) (F_slices_rotateCmpFunc_byte_s1 : Sl → Int → Int → Int → Option Addr → GH → (GH → Option β) → Option β) (F_slices_symMergeCmpFunc_byte_s1 : Sl → Int → Int → Int → Option Addr → GH → (GH → Option β) → Option β) (R : Nat) (n : Nat) (y42 : Sl) (y43 : Int) (y44 : Option Addr) (y45 : Int) (y46 : Int) (h : GH) (K4 : Sl → Int → Int → GH → Option β) : F_slices_symMergeCmpFunc_byte_s1_l2 F_follow_counts_ordered_1_s1 F_slices_rotateCmpFunc_byte_s1 F_slices_symMergeCmpFunc_byte_s1 R (n + 1) y42 y43 y44 y45 y46 h K4 =
    (bif decide (y45 < y46) then exA y42.a fun g50 o51 => within y43 y42.n (exI .u8 (h.cell ⟨g50, o51 + y43.toNat * 1, none⟩) fun x52 => exA y42.a fun g53 o54 => within (IntKind.wrap .i64 (shrI .u64 (IntKind.wrap .u64 (IntKind.wrap .i64 (y45 + y46))) 1)) y42.n (exI .u8 (h.cell ⟨g53, o54 + (IntKind.wrap .i64 (shrI .u64 (IntKind.wrap .u64 (IntKind.wrap .i64 (y45 + y46))) 1)).toNat * 1, none⟩) fun x55 => F_follow_counts_ordered_1_s1 x52 x55 y44 h fun r56 h57 => (bif !(decide (r56 < 0)) then F_slices_symMergeCmpFunc_byte_s1_l2 F_follow_counts_ordered_1_s1 F_slices_rotateCmpFunc_byte_s1 F_slices_symMergeCmpFunc_byte_s1 R n y42 y43 y44 (IntKind.wrap .i64 ((IntKind.wrap .i64 (shrI .u64 (IntKind.wrap .u64 (IntKind.wrap .i64 (y45 + y46))) 1)) + 1)) y46 h57 K4 else F_slices_symMergeCmpFunc_byte_s1_l2 F_follow_counts_ordered_1_s1 F_slices_rotateCmpFunc_byte_s1 F_slices_symMergeCmpFunc_byte_s1 R n y42 y43 y44 y45 (IntKind.wrap .i64 (shrI .u64 (IntKind.wrap .u64 (IntKind.wrap .i64 (y45 + y46))) 1)) h57 K4))) else K4 y42 y43 y45 h) := by kernel_rfl
set_option maxRecDepth 100000 in
theorem F_slices_symMergeCmpFunc_byte_s1_l1_succ (F_follow_counts_ordered_1_s1 : Int → Int → Option Addr → GH → (Int → GH → Option β) → Option β) (F_slices_rotateCmpFunc_byte_s1 : Sl → Int → Int → Int → Option Addr → GH → (GH → Option β) → Option β) (F_slices_symMergeCmpFunc_byte_s1 : Sl → Int → Int → Int → Option Addr → GH → (GH → Option β) → Option β) (R : Nat) (n : Nat) (y26 : Sl) (y27 : Int) (y28 : Int) (h : GH) (K2 : GH → Option β) : F_slices_symMergeCmpFunc_byte_s1_l1 F_follow_counts_ordered_1_s1 F_slices_rotateCmpFunc_byte_s1 F_slices_symMergeCmpFunc_byte_s1 R (n + 1) y26 y27 y28 h K2 =
    (bif decide (y28 < (IntKind.wrap .i64 (y27 - 1))) then exA y26.a fun g29 o30 => within (IntKind.wrap .i64 (y28 + 1)) y26.n (exI .u8 (h.cell ⟨g29, o30 + (IntKind.wrap .i64 (y28 + 1)).toNat * 1, none⟩) fun x31 => exA y26.a fun g32 o33 => within y28 y26.n (exI .u8 (h.cell ⟨g32, o33 + y28.toNat * 1, none⟩) fun x34 => exA y26.a fun g35 o36 => within y28 y26.n (gput g35 (o36 + y28.toNat * 1) [Value.int .u8 x31] h fun h37 => exA y26.a fun g38 o39 => within (IntKind.wrap .i64 (y28 + 1)) y26.n (gput g38 (o39 + (IntKind.wrap .i64 (y28 + 1)).toNat * 1) [Value.int .u8 x34] h37 fun h40 => F_slices_symMergeCmpFunc_byte_s1_l1 F_follow_counts_ordered_1_s1 F_slices_rotateCmpFunc_byte_s1 F_slices_symMergeCmpFunc_byte_s1 R n y26 y27 (IntKind.wrap .i64 (y28 + 1)) h40 K2)))) else K2 h) := by kernel_rfl
set_option maxRecDepth 100000 in
theorem F_slices_symMergeCmpFunc_byte_s1_l0_succ (F_follow_counts_ordered_1_s1 : Int → Int → Option Addr → GH → (Int → GH → Option β) → Option β) (F_slices_rotateCmpFunc_byte_s1 : Sl → Int → Int → Int → Option Addr → GH → (GH → Option β) → Option β) (F_slices_symMergeCmpFunc_byte_s1 : Sl → Int → Int → Int → Option Addr → GH → (GH → Option β) → Option β) (R : Nat) (n : Nat) (y6 : Sl) (y7 : Int) (y8 : Option Addr) (y9 : Int) (y10 : Int) (h : GH) (K0 : Sl → Int → Int → GH → Option β) : F_slices_symMergeCmpFunc_byte_s1_l0 F_follow_counts_ordered_1_s1 F_slices_rotateCmpFunc_byte_s1 F_slices_symMergeCmpFunc_byte_s1 R (n + 1) y6 y7 y8 y9 y10 h K0 =
    (bif decide (y9 < y10) then exA y6.a fun g14 o15 => within (IntKind.wrap .i64 (shrI .u64 (IntKind.wrap .u64 (IntKind.wrap .i64 (y9 + y10))) 1)) y6.n (exI .u8 (h.cell ⟨g14, o15 + (IntKind.wrap .i64 (shrI .u64 (IntKind.wrap .u64 (IntKind.wrap .i64 (y9 + y10))) 1)).toNat * 1, none⟩) fun x16 => exA y6.a fun g17 o18 => within y7 y6.n (exI .u8 (h.cell ⟨g17, o18 + y7.toNat * 1, none⟩) fun x19 => F_follow_counts_ordered_1_s1 x16 x19 y8 h fun r20 h21 => (bif decide (r20 < 0) then F_slices_symMergeCmpFunc_byte_s1_l0 F_follow_counts_ordered_1_s1 F_slices_rotateCmpFunc_byte_s1 F_slices_symMergeCmpFunc_byte_s1 R n y6 y7 y8 (IntKind.wrap .i64 ((IntKind.wrap .i64 (shrI .u64 (IntKind.wrap .u64 (IntKind.wrap .i64 (y9 + y10))) 1)) + 1)) y10 h21 K0 else F_slices_symMergeCmpFunc_byte_s1_l0 F_follow_counts_ordered_1_s1 F_slices_rotateCmpFunc_byte_s1 F_slices_symMergeCmpFunc_byte_s1 R n y6 y7 y8 y9 (IntKind.wrap .i64 (shrI .u64 (IntKind.wrap .u64 (IntKind.wrap .i64 (y9 + y10))) 1)) h21 K0))) else K0 y6 y7 y9 h) := by kernel_rfl
noncomputable def G_slices_symMergeCmpFunc_byte_s1 (F_follow_counts_ordered_1_s1 : Int → Int → Option Addr → GH → (Int → GH → Option β) → Option β) (F_slices_rotateCmpFunc_byte_s1 : Sl → Int → Int → Int → Option Addr → GH → (GH → Option β) → Option β) (F_slices_symMergeCmpFunc_byte_s1 : Sl → Int → Int → Int → Option Addr → GH → (GH → Option β) → Option β) (R : Nat) (a1 : Sl) (a2 : Int) (a3 : Int) (a4 : Int) (y5 : Option Addr) (h : GH) (K : GH → Option β) : Option β := gfun Try.prog (CF_slices_symMergeCmpFunc_byte_s1 F_follow_counts_ordered_1_s1 F_slices_rotateCmpFunc_byte_s1 F_slices_symMergeCmpFunc_byte_s1) HF_slices_symMergeCmpFunc_byte_s1 R Try.f100 [Value.slice a1.a a1.n a1.c, Value.int .i64 a2, Value.int .i64 a3, Value.int .i64 a4, Value.func (.func 91) #[] #[Value.pointer y5]] h (fun _ h' => K h')
set_option maxRecDepth 100000 in
theorem F_slices_symMergeCmpFunc_byte_s1_gen (F_follow_counts_ordered_1_s1 : Int → Int → Option Addr → GH → (Int → GH → Option β) → Option β) (F_slices_rotateCmpFunc_byte_s1 : Sl → Int → Int → Int → Option Addr → GH → (GH → Option β) → Option β) (F_slices_symMergeCmpFunc_byte_s1 : Sl → Int → Int → Int → Option Addr → GH → (GH → Option β) → Option β) (R : Nat) (a1 : Sl) (a2 : Int) (a3 : Int) (a4 : Int) (y5 : Option Addr) (h : GH) (K : GH → Option β) : G_slices_symMergeCmpFunc_byte_s1 F_follow_counts_ordered_1_s1 F_slices_rotateCmpFunc_byte_s1 F_slices_symMergeCmpFunc_byte_s1 R a1 a2 a3 a4 y5 h K =
    (bif (IntKind.wrap .i64 (a3 - a2)) == 1 then F_slices_symMergeCmpFunc_byte_s1_l0 F_follow_counts_ordered_1_s1 F_slices_rotateCmpFunc_byte_s1 F_slices_symMergeCmpFunc_byte_s1 R R a1 a2 y5 a3 a4 h (fun w22 w23 w24 h25 => F_slices_symMergeCmpFunc_byte_s1_l1 F_follow_counts_ordered_1_s1 F_slices_rotateCmpFunc_byte_s1 F_slices_symMergeCmpFunc_byte_s1 R R w22 w24 w23 h25 (fun h41 => K h41)) else (bif (IntKind.wrap .i64 (a4 - a3)) == 1 then F_slices_symMergeCmpFunc_byte_s1_l2 F_follow_counts_ordered_1_s1 F_slices_rotateCmpFunc_byte_s1 F_slices_symMergeCmpFunc_byte_s1 R R a1 a3 y5 a2 a3 h (fun w58 w59 w60 h61 => F_slices_symMergeCmpFunc_byte_s1_l3 F_follow_counts_ordered_1_s1 F_slices_rotateCmpFunc_byte_s1 F_slices_symMergeCmpFunc_byte_s1 R R w58 w60 w59 h61 (fun h77 => K h77)) else (bif decide (a3 > (IntKind.wrap .i64 (shrI .u64 (IntKind.wrap .u64 (IntKind.wrap .i64 (a2 + a4))) 1))) then F_slices_symMergeCmpFunc_byte_s1_l4 F_follow_counts_ordered_1_s1 F_slices_rotateCmpFunc_byte_s1 F_slices_symMergeCmpFunc_byte_s1 R R a1 a2 a3 a4 y5 (IntKind.wrap .i64 (shrI .u64 (IntKind.wrap .u64 (IntKind.wrap .i64 (a2 + a4))) 1)) (IntKind.wrap .i64 ((IntKind.wrap .i64 (shrI .u64 (IntKind.wrap .u64 (IntKind.wrap .i64 (a2 + a4))) 1)) + a3)) (IntKind.wrap .i64 ((IntKind.wrap .i64 ((IntKind.wrap .i64 (shrI .u64 (IntKind.wrap .u64 (IntKind.wrap .i64 (a2 + a4))) 1)) + a3)) - a4)) (IntKind.wrap .i64 (shrI .u64 (IntKind.wrap .u64 (IntKind.wrap .i64 (a2 + a4))) 1)) (IntKind.wrap .i64 ((IntKind.wrap .i64 ((IntKind.wrap .i64 (shrI .u64 (IntKind.wrap .u64 (IntKind.wrap .i64 (a2 + a4))) 1)) + a3)) - 1)) h (fun w104 w105 w106 w107 y108 w109 w110 w111 h112 => (bif decide (w111 < w106) then (bif decide (w106 < (IntKind.wrap .i64 (w110 - w111))) then F_slices_rotateCmpFunc_byte_s1 w104 w111 w106 (IntKind.wrap .i64 (w110 - w111)) y108 h112 fun h113 => (bif decide (w105 < w111) then (bif decide (w111 < w109) then F_slices_symMergeCmpFunc_byte_s1 w104 w105 w111 w109 y108 h113 fun h114 => (bif decide (w109 < (IntKind.wrap .i64 (w110 - w111))) then (bif decide ((IntKind.wrap .i64 (w110 - w111)) < w107) then F_slices_symMergeCmpFunc_byte_s1 w104 w109 (IntKind.wrap .i64 (w110 - w111)) w107 y108 h114 fun h115 => K h115 else K h114) else K h114) else (bif decide (w109 < (IntKind.wrap .i64 (w110 - w111))) then (bif decide ((IntKind.wrap .i64 (w110 - w111)) < w107) then F_slices_symMergeCmpFunc_byte_s1 w104 w109 (IntKind.wrap .i64 (w110 - w111)) w107 y108 h113 fun h116 => K h116 else K h113) else K h113)) else (bif decide (w109 < (IntKind.wrap .i64 (w110 - w111))) then (bif decide ((IntKind.wrap .i64 (w110 - w111)) < w107) then F_slices_symMergeCmpFunc_byte_s1 w104 w109 (IntKind.wrap .i64 (w110 - w111)) w107 y108 h113 fun h117 => K h117 else K h113) else K h113)) else (bif decide (w105 < w111) then (bif decide (w111 < w109) then F_slices_symMergeCmpFunc_byte_s1 w104 w105 w111 w109 y108 h112 fun h118 => (bif decide (w109 < (IntKind.wrap .i64 (w110 - w111))) then (bif decide ((IntKind.wrap .i64 (w110 - w111)) < w107) then F_slices_symMergeCmpFunc_byte_s1 w104 w109 (IntKind.wrap .i64 (w110 - w111)) w107 y108 h118 fun h119 => K h119 else K h118) else K h118) else (bif decide (w109 < (IntKind.wrap .i64 (w110 - w111))) then (bif decide ((IntKind.wrap .i64 (w110 - w111)) < w107) then F_slices_symMergeCmpFunc_byte_s1 w104 w109 (IntKind.wrap .i64 (w110 - w111)) w107 y108 h112 fun h120 => K h120 else K h112) else K h112)) else (bif decide (w109 < (IntKind.wrap .i64 (w110 - w111))) then (bif decide ((IntKind.wrap .i64 (w110 - w111)) < w107) then F_slices_symMergeCmpFunc_byte_s1 w104 w109 (IntKind.wrap .i64 (w110 - w111)) w107 y108 h112 fun h121 => K h121 else K h112) else K h112))) else (bif decide (w105 < w111) then (bif decide (w111 < w109) then F_slices_symMergeCmpFunc_byte_s1 w104 w105 w111 w109 y108 h112 fun h122 => (bif decide (w109 < (IntKind.wrap .i64 (w110 - w111))) then (bif decide ((IntKind.wrap .i64 (w110 - w111)) < w107) then F_slices_symMergeCmpFunc_byte_s1 w104 w109 (IntKind.wrap .i64 (w110 - w111)) w107 y108 h122 fun h123 => K h123 else K h122) else K h122) else (bif decide (w109 < (IntKind.wrap .i64 (w110 - w111))) then (bif decide ((IntKind.wrap .i64 (w110 - w111)) < w107) then F_slices_symMergeCmpFunc_byte_s1 w104 w109 (IntKind.wrap .i64 (w110 - w111)) w107 y108 h112 fun h124 => K h124 else K h112) else K h112)) else (bif decide (w109 < (IntKind.wrap .i64 (w110 - w111))) then (bif decide ((IntKind.wrap .i64 (w110 - w111)) < w107) then F_slices_symMergeCmpFunc_byte_s1 w104 w109 (IntKind.wrap .i64 (w110 - w111)) w107 y108 h112 fun h125 => K h125 else K h112) else K h112)))) else F_slices_symMergeCmpFunc_byte_s1_l4 F_follow_counts_ordered_1_s1 F_slices_rotateCmpFunc_byte_s1 F_slices_symMergeCmpFunc_byte_s1 R R a1 a2 a3 a4 y5 (IntKind.wrap .i64 (shrI .u64 (IntKind.wrap .u64 (IntKind.wrap .i64 (a2 + a4))) 1)) (IntKind.wrap .i64 ((IntKind.wrap .i64 (shrI .u64 (IntKind.wrap .u64 (IntKind.wrap .i64 (a2 + a4))) 1)) + a3)) a2 a3 (IntKind.wrap .i64 ((IntKind.wrap .i64 ((IntKind.wrap .i64 (shrI .u64 (IntKind.wrap .u64 (IntKind.wrap .i64 (a2 + a4))) 1)) + a3)) - 1)) h (fun w126 w127 w128 w129 y130 w131 w132 w133 h134 => (bif decide (w133 < w128) then (bif decide (w128 < (IntKind.wrap .i64 (w132 - w133))) then F_slices_rotateCmpFunc_byte_s1 w126 w133 w128 (IntKind.wrap .i64 (w132 - w133)) y130 h134 fun h135 => (bif decide (w127 < w133) then (bif decide (w133 < w131) then F_slices_symMergeCmpFunc_byte_s1 w126 w127 w133 w131 y130 h135 fun h136 => (bif decide (w131 < (IntKind.wrap .i64 (w132 - w133))) then (bif decide ((IntKind.wrap .i64 (w132 - w133)) < w129) then F_slices_symMergeCmpFunc_byte_s1 w126 w131 (IntKind.wrap .i64 (w132 - w133)) w129 y130 h136 fun h137 => K h137 else K h136) else K h136) else (bif decide (w131 < (IntKind.wrap .i64 (w132 - w133))) then (bif decide ((IntKind.wrap .i64 (w132 - w133)) < w129) then F_slices_symMergeCmpFunc_byte_s1 w126 w131 (IntKind.wrap .i64 (w132 - w133)) w129 y130 h135 fun h138 => K h138 else K h135) else K h135)) else (bif decide (w131 < (IntKind.wrap .i64 (w132 - w133))) then (bif decide ((IntKind.wrap .i64 (w132 - w133)) < w129) then F_slices_symMergeCmpFunc_byte_s1 w126 w131 (IntKind.wrap .i64 (w132 - w133)) w129 y130 h135 fun h139 => K h139 else K h135) else K h135)) else (bif decide (w127 < w133) then (bif decide (w133 < w131) then F_slices_symMergeCmpFunc_byte_s1 w126 w127 w133 w131 y130 h134 fun h140 => (bif decide (w131 < (IntKind.wrap .i64 (w132 - w133))) then (bif decide ((IntKind.wrap .i64 (w132 - w133)) < w129) then F_slices_symMergeCmpFunc_byte_s1 w126 w131 (IntKind.wrap .i64 (w132 - w133)) w129 y130 h140 fun h141 => K h141 else K h140) else K h140) else (bif decide (w131 < (IntKind.wrap .i64 (w132 - w133))) then (bif decide ((IntKind.wrap .i64 (w132 - w133)) < w129) then F_slices_symMergeCmpFunc_byte_s1 w126 w131 (IntKind.wrap .i64 (w132 - w133)) w129 y130 h134 fun h142 => K h142 else K h134) else K h134)) else (bif decide (w131 < (IntKind.wrap .i64 (w132 - w133))) then (bif decide ((IntKind.wrap .i64 (w132 - w133)) < w129) then F_slices_symMergeCmpFunc_byte_s1 w126 w131 (IntKind.wrap .i64 (w132 - w133)) w129 y130 h134 fun h143 => K h143 else K h134) else K h134))) else (bif decide (w127 < w133) then (bif decide (w133 < w131) then F_slices_symMergeCmpFunc_byte_s1 w126 w127 w133 w131 y130 h134 fun h144 => (bif decide (w131 < (IntKind.wrap .i64 (w132 - w133))) then (bif decide ((IntKind.wrap .i64 (w132 - w133)) < w129) then F_slices_symMergeCmpFunc_byte_s1 w126 w131 (IntKind.wrap .i64 (w132 - w133)) w129 y130 h144 fun h145 => K h145 else K h144) else K h144) else (bif decide (w131 < (IntKind.wrap .i64 (w132 - w133))) then (bif decide ((IntKind.wrap .i64 (w132 - w133)) < w129) then F_slices_symMergeCmpFunc_byte_s1 w126 w131 (IntKind.wrap .i64 (w132 - w133)) w129 y130 h134 fun h146 => K h146 else K h134) else K h134)) else (bif decide (w131 < (IntKind.wrap .i64 (w132 - w133))) then (bif decide ((IntKind.wrap .i64 (w132 - w133)) < w129) then F_slices_symMergeCmpFunc_byte_s1 w126 w131 (IntKind.wrap .i64 (w132 - w133)) w129 y130 h134 fun h147 => K h147 else K h134) else K h134))))))) := by kernel_rfl
noncomputable def F_slices_symMergeCmpFunc_byte_s1 (R : Nat) : Nat → Sl → Int → Int → Int → Option Addr → GH → (GH → Option β) → Option β
  | 0 => fun _ _ _ _ _ _ _ => none
  | n + 1 => fun a1 a2 a3 a4 y5 h K => G_slices_symMergeCmpFunc_byte_s1 (F_follow_counts_ordered_1_s1 R) (F_slices_rotateCmpFunc_byte_s1 R) (F_slices_symMergeCmpFunc_byte_s1 R n) R a1 a2 a3 a4 y5 h K
set_option maxRecDepth 100000 in
theorem F_slices_symMergeCmpFunc_byte_s1_sim {R : Nat} : ∀ {n : Nat} {r : β} {a1 : Sl} {a2 : Int} {a3 : Int} {a4 : Int} {y5 : Option Addr} {h : GH} {K : Value → GH → Option β}, F_slices_symMergeCmpFunc_byte_s1 R n a1 a2 a3 a4 y5 h (fun h' => K (Value.tuple #[]) h') = some r → ∃ v h', K v h' = some r ∧ CallSim Try.prog 100 [Value.slice a1.a a1.n a1.c, Value.int .i64 a2, Value.int .i64 a3, Value.int .i64 a4, Value.func (.func 91) #[] #[Value.pointer y5]] h v h' := by
  intro n
  induction n with
  | zero => intro r a1 a2 a3 a4 y5 h K hc; cases hc
  | succ n ih =>
    intro r a1 a2 a3 a4 y5 h K hc
    have hc : G_slices_symMergeCmpFunc_byte_s1 (F_follow_counts_ordered_1_s1 R) (F_slices_rotateCmpFunc_byte_s1 R) (F_slices_symMergeCmpFunc_byte_s1 R n) R a1 a2 a3 a4 y5 h (fun h' => K (Value.tuple #[]) h') = some r := hc
    have hC : SimOrc Try.prog (CF_slices_symMergeCmpFunc_byte_s1 (F_follow_counts_ordered_1_s1 R) (F_slices_rotateCmpFunc_byte_s1 R) (F_slices_symMergeCmpFunc_byte_s1 R n) (β := β)) := by
      intro f args h K r hc
      unfold CF_slices_symMergeCmpFunc_byte_s1 at hc
      cases hb : Nat.beq f 91 with
      | true =>
        rw [hb] at hc
        simp only [cond_true] at hc
        obtain rfl := Nat.eq_of_beq_eq_true hb
        split at hc
        · exact any_call (F_follow_counts_ordered_1_s1_sim (K := K) hc)
        · cases hc
      | false =>
      rw [hb] at hc
      simp only [cond_false] at hc
      cases hb : Nat.beq f 101 with
      | true =>
        rw [hb] at hc
        simp only [cond_true] at hc
        obtain rfl := Nat.eq_of_beq_eq_true hb
        split at hc
        · exact any_call (F_slices_rotateCmpFunc_byte_s1_sim (K := K) hc)
        · cases hc
      | false =>
      rw [hb] at hc
      simp only [cond_false] at hc
      cases hb : Nat.beq f 100 with
      | true =>
        rw [hb] at hc
        simp only [cond_true] at hc
        obtain rfl := Nat.eq_of_beq_eq_true hb
        split at hc
        · exact any_call (ih (K := K) hc)
        · cases hc
      | false =>
      rw [hb] at hc
      simp only [cond_false] at hc
      cases hc
    unfold G_slices_symMergeCmpFunc_byte_s1 at hc
    obtain ⟨v, h', hk, hs⟩ := gfun_sim hC mixed_ok (fun f h => by cases h) Try.func100 (by kernel_rfl) hc
    exact ⟨_, h', hk, hs.unit⟩
/-! F97 slices.stableCmpFunc[byte] -/
def CF_slices_stableCmpFunc_byte_s1 (F_slices_insertionSortCmpFunc_byte_s1 : Sl → Int → Int → Option Addr → GH → (GH → Option β) → Option β) (F_slices_symMergeCmpFunc_byte_s1 : Sl → Int → Int → Int → Option Addr → GH → (GH → Option β) → Option β) : Orc β := fun f args h K => bif Nat.beq f 99 then (match args with | [.slice p1a p1n p1c, .int .i64 p2, .int .i64 p3, .func (.func 91) ⟨[]⟩ ⟨[.pointer p4]⟩] => F_slices_insertionSortCmpFunc_byte_s1 ⟨p1a, p1n, p1c⟩ p2 p3 p4 h (fun h' => K (Value.tuple #[]) h') | _ => none) else (bif Nat.beq f 100 then (match args with | [.slice p1a p1n p1c, .int .i64 p2, .int .i64 p3, .int .i64 p4, .func (.func 91) ⟨[]⟩ ⟨[.pointer p5]⟩] => F_slices_symMergeCmpFunc_byte_s1 ⟨p1a, p1n, p1c⟩ p2 p3 p4 p5 h (fun h' => K (Value.tuple #[]) h') | _ => none) else none)
def HF_slices_stableCmpFunc_byte_s1 : Hints := ⟨[(2, [0, 1, 2, 6, 7, 8], [(0, [(0, .ty 22), (1, .ty 3), (2, .fn 91 [] [.ptr]), (6, .ty 3), (7, .ty 3)])], none), (7, [0, 1, 2, 6], [(2, [])], none), (9, [0, 1, 2, 6, 7, 8], [(4, [(0, .ty 22), (1, .ty 3), (2, .fn 91 [] [.ptr]), (6, .ty 3), (7, .ty 3)])], none)], [], []⟩
noncomputable def BF_slices_stableCmpFunc_byte_s1 : Code := match Try.f97.body with | some c => c | none => .skip
noncomputable def F_slices_stableCmpFunc_byte_s1_l0 (F_slices_insertionSortCmpFunc_byte_s1 : Sl → Int → Int → Option Addr → GH → (GH → Option β) → Option β) (F_slices_symMergeCmpFunc_byte_s1 : Sl → Int → Int → Int → Option Addr → GH → (GH → Option β) → Option β) (R : Nat) (n : Nat) (y4 : Sl) (y5 : Int) (y6 : Option Addr) (y7 : Int) (y8 : Int) (y9 : Int) (h : GH) (K0 : Sl → Int → Option Addr → Int → Int → GH → Option β) : Option β := gloop (gcode Try.prog (CF_slices_stableCmpFunc_byte_s1 F_slices_insertionSortCmpFunc_byte_s1 F_slices_symMergeCmpFunc_byte_s1) Try.f97.ntmps HF_slices_stableCmpFunc_byte_s1 R (at_ [true, true, false, false, false] BF_slices_stableCmpFunc_byte_s1)) [0, 1, 2, 6, 7, 8] n [(0, Value.slice y4.a y4.n y4.c), (1, Value.int .i64 y5), (2, Value.func (.func 91) #[] #[Value.pointer y6]), (6, Value.int .i64 y7), (7, Value.int .i64 y8), (8, Value.int .i64 y9)] h (fun i e' h' => bif Nat.beq i 0 then (exS (some (e'.get 0)) fun u47 => exI .i64 (some (e'.get 1)) fun u48 => exF 91 [] [.ptr] (e'.get 2) fun ga50 gc51 => (match ga50, gc51 with | [], [.pointer p49] => exI .i64 (some (e'.get 6)) fun u52 => exI .i64 (some (e'.get 7)) fun u53 => K0 u47 u48 p49 u52 u53 h' | _, _ => none)) else none) (fun e' h' => none)
noncomputable def F_slices_stableCmpFunc_byte_s1_l1 (F_slices_insertionSortCmpFunc_byte_s1 : Sl → Int → Int → Option Addr → GH → (GH → Option β) → Option β) (F_slices_symMergeCmpFunc_byte_s1 : Sl → Int → Int → Int → Option Addr → GH → (GH → Option β) → Option β) (R : Nat) (n : Nat) (y23 : Sl) (y24 : Int) (y25 : Option Addr) (y26 : Int) (h : GH) (K2 : GH → Option β) : Option β := gloop (gcode Try.prog (CF_slices_stableCmpFunc_byte_s1 F_slices_insertionSortCmpFunc_byte_s1 F_slices_symMergeCmpFunc_byte_s1) Try.f97.ntmps HF_slices_stableCmpFunc_byte_s1 R (at_ [true, true, true, true, false, false] BF_slices_stableCmpFunc_byte_s1)) [0, 1, 2, 6] n [(0, Value.slice y23.a y23.n y23.c), (1, Value.int .i64 y24), (2, Value.func (.func 91) #[] #[Value.pointer y25]), (6, Value.int .i64 y26)] h (fun i e' h' => bif Nat.beq i 2 then (K2 h') else none) (fun e' h' => none)
noncomputable def F_slices_stableCmpFunc_byte_s1_l2 (F_slices_insertionSortCmpFunc_byte_s1 : Sl → Int → Int → Option Addr → GH → (GH → Option β) → Option β) (F_slices_symMergeCmpFunc_byte_s1 : Sl → Int → Int → Int → Option Addr → GH → (GH → Option β) → Option β) (R : Nat) (n : Nat) (y27 : Sl) (y28 : Int) (y29 : Option Addr) (y30 : Int) (y31 : Int) (y32 : Int) (h : GH) (K4 : Sl → Int → Option Addr → Int → Int → GH → Option β) : Option β := gloop (gcode Try.prog (CF_slices_stableCmpFunc_byte_s1 F_slices_insertionSortCmpFunc_byte_s1 F_slices_symMergeCmpFunc_byte_s1) Try.f97.ntmps HF_slices_stableCmpFunc_byte_s1 R (at_ [true, true, true, true, false, false, true, false, true, false, false, false] BF_slices_stableCmpFunc_byte_s1)) [0, 1, 2, 6, 7, 8] n [(0, Value.slice y27.a y27.n y27.c), (1, Value.int .i64 y28), (2, Value.func (.func 91) #[] #[Value.pointer y29]), (6, Value.int .i64 y30), (7, Value.int .i64 y31), (8, Value.int .i64 y32)] h (fun i e' h' => bif Nat.beq i 4 then (exS (some (e'.get 0)) fun u54 => exI .i64 (some (e'.get 1)) fun u55 => exF 91 [] [.ptr] (e'.get 2) fun ga57 gc58 => (match ga57, gc58 with | [], [.pointer p56] => exI .i64 (some (e'.get 6)) fun u59 => exI .i64 (some (e'.get 7)) fun u60 => K4 u54 u55 p56 u59 u60 h' | _, _ => none)) else none) (fun e' h' => none)
set_option maxRecDepth 100000 in
theorem F_slices_stableCmpFunc_byte_s1_l2_succ (F_slices_insertionSortCmpFunc_byte_s1 : Sl → Int → Int → Option Addr → GH → (GH → Option β) → Option β) (F_slices_symMergeCmpFunc_byte_s1 : Sl → Int → Int → Int → Option Addr → GH → (GH → Option β) → Option β) (R : Nat) (n : Nat) (y27 : Sl) (y28 : Int) (y29 : Option Addr) (y30 : Int) (y31 : Int) (y32 : Int) (h : GH) (K4 : Sl → Int → Option Addr → Int → Int → GH → Option β) : F_slices_stableCmpFunc_byte_s1_l2 F_slices_insertionSortCmpFunc_byte_s1 F_slices_symMergeCmpFunc_byte_s1 R (n + 1) y27 y28 y29 y30 y31 y32 h K4 =
    (bif decide (y32 ≤ y28) then F_slices_symMergeCmpFunc_byte_s1 y27 y31 (IntKind.wrap .i64 (y31 + y30)) y32 y29 h fun h38 => F_slices_stableCmpFunc_byte_s1_l2 F_slices_insertionSortCmpFunc_byte_s1 F_slices_symMergeCmpFunc_byte_s1 R n y27 y28 y29 y30 y32 (IntKind.wrap .i64 (y32 + (IntKind.wrap .i64 (2 * y30)))) h38 K4 else K4 y27 y28 y29 y30 y31 h) := by kernel_rfl
set_option maxRecDepth 100000 in
theorem F_slices_stableCmpFunc_byte_s1_l1_succ (F_slices_insertionSortCmpFunc_byte_s1 : Sl → Int → Int → Option Addr → GH → (GH → Option β) → Option β) (F_slices_symMergeCmpFunc_byte_s1 : Sl → Int → Int → Int → Option Addr → GH → (GH → Option β) → Option β) (R : Nat) (n : Nat) (y23 : Sl) (y24 : Int) (y25 : Option Addr) (y26 : Int) (h : GH) (K2 : GH → Option β) : F_slices_stableCmpFunc_byte_s1_l1 F_slices_insertionSortCmpFunc_byte_s1 F_slices_symMergeCmpFunc_byte_s1 R (n + 1) y23 y24 y25 y26 h K2 =
    (bif decide (y26 < y24) then F_slices_stableCmpFunc_byte_s1_l2 F_slices_insertionSortCmpFunc_byte_s1 F_slices_symMergeCmpFunc_byte_s1 R R y23 y24 y25 y26 0 (IntKind.wrap .i64 (2 * y26)) h (fun w39 w40 y41 w42 w43 h44 => (bif decide ((IntKind.wrap .i64 (w43 + w42)) < w40) then F_slices_symMergeCmpFunc_byte_s1 w39 w43 (IntKind.wrap .i64 (w43 + w42)) w40 y41 h44 fun h45 => F_slices_stableCmpFunc_byte_s1_l1 F_slices_insertionSortCmpFunc_byte_s1 F_slices_symMergeCmpFunc_byte_s1 R n w39 w40 y41 (IntKind.wrap .i64 (w42 * 2)) h45 K2 else F_slices_stableCmpFunc_byte_s1_l1 F_slices_insertionSortCmpFunc_byte_s1 F_slices_symMergeCmpFunc_byte_s1 R n w39 w40 y41 (IntKind.wrap .i64 (w42 * 2)) h44 K2)) else K2 h) := by kernel_rfl
set_option maxRecDepth 100000 in
theorem F_slices_stableCmpFunc_byte_s1_l0_succ (F_slices_insertionSortCmpFunc_byte_s1 : Sl → Int → Int → Option Addr → GH → (GH → Option β) → Option β) (F_slices_symMergeCmpFunc_byte_s1 : Sl → Int → Int → Int → Option Addr → GH → (GH → Option β) → Option β) (R : Nat) (n : Nat) (y4 : Sl) (y5 : Int) (y6 : Option Addr) (y7 : Int) (y8 : Int) (y9 : Int) (h : GH) (K0 : Sl → Int → Option Addr → Int → Int → GH → Option β) : F_slices_stableCmpFunc_byte_s1_l0 F_slices_insertionSortCmpFunc_byte_s1 F_slices_symMergeCmpFunc_byte_s1 R (n + 1) y4 y5 y6 y7 y8 y9 h K0 =
    (bif decide (y9 ≤ y5) then F_slices_insertionSortCmpFunc_byte_s1 y4 y8 y9 y6 h fun h15 => F_slices_stableCmpFunc_byte_s1_l0 F_slices_insertionSortCmpFunc_byte_s1 F_slices_symMergeCmpFunc_byte_s1 R n y4 y5 y6 y7 y9 (IntKind.wrap .i64 (y9 + y7)) h15 K0 else K0 y4 y5 y6 y7 y8 h) := by kernel_rfl
noncomputable def G_slices_stableCmpFunc_byte_s1 (F_slices_insertionSortCmpFunc_byte_s1 : Sl → Int → Int → Option Addr → GH → (GH → Option β) → Option β) (F_slices_symMergeCmpFunc_byte_s1 : Sl → Int → Int → Int → Option Addr → GH → (GH → Option β) → Option β) (R : Nat) (a1 : Sl) (a2 : Int) (y3 : Option Addr) (h : GH) (K : GH → Option β) : Option β := gfun Try.prog (CF_slices_stableCmpFunc_byte_s1 F_slices_insertionSortCmpFunc_byte_s1 F_slices_symMergeCmpFunc_byte_s1) HF_slices_stableCmpFunc_byte_s1 R Try.f97 [Value.slice a1.a a1.n a1.c, Value.int .i64 a2, Value.func (.func 91) #[] #[Value.pointer y3]] h (fun _ h' => K h')
set_option maxRecDepth 100000 in
theorem F_slices_stableCmpFunc_byte_s1_gen (F_slices_insertionSortCmpFunc_byte_s1 : Sl → Int → Int → Option Addr → GH → (GH → Option β) → Option β) (F_slices_symMergeCmpFunc_byte_s1 : Sl → Int → Int → Int → Option Addr → GH → (GH → Option β) → Option β) (R : Nat) (a1 : Sl) (a2 : Int) (y3 : Option Addr) (h : GH) (K : GH → Option β) : G_slices_stableCmpFunc_byte_s1 F_slices_insertionSortCmpFunc_byte_s1 F_slices_symMergeCmpFunc_byte_s1 R a1 a2 y3 h K =
    F_slices_stableCmpFunc_byte_s1_l0 F_slices_insertionSortCmpFunc_byte_s1 F_slices_symMergeCmpFunc_byte_s1 R R a1 a2 y3 20 0 20 h (fun w16 w17 y18 w19 w20 h21 => F_slices_insertionSortCmpFunc_byte_s1 w16 w20 w17 y18 h21 fun h22 => F_slices_stableCmpFunc_byte_s1_l1 F_slices_insertionSortCmpFunc_byte_s1 F_slices_symMergeCmpFunc_byte_s1 R R w16 w17 y18 w19 h22 (fun h46 => K h46)) := by kernel_rfl
noncomputable def F_slices_stableCmpFunc_byte_s1 (R : Nat) (a1 : Sl) (a2 : Int) (y3 : Option Addr) (h : GH) (K : GH → Option β) : Option β := G_slices_stableCmpFunc_byte_s1 (F_slices_insertionSortCmpFunc_byte_s1 R) (F_slices_symMergeCmpFunc_byte_s1 R R) R a1 a2 y3 h K
set_option maxRecDepth 100000 in
theorem CF_slices_stableCmpFunc_byte_s1_sim {R : Nat} : SimOrc Try.prog (CF_slices_stableCmpFunc_byte_s1 (F_slices_insertionSortCmpFunc_byte_s1 R) (F_slices_symMergeCmpFunc_byte_s1 R R) (β := β)) := by
  intro f args h K r hc
  unfold CF_slices_stableCmpFunc_byte_s1 at hc
  cases hb : Nat.beq f 99 with
  | true =>
    rw [hb] at hc
    simp only [cond_true] at hc
    obtain rfl := Nat.eq_of_beq_eq_true hb
    split at hc
    · exact any_call (F_slices_insertionSortCmpFunc_byte_s1_sim (K := K) hc)
    · cases hc
  | false =>
  rw [hb] at hc
  simp only [cond_false] at hc
  cases hb : Nat.beq f 100 with
  | true =>
    rw [hb] at hc
    simp only [cond_true] at hc
    obtain rfl := Nat.eq_of_beq_eq_true hb
    split at hc
    · exact any_call (F_slices_symMergeCmpFunc_byte_s1_sim (K := K) hc)
    · cases hc
  | false =>
  rw [hb] at hc
  simp only [cond_false] at hc
  cases hc
set_option maxRecDepth 100000 in
theorem F_slices_stableCmpFunc_byte_s1_sim {R : Nat} {r : β} {a1 : Sl} {a2 : Int} {y3 : Option Addr} {h : GH} {K : Value → GH → Option β} (hc : F_slices_stableCmpFunc_byte_s1 R a1 a2 y3 h (fun h' => K (Value.tuple #[]) h') = some r) : ∃ v h', K v h' = some r ∧ CallSim Try.prog 97 [Value.slice a1.a a1.n a1.c, Value.int .i64 a2, Value.func (.func 91) #[] #[Value.pointer y3]] h v h' := by
  unfold F_slices_stableCmpFunc_byte_s1 G_slices_stableCmpFunc_byte_s1 at hc
  obtain ⟨v, h', hk, hs⟩ := gfun_sim (CF_slices_stableCmpFunc_byte_s1_sim (R := R)) mixed_ok (fun f h => by cases h) Try.func97 (by kernel_rfl) hc
  exact ⟨_, h', hk, hs.unit⟩
/-! F90 slices.SortStableFunc[[]byte,byte] -/
def CF_slices_SortStableFunc_byte_s1 (F_slices_stableCmpFunc_byte_s1 : Sl → Int → Option Addr → GH → (GH → Option β) → Option β) : Orc β := fun f args h K => bif Nat.beq f 97 then (match args with | [.slice p1a p1n p1c, .int .i64 p2, .func (.func 91) ⟨[]⟩ ⟨[.pointer p3]⟩] => F_slices_stableCmpFunc_byte_s1 ⟨p1a, p1n, p1c⟩ p2 p3 h (fun h' => K (Value.tuple #[]) h') | _ => none) else none
def HF_slices_SortStableFunc_byte_s1 : Hints := ⟨[], [], []⟩
noncomputable def G_slices_SortStableFunc_byte_s1 (F_slices_stableCmpFunc_byte_s1 : Sl → Int → Option Addr → GH → (GH → Option β) → Option β) (R : Nat) (a1 : Sl) (y2 : Option Addr) (h : GH) (K : GH → Option β) : Option β := gfun Try.prog (CF_slices_SortStableFunc_byte_s1 F_slices_stableCmpFunc_byte_s1) HF_slices_SortStableFunc_byte_s1 R Try.f90 [Value.slice a1.a a1.n a1.c, Value.func (.func 91) #[] #[Value.pointer y2]] h (fun _ h' => K h')
set_option maxRecDepth 100000 in
theorem F_slices_SortStableFunc_byte_s1_gen (F_slices_stableCmpFunc_byte_s1 : Sl → Int → Option Addr → GH → (GH → Option β) → Option β) (R : Nat) (a1 : Sl) (y2 : Option Addr) (h : GH) (K : GH → Option β) : G_slices_SortStableFunc_byte_s1 F_slices_stableCmpFunc_byte_s1 R a1 y2 h K =
    F_slices_stableCmpFunc_byte_s1 a1 ((a1.n : Nat) : Int) y2 h fun h3 => K h3 := by kernel_rfl
noncomputable def F_slices_SortStableFunc_byte_s1 (R : Nat) (a1 : Sl) (y2 : Option Addr) (h : GH) (K : GH → Option β) : Option β := G_slices_SortStableFunc_byte_s1 (F_slices_stableCmpFunc_byte_s1 R) R a1 y2 h K
set_option maxRecDepth 100000 in
theorem CF_slices_SortStableFunc_byte_s1_sim {R : Nat} : SimOrc Try.prog (CF_slices_SortStableFunc_byte_s1 (F_slices_stableCmpFunc_byte_s1 R) (β := β)) := by
  intro f args h K r hc
  unfold CF_slices_SortStableFunc_byte_s1 at hc
  cases hb : Nat.beq f 97 with
  | true =>
    rw [hb] at hc
    simp only [cond_true] at hc
    obtain rfl := Nat.eq_of_beq_eq_true hb
    split at hc
    · exact any_call (F_slices_stableCmpFunc_byte_s1_sim (K := K) hc)
    · cases hc
  | false =>
  rw [hb] at hc
  simp only [cond_false] at hc
  cases hc
set_option maxRecDepth 100000 in
theorem F_slices_SortStableFunc_byte_s1_sim {R : Nat} {r : β} {a1 : Sl} {y2 : Option Addr} {h : GH} {K : Value → GH → Option β} (hc : F_slices_SortStableFunc_byte_s1 R a1 y2 h (fun h' => K (Value.tuple #[]) h') = some r) : ∃ v h', K v h' = some r ∧ CallSim Try.prog 90 [Value.slice a1.a a1.n a1.c, Value.func (.func 91) #[] #[Value.pointer y2]] h v h' := by
  unfold F_slices_SortStableFunc_byte_s1 G_slices_SortStableFunc_byte_s1 at hc
  obtain ⟨v, h', hk, hs⟩ := gfun_sim (CF_slices_SortStableFunc_byte_s1_sim (R := R)) mixed_ok (fun f h => by cases h) Try.func90 (by kernel_rfl) hc
  exact ⟨_, h', hk, hs.unit⟩
/-! F47 duffel/follow.first -/
def CF_follow_first  : Orc β := fun f args h K => none
def HF_follow_first : Hints := ⟨[], [], []⟩
noncomputable def G_follow_first  (R : Nat) (a1 : Sl) (h : GH) (K : Sl → GH → Option β) : Option β := gfun Try.prog (CF_follow_first ) HF_follow_first R Try.f47 [Value.slice a1.a a1.n a1.c] h (fun v h' => exS (some v) fun u4 => K u4 h')
set_option maxRecDepth 100000 in
theorem F_follow_first_gen  (R : Nat) (a1 : Sl) (h : GH) (K : Sl → GH → Option β) : G_follow_first  R a1 h K =
    bnd (if 32 < ((a1.n : Nat) : Int) then 32 else ((a1.n : Nat) : Int)) a1.c fun m2 => K ⟨addO a1.a (0 * 1), m2 - 0, a1.c - 0⟩ h := by kernel_rfl
noncomputable def F_follow_first (R : Nat) (a1 : Sl) (h : GH) (K : Sl → GH → Option β) : Option β := G_follow_first  R a1 h K
theorem CF_follow_first_sim : SimOrc Try.prog (CF_follow_first (β := β)) := by
  intro f args h K r hc
  cases hc
set_option maxRecDepth 100000 in
theorem F_follow_first_sim {R : Nat} {r : β} {a1 : Sl} {h : GH} {K : Value → GH → Option β} (hc : F_follow_first R a1 h (fun q0 h' => K (Value.slice q0.a q0.n q0.c) h') = some r) : ∃ v h', K v h' = some r ∧ CallSim Try.prog 47 [Value.slice a1.a a1.n a1.c] h v h' := by
  unfold F_follow_first G_follow_first at hc
  obtain ⟨v, h', hk, hs⟩ := gfun_sim CF_follow_first_sim mixed_ok (fun f h => by cases h) Try.func47 (by kernel_rfl) hc
  obtain ⟨u0, e0, hk⟩ := exS_v hk; cases e0
  exact ⟨_, h', hk, hs⟩
/-! F75 (*duffel/follow.counts).ordered -/
def CF_follow_counts_ordered (F_slices_SortStableFunc_byte_s1 : Sl → Option Addr → GH → (GH → Option β) → Option β) (F_follow_first : Sl → GH → (Sl → GH → Option β) → Option β) : Orc β := fun f args h K => bif Nat.beq f 90 then (match args with | [.slice p1a p1n p1c, .func (.func 91) ⟨[]⟩ ⟨[.pointer p2]⟩] => F_slices_SortStableFunc_byte_s1 ⟨p1a, p1n, p1c⟩ p2 h (fun h' => K (Value.tuple #[]) h') | _ => none) else (bif Nat.beq f 47 then (match args with | [.slice p1a p1n p1c] => F_follow_first ⟨p1a, p1n, p1c⟩ h (fun q3 h' => K (Value.slice q3.a q3.n q3.c) h') | _ => none) else none)
def HF_follow_counts_ordered : Hints := ⟨[(3, [1, 3, 6, 7], [(0, [(1, .ty 15), (3, .ty 22)])], none)], [], []⟩
noncomputable def BF_follow_counts_ordered : Code := match Try.f75.body with | some c => c | none => .skip
noncomputable def F_follow_counts_ordered_l0 (F_slices_SortStableFunc_byte_s1 : Sl → Option Addr → GH → (GH → Option β) → Option β) (F_follow_first : Sl → GH → (Sl → GH → Option β) → Option β) (R : Nat) (n : Nat) (y5 : Option Addr) (y6 : Sl) (y7 : Option Addr) (y8 : Int) (h : GH) (K0 : Option Addr → Sl → GH → Option β) : Option β := gloop (gcode Try.prog (CF_follow_counts_ordered F_slices_SortStableFunc_byte_s1 F_follow_first) Try.f75.ntmps HF_follow_counts_ordered R (at_ [true, true, false, true, false, false] BF_follow_counts_ordered)) [1, 3, 6, 7] n [(1, Value.pointer y5), (3, Value.slice y6.a y6.n y6.c), (6, Value.pointer y7), (7, Value.int .i64 y8)] h (fun i e' h' => bif Nat.beq i 0 then (exP (some (e'.get 1)) fun u25 => exS (some (e'.get 3)) fun u26 => K0 u25 u26 h') else none) (fun e' h' => none)
set_option maxRecDepth 100000 in
theorem F_follow_counts_ordered_l0_succ (F_slices_SortStableFunc_byte_s1 : Sl → Option Addr → GH → (GH → Option β) → Option β) (F_follow_first : Sl → GH → (Sl → GH → Option β) → Option β) (R : Nat) (n : Nat) (y5 : Option Addr) (y6 : Sl) (y7 : Option Addr) (y8 : Int) (h : GH) (K0 : Option Addr → Sl → GH → Option β) : F_follow_counts_ordered_l0 F_slices_SortStableFunc_byte_s1 F_follow_first R (n + 1) y5 y6 y7 y8 h K0 =
    (bif decide (y8 < 256) then exA y7 fun g11 o12 => within y8 256 (exI .i64 (h.cell ⟨g11, o12 + y8.toNat * 1, none⟩) fun x13 => (bif decide (x13 > 0) then gnew [Value.int .u8 (IntKind.wrap .u8 y8)] 1 h fun g14 h15 => gappS 1 1 y6 ⟨(some ⟨g14, 0, none⟩), 1, 1⟩ h15 fun s16 h17 => F_follow_counts_ordered_l0 F_slices_SortStableFunc_byte_s1 F_follow_first R n y5 s16 y7 (IntKind.wrap .i64 (y8 + 1)) h17 K0 else F_follow_counts_ordered_l0 F_slices_SortStableFunc_byte_s1 F_follow_first R n y5 y6 y7 (IntKind.wrap .i64 (y8 + 1)) h K0)) else K0 y5 y6 h) := by kernel_rfl
noncomputable def G_follow_counts_ordered (F_slices_SortStableFunc_byte_s1 : Sl → Option Addr → GH → (GH → Option β) → Option β) (F_follow_first : Sl → GH → (Sl → GH → Option β) → Option β) (R : Nat) (a1 : Option Addr) (h : GH) (K : Sl → GH → Option β) : Option β := gfun Try.prog (CF_follow_counts_ordered F_slices_SortStableFunc_byte_s1 F_follow_first) HF_follow_counts_ordered R Try.f75 [Value.pointer a1] h (fun v h' => exS (some v) fun u27 => K u27 h')
set_option maxRecDepth 100000 in
theorem F_follow_counts_ordered_gen (F_slices_SortStableFunc_byte_s1 : Sl → Option Addr → GH → (GH → Option β) → Option β) (F_follow_first : Sl → GH → (Sl → GH → Option β) → Option β) (R : Nat) (a1 : Option Addr) (h : GH) (K : Sl → GH → Option β) : G_follow_counts_ordered F_slices_SortStableFunc_byte_s1 F_follow_first R a1 h K =
    gnew [Value.pointer a1] 0 h fun g2 h3 => exP (h3.cell ⟨g2, 0, none⟩) fun x4 => F_follow_counts_ordered_l0 F_slices_SortStableFunc_byte_s1 F_follow_first R R (some ⟨g2, 0, none⟩) ⟨none, 0, 0⟩ x4 0 h3 (fun w18 w19 h20 => F_slices_SortStableFunc_byte_s1 w19 w18 h20 fun h21 => F_follow_first w19 h21 fun r22 h23 => K r22 h23) := by kernel_rfl
noncomputable def F_follow_counts_ordered (R : Nat) (a1 : Option Addr) (h : GH) (K : Sl → GH → Option β) : Option β := G_follow_counts_ordered (F_slices_SortStableFunc_byte_s1 R) (F_follow_first R) R a1 h K
set_option maxRecDepth 100000 in
theorem CF_follow_counts_ordered_sim {R : Nat} : SimOrc Try.prog (CF_follow_counts_ordered (F_slices_SortStableFunc_byte_s1 R) (F_follow_first R) (β := β)) := by
  intro f args h K r hc
  unfold CF_follow_counts_ordered at hc
  cases hb : Nat.beq f 90 with
  | true =>
    rw [hb] at hc
    simp only [cond_true] at hc
    obtain rfl := Nat.eq_of_beq_eq_true hb
    split at hc
    · exact any_call (F_slices_SortStableFunc_byte_s1_sim (K := K) hc)
    · cases hc
  | false =>
  rw [hb] at hc
  simp only [cond_false] at hc
  cases hb : Nat.beq f 47 with
  | true =>
    rw [hb] at hc
    simp only [cond_true] at hc
    obtain rfl := Nat.eq_of_beq_eq_true hb
    split at hc
    · exact any_call (F_follow_first_sim (K := K) hc)
    · cases hc
  | false =>
  rw [hb] at hc
  simp only [cond_false] at hc
  cases hc
set_option maxRecDepth 100000 in
theorem F_follow_counts_ordered_sim {R : Nat} {r : β} {a1 : Option Addr} {h : GH} {K : Value → GH → Option β} (hc : F_follow_counts_ordered R a1 h (fun q0 h' => K (Value.slice q0.a q0.n q0.c) h') = some r) : ∃ v h', K v h' = some r ∧ CallSim Try.prog 75 [Value.pointer a1] h v h' := by
  unfold F_follow_counts_ordered G_follow_counts_ordered at hc
  obtain ⟨v, h', hk, hs⟩ := gfun_sim (CF_follow_counts_ordered_sim (R := R)) mixed_ok (fun f h => by cases h) Try.func75 (by kernel_rfl) hc
  obtain ⟨u0, e0, hk⟩ := exS_v hk; cases e0
  exact ⟨_, h', hk, hs⟩
/-! F94 math/bits.Len64 -/
def CF_math_bits_Len64  : Orc β := fun f args h K => none
def HF_math_bits_Len64 : Hints := ⟨[], [], []⟩
noncomputable def G_math_bits_Len64  (R : Nat) (a1 : Int) (h : GH) (K : Int → GH → Option β) : Option β := gfun Try.prog (CF_math_bits_Len64 ) HF_math_bits_Len64 R Try.f94 [Value.int .u64 a1] h (fun v h' => exI .i64 (some v) fun u11 => K u11 h')
set_option maxRecDepth 100000 in
theorem F_math_bits_Len64_gen  (R : Nat) (a1 : Int) (h : GH) (K : Int → GH → Option β) : G_math_bits_Len64  R a1 h K =
    (bif decide (a1 ≥ 4294967296) then (bif decide ((shrI .u64 a1 32) ≥ 65536) then (bif decide ((shrI .u64 (shrI .u64 a1 32) 16) ≥ 256) then byteAt Str0 (IntKind.wrap .u8 (shrI .u64 (shrI .u64 (shrI .u64 a1 32) 16) 8)) fun x2 => K (IntKind.wrap .i64 ((IntKind.wrap .i64 ((IntKind.wrap .i64 (32 + 16)) + 8)) + (IntKind.wrap .i64 x2))) h else byteAt Str0 (IntKind.wrap .u8 (shrI .u64 (shrI .u64 a1 32) 16)) fun x3 => K (IntKind.wrap .i64 ((IntKind.wrap .i64 (32 + 16)) + (IntKind.wrap .i64 x3))) h) else (bif decide ((shrI .u64 a1 32) ≥ 256) then byteAt Str0 (IntKind.wrap .u8 (shrI .u64 (shrI .u64 a1 32) 8)) fun x4 => K (IntKind.wrap .i64 ((IntKind.wrap .i64 (32 + 8)) + (IntKind.wrap .i64 x4))) h else byteAt Str0 (IntKind.wrap .u8 (shrI .u64 a1 32)) fun x5 => K (IntKind.wrap .i64 (32 + (IntKind.wrap .i64 x5))) h)) else (bif decide (a1 ≥ 65536) then (bif decide ((shrI .u64 a1 16) ≥ 256) then byteAt Str0 (IntKind.wrap .u8 (shrI .u64 (shrI .u64 a1 16) 8)) fun x6 => K (IntKind.wrap .i64 ((IntKind.wrap .i64 ((IntKind.wrap .i64 (0 + 16)) + 8)) + (IntKind.wrap .i64 x6))) h else byteAt Str0 (IntKind.wrap .u8 (shrI .u64 a1 16)) fun x7 => K (IntKind.wrap .i64 ((IntKind.wrap .i64 (0 + 16)) + (IntKind.wrap .i64 x7))) h) else (bif decide (a1 ≥ 256) then byteAt Str0 (IntKind.wrap .u8 (shrI .u64 a1 8)) fun x8 => K (IntKind.wrap .i64 ((IntKind.wrap .i64 (0 + 8)) + (IntKind.wrap .i64 x8))) h else byteAt Str0 (IntKind.wrap .u8 a1) fun x9 => K (IntKind.wrap .i64 (0 + (IntKind.wrap .i64 x9))) h))) := by kernel_rfl
noncomputable def F_math_bits_Len64 (R : Nat) (a1 : Int) (h : GH) (K : Int → GH → Option β) : Option β := G_math_bits_Len64  R a1 h K
theorem CF_math_bits_Len64_sim : SimOrc Try.prog (CF_math_bits_Len64 (β := β)) := by
  intro f args h K r hc
  cases hc
set_option maxRecDepth 100000 in
theorem F_math_bits_Len64_sim {R : Nat} {r : β} {a1 : Int} {h : GH} {K : Value → GH → Option β} (hc : F_math_bits_Len64 R a1 h (fun q0 h' => K (Value.int .i64 q0) h') = some r) : ∃ v h', K v h' = some r ∧ CallSim Try.prog 94 [Value.int .u64 a1] h v h' := by
  unfold F_math_bits_Len64 G_math_bits_Len64 at hc
  obtain ⟨v, h', hk, hs⟩ := gfun_sim CF_math_bits_Len64_sim mixed_ok (fun f h => by cases h) Try.func94 (by kernel_rfl) hc
  obtain ⟨u0, e0, hk⟩ := exI_v hk; cases e0
  exact ⟨_, h', hk, hs⟩
/-! F77 math/bits.Len -/
def CF_math_bits_Len (F_math_bits_Len64 : Int → GH → (Int → GH → Option β) → Option β) : Orc β := fun f args h K => bif Nat.beq f 94 then (match args with | [.int .u64 p1] => F_math_bits_Len64 p1 h (fun q10 h' => K (Value.int .i64 q10) h') | _ => none) else none
def HF_math_bits_Len : Hints := ⟨[], [], []⟩
noncomputable def G_math_bits_Len (F_math_bits_Len64 : Int → GH → (Int → GH → Option β) → Option β) (R : Nat) (a1 : Int) (h : GH) (K : Int → GH → Option β) : Option β := gfun Try.prog (CF_math_bits_Len F_math_bits_Len64) HF_math_bits_Len R Try.f77 [Value.int .u64 a1] h (fun v h' => exI .i64 (some v) fun u5 => K u5 h')
set_option maxRecDepth 100000 in
theorem F_math_bits_Len_gen (F_math_bits_Len64 : Int → GH → (Int → GH → Option β) → Option β) (R : Nat) (a1 : Int) (h : GH) (K : Int → GH → Option β) : G_math_bits_Len F_math_bits_Len64 R a1 h K =
    F_math_bits_Len64 a1 h fun r2 h3 => K r2 h3 := by kernel_rfl
noncomputable def F_math_bits_Len (R : Nat) (a1 : Int) (h : GH) (K : Int → GH → Option β) : Option β := G_math_bits_Len (F_math_bits_Len64 R) R a1 h K
set_option maxRecDepth 100000 in
theorem CF_math_bits_Len_sim {R : Nat} : SimOrc Try.prog (CF_math_bits_Len (F_math_bits_Len64 R) (β := β)) := by
  intro f args h K r hc
  unfold CF_math_bits_Len at hc
  cases hb : Nat.beq f 94 with
  | true =>
    rw [hb] at hc
    simp only [cond_true] at hc
    obtain rfl := Nat.eq_of_beq_eq_true hb
    split at hc
    · exact any_call (F_math_bits_Len64_sim (K := K) hc)
    · cases hc
  | false =>
  rw [hb] at hc
  simp only [cond_false] at hc
  cases hc
set_option maxRecDepth 100000 in
theorem F_math_bits_Len_sim {R : Nat} {r : β} {a1 : Int} {h : GH} {K : Value → GH → Option β} (hc : F_math_bits_Len R a1 h (fun q0 h' => K (Value.int .i64 q0) h') = some r) : ∃ v h', K v h' = some r ∧ CallSim Try.prog 77 [Value.int .u64 a1] h v h' := by
  unfold F_math_bits_Len G_math_bits_Len at hc
  obtain ⟨v, h', hk, hs⟩ := gfun_sim (CF_math_bits_Len_sim (R := R)) mixed_ok (fun f h => by cases h) Try.func77 (by kernel_rfl) hc
  obtain ⟨u0, e0, hk⟩ := exI_v hk; cases e0
  exact ⟨_, h', hk, hs⟩
/-! F50 duffel/follow.Width -/
def CF_follow_Width (F_math_bits_Len : Int → GH → (Int → GH → Option β) → Option β) : Orc β := fun f args h K => bif Nat.beq f 77 then (match args with | [.int .u64 p1] => F_math_bits_Len p1 h (fun q4 h' => K (Value.int .i64 q4) h') | _ => none) else none
def HF_follow_Width : Hints := ⟨[], [], []⟩
noncomputable def G_follow_Width (F_math_bits_Len : Int → GH → (Int → GH → Option β) → Option β) (R : Nat) (a1 : Int) (h : GH) (K : Int → GH → Option β) : Option β := gfun Try.prog (CF_follow_Width F_math_bits_Len) HF_follow_Width R Try.f50 [Value.int .i64 a1] h (fun v h' => exI .i64 (some v) fun u5 => K u5 h')
set_option maxRecDepth 100000 in
theorem F_follow_Width_gen (F_math_bits_Len : Int → GH → (Int → GH → Option β) → Option β) (R : Nat) (a1 : Int) (h : GH) (K : Int → GH → Option β) : G_follow_Width F_math_bits_Len R a1 h K =
    (bif decide (a1 < 1) then K 0 h else (bif decide (a1 > 32) then K 0 h else F_math_bits_Len (IntKind.wrap .u64 (IntKind.wrap .i64 (a1 - 1))) h fun r2 h3 => K (if 1 > r2 then 1 else r2) h3)) := by kernel_rfl
noncomputable def F_follow_Width (R : Nat) (a1 : Int) (h : GH) (K : Int → GH → Option β) : Option β := G_follow_Width (F_math_bits_Len R) R a1 h K
set_option maxRecDepth 100000 in
theorem CF_follow_Width_sim {R : Nat} : SimOrc Try.prog (CF_follow_Width (F_math_bits_Len R) (β := β)) := by
  intro f args h K r hc
  unfold CF_follow_Width at hc
  cases hb : Nat.beq f 77 with
  | true =>
    rw [hb] at hc
    simp only [cond_true] at hc
    obtain rfl := Nat.eq_of_beq_eq_true hb
    split at hc
    · exact any_call (F_math_bits_Len_sim (K := K) hc)
    · cases hc
  | false =>
  rw [hb] at hc
  simp only [cond_false] at hc
  cases hc
set_option maxRecDepth 100000 in
theorem F_follow_Width_sim {R : Nat} {r : β} {a1 : Int} {h : GH} {K : Value → GH → Option β} (hc : F_follow_Width R a1 h (fun q0 h' => K (Value.int .i64 q0) h') = some r) : ∃ v h', K v h' = some r ∧ CallSim Try.prog 50 [Value.int .i64 a1] h v h' := by
  unfold F_follow_Width G_follow_Width at hc
  obtain ⟨v, h', hk, hs⟩ := gfun_sim (CF_follow_Width_sim (R := R)) mixed_ok (fun f h => by cases h) Try.func50 (by kernel_rfl) hc
  obtain ⟨u0, e0, hk⟩ := exI_v hk; cases e0
  exact ⟨_, h', hk, hs⟩
/-! F46 (*duffel/follow.counts).best -/
def CF_follow_counts_best (F_follow_counts_ordered : Option Addr → GH → (Sl → GH → Option β) → Option β) (F_follow_Width : Int → GH → (Int → GH → Option β) → Option β) : Orc β := fun f args h K => bif Nat.beq f 75 then (match args with | [.pointer p1] => F_follow_counts_ordered p1 h (fun q24 h' => K (Value.slice q24.a q24.n q24.c) h') | _ => none) else (bif Nat.beq f 50 then (match args with | [.int .i64 p1] => F_follow_Width p1 h (fun q4 h' => K (Value.int .i64 q4) h') | _ => none) else none)
def HF_follow_counts_best : Hints := ⟨[(4, [0, 3, 4, 15, 16], [(0, [(0, .ty 124), (3, .ty 22), (4, .ty 3)])], none), (11, [0, 3, 4, 7, 8, 9, 27, 28, 29], [(2, [(3, .ty 22), (8, .ty 3)])], none)], [], []⟩
noncomputable def BF_follow_counts_best : Code := match Try.f46.body with | some c => c | none => .skip
noncomputable def F_follow_counts_best_l0 (F_follow_counts_ordered : Option Addr → GH → (Sl → GH → Option β) → Option β) (F_follow_Width : Int → GH → (Int → GH → Option β) → Option β) (R : Nat) (n : Nat) (y4 : Option Addr) (y5 : Sl) (y6 : Int) (y7 : Option Addr) (y8 : Int) (h : GH) (K0 : Option Addr → Sl → Int → GH → Option β) : Option β := gloop (gcode Try.prog (CF_follow_counts_best F_follow_counts_ordered F_follow_Width) Try.f46.ntmps HF_follow_counts_best R (at_ [true, true, true, false, true, false, false] BF_follow_counts_best)) [0, 3, 4, 15, 16] n [(0, Value.pointer y4), (3, Value.slice y5.a y5.n y5.c), (4, Value.int .i64 y6), (15, Value.pointer y7), (16, Value.int .i64 y8)] h (fun i e' h' => bif Nat.beq i 0 then (exP (some (e'.get 0)) fun u44 => exS (some (e'.get 3)) fun u45 => exI .i64 (some (e'.get 4)) fun u46 => K0 u44 u45 u46 h') else none) (fun e' h' => none)
noncomputable def F_follow_counts_best_l1 (F_follow_counts_ordered : Option Addr → GH → (Sl → GH → Option β) → Option β) (F_follow_Width : Int → GH → (Int → GH → Option β) → Option β) (R : Nat) (n : Nat) (y19 : Option Addr) (y20 : Sl) (y21 : Int) (y22 : Int) (y23 : Int) (y24 : Int) (y25 : Sl) (y26 : Int) (y27 : Int) (h : GH) (K2 : Sl → Int → GH → Option β) : Option β := gloop (gcode Try.prog (CF_follow_counts_best F_follow_counts_ordered F_follow_Width) Try.f46.ntmps HF_follow_counts_best R (at_ [true, true, true, true, true, true, false, true, false, false] BF_follow_counts_best)) [0, 3, 4, 7, 8, 9, 27, 28, 29] n [(0, Value.pointer y19), (3, Value.slice y20.a y20.n y20.c), (4, Value.int .i64 y21), (7, Value.int .i64 y22), (8, Value.int .i64 y23), (9, Value.int .i64 y24), (27, Value.slice y25.a y25.n y25.c), (28, Value.int .i64 y26), (29, Value.int .i64 y27)] h (fun i e' h' => bif Nat.beq i 2 then (exS (some (e'.get 3)) fun u47 => exI .i64 (some (e'.get 8)) fun u48 => K2 u47 u48 h') else none) (fun e' h' => none)
set_option maxRecDepth 100000 in
theorem F_follow_counts_best_l1_succ (F_follow_counts_ordered : Option Addr → GH → (Sl → GH → Option β) → Option β) (F_follow_Width : Int → GH → (Int → GH → Option β) → Option β) (R : Nat) (n : Nat) (y19 : Option Addr) (y20 : Sl) (y21 : Int) (y22 : Int) (y23 : Int) (y24 : Int) (y25 : Sl) (y26 : Int) (y27 : Int) (h : GH) (K2 : Sl → Int → GH → Option β) : F_follow_counts_best_l1 F_follow_counts_ordered F_follow_Width R (n + 1) y19 y20 y21 y22 y23 y24 y25 y26 y27 h K2 =
    (bif decide (y27 < y26) then exA y25.a fun g30 o31 => within y27 y25.n (exI .u8 (h.cell ⟨g30, o31 + y27.toNat * 1, none⟩) fun x32 => exA y19 fun g33 o34 => within x32 256 (exI .i64 (h.cell ⟨g33, o34 + x32.toNat * 1, none⟩) fun x35 => F_follow_Width (IntKind.wrap .i64 (y27 + 1)) h fun r36 h37 => (bif decide ((IntKind.wrap .i64 ((IntKind.wrap .i64 ((IntKind.wrap .i64 (8 * (IntKind.wrap .i64 (y27 + 1)))) + (IntKind.wrap .i64 ((IntKind.wrap .i64 (y24 + x35)) * (IntKind.wrap .i64 (1 + r36)))))) + (IntKind.wrap .i64 (9 * (IntKind.wrap .i64 (y21 - (IntKind.wrap .i64 (y24 + x35)))))))) < y22) then F_follow_counts_best_l1 F_follow_counts_ordered F_follow_Width R n y19 y20 y21 (IntKind.wrap .i64 ((IntKind.wrap .i64 ((IntKind.wrap .i64 (8 * (IntKind.wrap .i64 (y27 + 1)))) + (IntKind.wrap .i64 ((IntKind.wrap .i64 (y24 + x35)) * (IntKind.wrap .i64 (1 + r36)))))) + (IntKind.wrap .i64 (9 * (IntKind.wrap .i64 (y21 - (IntKind.wrap .i64 (y24 + x35)))))))) (IntKind.wrap .i64 (y27 + 1)) (IntKind.wrap .i64 (y24 + x35)) y25 y26 (IntKind.wrap .i64 (y27 + 1)) h37 K2 else F_follow_counts_best_l1 F_follow_counts_ordered F_follow_Width R n y19 y20 y21 y22 y23 (IntKind.wrap .i64 (y24 + x35)) y25 y26 (IntKind.wrap .i64 (y27 + 1)) h37 K2))) else K2 y20 y23 h) := by kernel_rfl
set_option maxRecDepth 100000 in
theorem F_follow_counts_best_l0_succ (F_follow_counts_ordered : Option Addr → GH → (Sl → GH → Option β) → Option β) (F_follow_Width : Int → GH → (Int → GH → Option β) → Option β) (R : Nat) (n : Nat) (y4 : Option Addr) (y5 : Sl) (y6 : Int) (y7 : Option Addr) (y8 : Int) (h : GH) (K0 : Option Addr → Sl → Int → GH → Option β) : F_follow_counts_best_l0 F_follow_counts_ordered F_follow_Width R (n + 1) y4 y5 y6 y7 y8 h K0 =
    (bif decide (y8 < 256) then exA y7 fun g12 o13 => within y8 256 (exI .i64 (h.cell ⟨g12, o13 + y8.toNat * 1, none⟩) fun x14 => F_follow_counts_best_l0 F_follow_counts_ordered F_follow_Width R n y4 y5 (IntKind.wrap .i64 (y6 + x14)) y7 (IntKind.wrap .i64 (y8 + 1)) h K0) else K0 y4 y5 y6 h) := by kernel_rfl
noncomputable def G_follow_counts_best (F_follow_counts_ordered : Option Addr → GH → (Sl → GH → Option β) → Option β) (F_follow_Width : Int → GH → (Int → GH → Option β) → Option β) (R : Nat) (a1 : Option Addr) (h : GH) (K : Sl → GH → Option β) : Option β := gfun Try.prog (CF_follow_counts_best F_follow_counts_ordered F_follow_Width) HF_follow_counts_best R Try.f46 [Value.pointer a1] h (fun v h' => exS (some v) fun u49 => K u49 h')
set_option maxRecDepth 100000 in
theorem F_follow_counts_best_gen (F_follow_counts_ordered : Option Addr → GH → (Sl → GH → Option β) → Option β) (F_follow_Width : Int → GH → (Int → GH → Option β) → Option β) (R : Nat) (a1 : Option Addr) (h : GH) (K : Sl → GH → Option β) : G_follow_counts_best F_follow_counts_ordered F_follow_Width R a1 h K =
    F_follow_counts_ordered a1 h fun r2 h3 => F_follow_counts_best_l0 F_follow_counts_ordered F_follow_Width R R a1 r2 0 a1 0 h3 (fun w15 w16 w17 h18 => F_follow_counts_best_l1 F_follow_counts_ordered F_follow_Width R R w15 w16 w17 (IntKind.wrap .i64 (8 * w17)) 0 0 w16 ((w16.n : Nat) : Int) 0 h18 (fun w38 w39 h40 => bnd w39 w38.c fun m41 => bnd w39 m41 fun m42 => K ⟨addO w38.a (0 * 1), m42 - 0, m41 - 0⟩ h40)) := by kernel_rfl
noncomputable def F_follow_counts_best (R : Nat) (a1 : Option Addr) (h : GH) (K : Sl → GH → Option β) : Option β := G_follow_counts_best (F_follow_counts_ordered R) (F_follow_Width R) R a1 h K
set_option maxRecDepth 100000 in
theorem CF_follow_counts_best_sim {R : Nat} : SimOrc Try.prog (CF_follow_counts_best (F_follow_counts_ordered R) (F_follow_Width R) (β := β)) := by
  intro f args h K r hc
  unfold CF_follow_counts_best at hc
  cases hb : Nat.beq f 75 with
  | true =>
    rw [hb] at hc
    simp only [cond_true] at hc
    obtain rfl := Nat.eq_of_beq_eq_true hb
    split at hc
    · exact any_call (F_follow_counts_ordered_sim (K := K) hc)
    · cases hc
  | false =>
  rw [hb] at hc
  simp only [cond_false] at hc
  cases hb : Nat.beq f 50 with
  | true =>
    rw [hb] at hc
    simp only [cond_true] at hc
    obtain rfl := Nat.eq_of_beq_eq_true hb
    split at hc
    · exact any_call (F_follow_Width_sim (K := K) hc)
    · cases hc
  | false =>
  rw [hb] at hc
  simp only [cond_false] at hc
  cases hc
set_option maxRecDepth 100000 in
theorem F_follow_counts_best_sim {R : Nat} {r : β} {a1 : Option Addr} {h : GH} {K : Value → GH → Option β} (hc : F_follow_counts_best R a1 h (fun q0 h' => K (Value.slice q0.a q0.n q0.c) h') = some r) : ∃ v h', K v h' = some r ∧ CallSim Try.prog 46 [Value.pointer a1] h v h' := by
  unfold F_follow_counts_best G_follow_counts_best at hc
  obtain ⟨v, h', hk, hs⟩ := gfun_sim (CF_follow_counts_best_sim (R := R)) mixed_ok (fun f h => by cases h) Try.func46 (by kernel_rfl) hc
  obtain ⟨u0, e0, hk⟩ := exS_v hk; cases e0
  exact ⟨_, h', hk, hs⟩

end
end Go.Proofs.Ytdmemmpkkibckaa.Gx
