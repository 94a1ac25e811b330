/- Functions of the program as the plain machine has them, each with its equation. Printed by a program of this place (wip/gx/gx.py) out of the translation. No condition. -/
import Derived.Test.YtcpgnodiphlfhaaGxQ
import Derived.Test.YtcpgnodiphlfhaaProg
import Derived.Test.YtcpgnodiphlfhaaLv
namespace Go.Proofs.Ytcpgnodiphlfhaa.Gx
open Go
set_option linter.unusedVariables false
theorem mixed_ok : Try.prog.follows .mixedOrders = true := by kernel_rfl
section
variable {β : Type}
noncomputable def Str0 : ByteArray := ⟨([0, 1, 2, 2, 3, 3, 3, 3, 4, 4, 4, 4, 4, 4, 4, 4, 5, 5, 5, 5, 5, 5, 5, 5, 5, 5, 5, 5, 5, 5, 5, 5, 6, 6, 6, 6, 6, 6, 6, 6, 6, 6, 6, 6, 6, 6, 6, 6, 6, 6, 6, 6, 6, 6, 6, 6, 6, 6, 6, 6, 6, 6, 6, 6, 7, 7, 7, 7, 7, 7, 7, 7, 7, 7, 7, 7, 7, 7, 7, 7, 7, 7, 7, 7, 7, 7, 7, 7, 7, 7, 7, 7, 7, 7, 7, 7, 7, 7, 7, 7, 7, 7, 7, 7, 7, 7, 7, 7, 7, 7, 7, 7, 7, 7, 7, 7, 7, 7, 7, 7, 7, 7, 7, 7, 7, 7, 7, 7, 8, 8, 8, 8, 8, 8, 8, 8, 8, 8, 8, 8, 8, 8, 8, 8, 8, 8, 8, 8, 8, 8, 8, 8, 8, 8, 8, 8, 8, 8, 8, 8, 8, 8, 8, 8, 8, 8, 8, 8, 8, 8, 8, 8, 8, 8, 8, 8, 8, 8, 8, 8, 8, 8, 8, 8, 8, 8, 8, 8, 8, 8, 8, 8, 8, 8, 8, 8, 8, 8, 8, 8, 8, 8, 8, 8, 8, 8, 8, 8, 8, 8, 8, 8, 8, 8, 8, 8, 8, 8, 8, 8, 8, 8, 8, 8, 8, 8, 8, 8, 8, 8, 8, 8, 8, 8, 8, 8, 8, 8, 8, 8, 8, 8, 8, 8, 8, 8, 8, 8, 8, 8, 8, 8, 8, 8, 8, 8] : List UInt8).toArray⟩
/-- internal/bytealg.IndexByte: the first place of a byte -/
def F_internal_bytealg_IndexByte (a1 : Sl) (a2 : Int) (h : GH) (K : Int → GH → Option β) : Option β := slCells ⟨a1.a, a1.n, a1.c⟩ 1 h fun vs => exBs vs fun xs => K (gIdx xs a2 0) h
theorem F_internal_bytealg_IndexByte_sim {r : β} {a1 : Sl} {a2 : Int} {h : GH} {K : Value → GH → Option β} (hc : F_internal_bytealg_IndexByte a1 a2 h (fun q1 h' => K (Value.int .i64 q1) h') = some r) : ∃ v h', K v h' = some r ∧ ExtSim Try.prog 27 [Value.slice a1.a a1.n a1.c, Value.int .u8 a2] h v h' := xIndexByte_sim (args := [Value.slice a1.a a1.n a1.c, Value.int .u8 a2]) Try.func27 (by kernel_rfl) (by kernel_rfl) (by kernel_rfl) (by kernel_rfl) hc
noncomputable def Z28 : List Value := match zeroT Try.prog 28 with | some v => vcells v | none => []
noncomputable def Z42 : List Value := match zeroT Try.prog 42 with | some v => vcells v | none => []
noncomputable def Z40 : List Value := match zeroT Try.prog 40 with | some v => vcells v | none => []
/-! F5 duffel/duffelref01.Cut -/
def CF_ref01_Cut  : Orc β := fun f args h K => none
def HF_ref01_Cut : Hints := ⟨[], [], []⟩
noncomputable def G_ref01_Cut  (R : Nat) (a1 : Sl) (a2 : Int) (h : GH) (K : Sl → GH → Option β) : Option β := gfun Try.prog (CF_ref01_Cut ) HF_ref01_Cut R Try.f5 [Value.slice a1.a a1.n a1.c, Value.int .i64 a2] h (fun v h' => exS (some v) fun u5 => K u5 h')
set_option maxRecDepth 100000 in
theorem F_ref01_Cut_gen  (R : Nat) (a1 : Sl) (a2 : Int) (h : GH) (K : Sl → GH → Option β) : G_ref01_Cut  R a1 a2 h K =
    (bif decide (((a1.n : Nat) : Int) > a2) then bnd a2 a1.c fun m3 => K ⟨addO a1.a (0 * 1), m3 - 0, a1.c - 0⟩ h else K a1 h) := by kernel_rfl
noncomputable def F_ref01_Cut (R : Nat) (a1 : Sl) (a2 : Int) (h : GH) (K : Sl → GH → Option β) : Option β := G_ref01_Cut  R a1 a2 h K
theorem CF_ref01_Cut_sim : SimOrc Try.prog (CF_ref01_Cut (β := β)) := by
  intro f args h K r hc
  cases hc
set_option maxRecDepth 100000 in
theorem F_ref01_Cut_sim {R : Nat} {r : β} {a1 : Sl} {a2 : Int} {h : GH} {K : Value → GH → Option β} (hc : F_ref01_Cut R a1 a2 h (fun q0 h' => K (Value.slice q0.a q0.n q0.c) h') = some r) : ∃ v h', K v h' = some r ∧ CallSim Try.prog 5 [Value.slice a1.a a1.n a1.c, Value.int .i64 a2] h v h' := by
  unfold F_ref01_Cut G_ref01_Cut at hc
  obtain ⟨v, h', hk, hs⟩ := gfun_sim CF_ref01_Cut_sim mixed_ok (fun f h => by cases h) Try.func5 (by kernel_rfl) hc
  obtain ⟨u0, e0, hk⟩ := exS_v hk; cases e0
  exact ⟨_, h', hk, hs⟩
/-! F35 cmp.isNaN[int] -/
def CF_cmp_isNaN_int  : Orc β := fun f args h K => none
def HF_cmp_isNaN_int : Hints := ⟨[], [], []⟩
noncomputable def G_cmp_isNaN_int  (R : Nat) (a1 : Int) (h : GH) (K : Bool → GH → Option β) : Option β := gfun Try.prog (CF_cmp_isNaN_int ) HF_cmp_isNaN_int R Try.f35 [Value.int .i64 a1] h (fun v h' => exB (some v) fun u3 => K u3 h')
set_option maxRecDepth 100000 in
theorem F_cmp_isNaN_int_gen  (R : Nat) (a1 : Int) (h : GH) (K : Bool → GH → Option β) : G_cmp_isNaN_int  R a1 h K =
    K (a1 != a1) h := by kernel_rfl
noncomputable def F_cmp_isNaN_int (R : Nat) (a1 : Int) (h : GH) (K : Bool → GH → Option β) : Option β := G_cmp_isNaN_int  R a1 h K
theorem CF_cmp_isNaN_int_sim : SimOrc Try.prog (CF_cmp_isNaN_int (β := β)) := by
  intro f args h K r hc
  cases hc
set_option maxRecDepth 100000 in
theorem F_cmp_isNaN_int_sim {R : Nat} {r : β} {a1 : Int} {h : GH} {K : Value → GH → Option β} (hc : F_cmp_isNaN_int R a1 h (fun q0 h' => K (Value.bool q0) h') = some r) : ∃ v h', K v h' = some r ∧ CallSim Try.prog 35 [Value.int .i64 a1] h v h' := by
  unfold F_cmp_isNaN_int G_cmp_isNaN_int at hc
  obtain ⟨v, h', hk, hs⟩ := gfun_sim CF_cmp_isNaN_int_sim mixed_ok (fun f h => by cases h) Try.func35 (by kernel_rfl) hc
  obtain ⟨u0, e0, hk⟩ := exB_v hk; cases e0
  exact ⟨_, h', hk, hs⟩
/-! F30 cmp.Compare[int] -/
def CF_cmp_Compare_int (F_cmp_isNaN_int : Int → GH → (Bool → GH → Option β) → Option β) : Orc β := fun f args h K => bif Nat.beq f 35 then (match args with | [.int .i64 p1] => F_cmp_isNaN_int p1 h (fun q2 h' => K (Value.bool q2) h') | _ => none) else none
def HF_cmp_Compare_int : Hints := ⟨[], [], []⟩
noncomputable def G_cmp_Compare_int (F_cmp_isNaN_int : Int → GH → (Bool → GH → Option β) → Option β) (R : Nat) (a1 : Int) (a2 : Int) (h : GH) (K : Int → GH → Option β) : Option β := gfun Try.prog (CF_cmp_Compare_int F_cmp_isNaN_int) HF_cmp_Compare_int R Try.f30 [Value.int .i64 a1, Value.int .i64 a2] h (fun v h' => exI .i64 (some v) fun u8 => K u8 h')
set_option maxRecDepth 100000 in
theorem F_cmp_Compare_int_gen (F_cmp_isNaN_int : Int → GH → (Bool → GH → Option β) → Option β) (R : Nat) (a1 : Int) (a2 : Int) (h : GH) (K : Int → GH → Option β) : G_cmp_Compare_int F_cmp_isNaN_int R a1 a2 h K =
    F_cmp_isNaN_int a1 h fun r3 h4 => F_cmp_isNaN_int a2 h4 fun r5 h6 => (bif r3 then (bif r5 then K 0 h6 else K (-1) h6) else (bif r5 then K 1 h6 else (bif decide (a1 < a2) then K (-1) h6 else (bif decide (a1 > a2) then K 1 h6 else K 0 h6)))) := by kernel_rfl
noncomputable def F_cmp_Compare_int (R : Nat) (a1 : Int) (a2 : Int) (h : GH) (K : Int → GH → Option β) : Option β := G_cmp_Compare_int (F_cmp_isNaN_int R) R a1 a2 h K
set_option maxRecDepth 100000 in
theorem CF_cmp_Compare_int_sim {R : Nat} : SimOrc Try.prog (CF_cmp_Compare_int (F_cmp_isNaN_int R) (β := β)) := by
  intro f args h K r hc
  unfold CF_cmp_Compare_int at hc
  cases hb : Nat.beq f 35 with
  | true =>
    rw [hb] at hc
    simp only [cond_true] at hc
    obtain rfl := Nat.eq_of_beq_eq_true hb
    split at hc
    · exact any_call (F_cmp_isNaN_int_sim (K := K) hc)
    · cases hc
  | false =>
  rw [hb] at hc
  simp only [cond_false] at hc
  cases hc
set_option maxRecDepth 100000 in
theorem F_cmp_Compare_int_sim {R : Nat} {r : β} {a1 : Int} {a2 : Int} {h : GH} {K : Value → GH → Option β} (hc : F_cmp_Compare_int R a1 a2 h (fun q0 h' => K (Value.int .i64 q0) h') = some r) : ∃ v h', K v h' = some r ∧ CallSim Try.prog 30 [Value.int .i64 a1, Value.int .i64 a2] h v h' := by
  unfold F_cmp_Compare_int G_cmp_Compare_int at hc
  obtain ⟨v, h', hk, hs⟩ := gfun_sim (CF_cmp_Compare_int_sim (R := R)) mixed_ok (fun f h => by cases h) Try.func30 (by kernel_rfl) hc
  obtain ⟨u0, e0, hk⟩ := exI_v hk; cases e0
  exact ⟨_, h', hk, hs⟩
/-! F29 (*duffel/follow.counts).ordered$1 -/
def CF_follow_counts_ordered_1_s1 (F_cmp_Compare_int : Int → Int → GH → (Int → GH → Option β) → Option β) : Orc β := fun f args h K => bif Nat.beq f 30 then (match args with | [.int .i64 p1, .int .i64 p2] => F_cmp_Compare_int p1 p2 h (fun q7 h' => K (Value.int .i64 q7) h') | _ => none) else none
def HF_follow_counts_ordered_1_s1 : Hints := ⟨[], [], []⟩
noncomputable def G_follow_counts_ordered_1_s1 (F_cmp_Compare_int : Int → Int → GH → (Int → GH → Option β) → Option β) (R : Nat) (a1 : Int) (a2 : Int) (y3 : Option Addr) (h : GH) (K : Int → GH → Option β) : Option β := gfun Try.prog (CF_follow_counts_ordered_1_s1 F_cmp_Compare_int) HF_follow_counts_ordered_1_s1 R Try.f29 [Value.int .u8 a1, Value.int .u8 a2, Value.pointer y3] h (fun v h' => exI .i64 (some v) fun u19 => K u19 h')
set_option maxRecDepth 100000 in
theorem F_follow_counts_ordered_1_s1_gen (F_cmp_Compare_int : Int → Int → GH → (Int → GH → Option β) → Option β) (R : Nat) (a1 : Int) (a2 : Int) (y3 : Option Addr) (h : GH) (K : Int → GH → Option β) : G_follow_counts_ordered_1_s1 F_cmp_Compare_int R a1 a2 y3 h K =
    exA y3 fun g4 o5 => exP (h.cell ⟨g4, o5, none⟩) fun x6 => exA x6 fun g7 o8 => within a2 256 (exI .i64 (h.cell ⟨g7, o8 + a2.toNat * 1, none⟩) fun x9 => exA y3 fun g10 o11 => exP (h.cell ⟨g10, o11, none⟩) fun x12 => exA x12 fun g13 o14 => within a1 256 (exI .i64 (h.cell ⟨g13, o14 + a1.toNat * 1, none⟩) fun x15 => F_cmp_Compare_int x9 x15 h fun r16 h17 => K r16 h17)) := by kernel_rfl
noncomputable def F_follow_counts_ordered_1_s1 (R : Nat) (a1 : Int) (a2 : Int) (y3 : Option Addr) (h : GH) (K : Int → GH → Option β) : Option β := G_follow_counts_ordered_1_s1 (F_cmp_Compare_int R) R a1 a2 y3 h K
set_option maxRecDepth 100000 in
theorem CF_follow_counts_ordered_1_s1_sim {R : Nat} : SimOrc Try.prog (CF_follow_counts_ordered_1_s1 (F_cmp_Compare_int R) (β := β)) := by
  intro f args h K r hc
  unfold CF_follow_counts_ordered_1_s1 at hc
  cases hb : Nat.beq f 30 with
  | true =>
    rw [hb] at hc
    simp only [cond_true] at hc
    obtain rfl := Nat.eq_of_beq_eq_true hb
    split at hc
    · exact any_call (F_cmp_Compare_int_sim (K := K) hc)
    · cases hc
  | false =>
  rw [hb] at hc
  simp only [cond_false] at hc
  cases hc
set_option maxRecDepth 100000 in
theorem F_follow_counts_ordered_1_s1_sim {R : Nat} {r : β} {a1 : Int} {a2 : Int} {y3 : Option Addr} {h : GH} {K : Value → GH → Option β} (hc : F_follow_counts_ordered_1_s1 R a1 a2 y3 h (fun q0 h' => K (Value.int .i64 q0) h') = some r) : ∃ v h', K v h' = some r ∧ CallSim Try.prog 29 [Value.int .u8 a1, Value.int .u8 a2, Value.pointer y3] h v h' := by
  unfold F_follow_counts_ordered_1_s1 G_follow_counts_ordered_1_s1 at hc
  obtain ⟨v, h', hk, hs⟩ := gfun_sim (CF_follow_counts_ordered_1_s1_sim (R := R)) mixed_ok (fun f h => by cases h) Try.func29 (by kernel_rfl) hc
  obtain ⟨u0, e0, hk⟩ := exI_v hk; cases e0
  exact ⟨_, h', hk, hs⟩
/-! F36 slices.insertionSortCmpFunc[byte] -/
def CF_slices_insertionSortCmpFunc_byte_s1 (F_follow_counts_ordered_1_s1 : Int → Int → Option Addr → GH → (Int → GH → Option β) → Option β) : Orc β := fun f args h K => bif Nat.beq f 29 then (match args with | [.int .u8 p1, .int .u8 p2, .pointer p3] => F_follow_counts_ordered_1_s1 p1 p2 p3 h (fun q18 h' => K (Value.int .i64 q18) h') | _ => none) else none
def HF_slices_insertionSortCmpFunc_byte_s1 : Hints := ⟨[(1, [0, 1, 2, 3, 8], [(0, [])], none), (4, [0, 1, 2, 3, 8, 9], [(2, [(0, .ty 22), (1, .ty 3), (2, .ty 3), (3, .fn 29 [] [.ptr]), (8, .ty 3)])], none)], [], []⟩
noncomputable def BF_slices_insertionSortCmpFunc_byte_s1 : Code := match Try.f36.body with | some c => c | none => .skip
noncomputable def F_slices_insertionSortCmpFunc_byte_s1_l0 (F_follow_counts_ordered_1_s1 : Int → Int → Option Addr → GH → (Int → GH → Option β) → Option β) (R : Nat) (n : Nat) (y5 : Sl) (y6 : Int) (y7 : Int) (y8 : Option Addr) (y9 : Int) (h : GH) (K0 : GH → Option β) : Option β := gloop (gcode Try.prog (CF_slices_insertionSortCmpFunc_byte_s1 F_follow_counts_ordered_1_s1) Try.f36.ntmps HF_slices_insertionSortCmpFunc_byte_s1 R (at_ [true, false, false] BF_slices_insertionSortCmpFunc_byte_s1)) [0, 1, 2, 3, 8] n [(0, Value.slice y5.a y5.n y5.c), (1, Value.int .i64 y6), (2, Value.int .i64 y7), (3, Value.func (.func 29) #[] #[Value.pointer y8]), (8, Value.int .i64 y9)] h (fun i e' h' => bif Nat.beq i 0 then (K0 h') else none) (fun e' h' => none)
noncomputable def F_slices_insertionSortCmpFunc_byte_s1_l1 (F_follow_counts_ordered_1_s1 : Int → Int → Option Addr → GH → (Int → GH → Option β) → Option β) (R : Nat) (n : Nat) (y10 : Sl) (y11 : Int) (y12 : Int) (y13 : Option Addr) (y14 : Int) (y15 : Int) (h : GH) (K2 : Sl → Int → Int → Option Addr → Int → GH → Option β) : Option β := gloop (gcode Try.prog (CF_slices_insertionSortCmpFunc_byte_s1 F_follow_counts_ordered_1_s1) Try.f36.ntmps HF_slices_insertionSortCmpFunc_byte_s1 R (at_ [true, false, false, true, false, false, true, false, false] BF_slices_insertionSortCmpFunc_byte_s1)) [0, 1, 2, 3, 8, 9] n [(0, Value.slice y10.a y10.n y10.c), (1, Value.int .i64 y11), (2, Value.int .i64 y12), (3, Value.func (.func 29) #[] #[Value.pointer y13]), (8, Value.int .i64 y14), (9, Value.int .i64 y15)] h (fun i e' h' => bif Nat.beq i 2 then (exS (some (e'.get 0)) fun u48 => exI .i64 (some (e'.get 1)) fun u49 => exI .i64 (some (e'.get 2)) fun u50 => exF 29 [] [.ptr] (e'.get 3) fun ga52 gc53 => (match ga52, gc53 with | [], [.pointer p51] => exI .i64 (some (e'.get 8)) fun u54 => K2 u48 u49 u50 p51 u54 h' | _, _ => none)) else none) (fun e' h' => none)
set_option maxRecDepth 100000 in
theorem F_slices_insertionSortCmpFunc_byte_s1_l1_succ (F_follow_counts_ordered_1_s1 : Int → Int → Option Addr → GH → (Int → GH → Option β) → Option β) (R : Nat) (n : Nat) (y10 : Sl) (y11 : Int) (y12 : Int) (y13 : Option Addr) (y14 : Int) (y15 : Int) (h : GH) (K2 : Sl → Int → Int → Option Addr → Int → GH → Option β) : F_slices_insertionSortCmpFunc_byte_s1_l1 F_follow_counts_ordered_1_s1 R (n + 1) y10 y11 y12 y13 y14 y15 h K2 =
    (bif decide (y15 > y11) then exA y10.a fun g21 o22 => within y15 y10.n (exI .u8 (h.cell ⟨g21, o22 + y15.toNat * 1, none⟩) fun x23 => exA y10.a fun g24 o25 => within (IntKind.wrap .i64 (y15 - 1)) y10.n (exI .u8 (h.cell ⟨g24, o25 + (IntKind.wrap .i64 (y15 - 1)).toNat * 1, none⟩) fun x26 => F_follow_counts_ordered_1_s1 x23 x26 y13 h fun r27 h28 => (bif decide (r27 < 0) then exA y10.a fun g29 o30 => within (IntKind.wrap .i64 (y15 - 1)) y10.n (exI .u8 (h28.cell ⟨g29, o30 + (IntKind.wrap .i64 (y15 - 1)).toNat * 1, none⟩) fun x31 => exA y10.a fun g32 o33 => within y15 y10.n (exI .u8 (h28.cell ⟨g32, o33 + y15.toNat * 1, none⟩) fun x34 => exA y10.a fun g35 o36 => within y15 y10.n (gput g35 (o36 + y15.toNat * 1) [Value.int .u8 x31] h28 fun h37 => exA y10.a fun g38 o39 => within (IntKind.wrap .i64 (y15 - 1)) y10.n (gput g38 (o39 + (IntKind.wrap .i64 (y15 - 1)).toNat * 1) [Value.int .u8 x34] h37 fun h40 => F_slices_insertionSortCmpFunc_byte_s1_l1 F_follow_counts_ordered_1_s1 R n y10 y11 y12 y13 y14 (IntKind.wrap .i64 (y15 - 1)) h40 K2)))) else K2 y10 y11 y12 y13 y14 h28))) else K2 y10 y11 y12 y13 y14 h) := by kernel_rfl
set_option maxRecDepth 100000 in
theorem F_slices_insertionSortCmpFunc_byte_s1_l0_succ (F_follow_counts_ordered_1_s1 : Int → Int → Option Addr → GH → (Int → GH → Option β) → Option β) (R : Nat) (n : Nat) (y5 : Sl) (y6 : Int) (y7 : Int) (y8 : Option Addr) (y9 : Int) (h : GH) (K0 : GH → Option β) : F_slices_insertionSortCmpFunc_byte_s1_l0 F_follow_counts_ordered_1_s1 R (n + 1) y5 y6 y7 y8 y9 h K0 =
    (bif decide (y9 < y7) then F_slices_insertionSortCmpFunc_byte_s1_l1 F_follow_counts_ordered_1_s1 R R y5 y6 y7 y8 y9 y9 h (fun w41 w42 w43 y44 w45 h46 => F_slices_insertionSortCmpFunc_byte_s1_l0 F_follow_counts_ordered_1_s1 R n w41 w42 w43 y44 (IntKind.wrap .i64 (w45 + 1)) h46 K0) else K0 h) := by kernel_rfl
noncomputable def G_slices_insertionSortCmpFunc_byte_s1 (F_follow_counts_ordered_1_s1 : Int → Int → Option Addr → GH → (Int → GH → Option β) → Option β) (R : Nat) (a1 : Sl) (a2 : Int) (a3 : Int) (y4 : Option Addr) (h : GH) (K : GH → Option β) : Option β := gfun Try.prog (CF_slices_insertionSortCmpFunc_byte_s1 F_follow_counts_ordered_1_s1) HF_slices_insertionSortCmpFunc_byte_s1 R Try.f36 [Value.slice a1.a a1.n a1.c, Value.int .i64 a2, Value.int .i64 a3, Value.func (.func 29) #[] #[Value.pointer y4]] h (fun _ h' => K h')
set_option maxRecDepth 100000 in
theorem F_slices_insertionSortCmpFunc_byte_s1_gen (F_follow_counts_ordered_1_s1 : Int → Int → Option Addr → GH → (Int → GH → Option β) → Option β) (R : Nat) (a1 : Sl) (a2 : Int) (a3 : Int) (y4 : Option Addr) (h : GH) (K : GH → Option β) : G_slices_insertionSortCmpFunc_byte_s1 F_follow_counts_ordered_1_s1 R a1 a2 a3 y4 h K =
    F_slices_insertionSortCmpFunc_byte_s1_l0 F_follow_counts_ordered_1_s1 R R a1 a2 a3 y4 (IntKind.wrap .i64 (a2 + 1)) h (fun h47 => K h47) := by kernel_rfl
noncomputable def F_slices_insertionSortCmpFunc_byte_s1 (R : Nat) (a1 : Sl) (a2 : Int) (a3 : Int) (y4 : Option Addr) (h : GH) (K : GH → Option β) : Option β := G_slices_insertionSortCmpFunc_byte_s1 (F_follow_counts_ordered_1_s1 R) R a1 a2 a3 y4 h K
set_option maxRecDepth 100000 in
theorem CF_slices_insertionSortCmpFunc_byte_s1_sim {R : Nat} : SimOrc Try.prog (CF_slices_insertionSortCmpFunc_byte_s1 (F_follow_counts_ordered_1_s1 R) (β := β)) := by
  intro f args h K r hc
  unfold CF_slices_insertionSortCmpFunc_byte_s1 at hc
  cases hb : Nat.beq f 29 with
  | true =>
    rw [hb] at hc
    simp only [cond_true] at hc
    obtain rfl := Nat.eq_of_beq_eq_true hb
    split at hc
    · exact any_call (F_follow_counts_ordered_1_s1_sim (K := K) hc)
    · cases hc
  | false =>
  rw [hb] at hc
  simp only [cond_false] at hc
  cases hc
set_option maxRecDepth 100000 in
theorem F_slices_insertionSortCmpFunc_byte_s1_sim {R : Nat} {r : β} {a1 : Sl} {a2 : Int} {a3 : Int} {y4 : Option Addr} {h : GH} {K : Value → GH → Option β} (hc : F_slices_insertionSortCmpFunc_byte_s1 R a1 a2 a3 y4 h (fun h' => K (Value.tuple #[]) h') = some r) : ∃ v h', K v h' = some r ∧ CallSim Try.prog 36 [Value.slice a1.a a1.n a1.c, Value.int .i64 a2, Value.int .i64 a3, Value.func (.func 29) #[] #[Value.pointer y4]] h v h' := by
  unfold F_slices_insertionSortCmpFunc_byte_s1 G_slices_insertionSortCmpFunc_byte_s1 at hc
  obtain ⟨v, h', hk, hs⟩ := gfun_sim (CF_slices_insertionSortCmpFunc_byte_s1_sim (R := R)) mixed_ok (fun f h => by cases h) Try.func36 (by kernel_rfl) hc
  exact ⟨_, h', hk, hs.unit⟩
/-! F39 slices.swapRangeCmpFunc[byte] -/
def CF_slices_swapRangeCmpFunc_byte_s1  : Orc β := fun f args h K => none
def HF_slices_swapRangeCmpFunc_byte_s1 : Hints := ⟨[(1, [0, 1, 2, 3, 10], [(0, [])], none)], [], []⟩
noncomputable def BF_slices_swapRangeCmpFunc_byte_s1 : Code := match Try.f39.body with | some c => c | none => .skip
noncomputable def F_slices_swapRangeCmpFunc_byte_s1_l0  (R : Nat) (n : Nat) (y6 : Sl) (y7 : Int) (y8 : Int) (y9 : Int) (y10 : Int) (h : GH) (K0 : GH → Option β) : Option β := gloop (gcode Try.prog (CF_slices_swapRangeCmpFunc_byte_s1 ) Try.f39.ntmps HF_slices_swapRangeCmpFunc_byte_s1 R (at_ [true, false, false] BF_slices_swapRangeCmpFunc_byte_s1)) [0, 1, 2, 3, 10] n [(0, Value.slice y6.a y6.n y6.c), (1, Value.int .i64 y7), (2, Value.int .i64 y8), (3, Value.int .i64 y9), (10, Value.int .i64 y10)] h (fun i e' h' => bif Nat.beq i 0 then (K0 h') else none) (fun e' h' => none)
set_option maxRecDepth 100000 in
theorem F_slices_swapRangeCmpFunc_byte_s1_l0_succ  (R : Nat) (n : Nat) (y6 : Sl) (y7 : Int) (y8 : Int) (y9 : Int) (y10 : Int) (h : GH) (K0 : GH → Option β) : F_slices_swapRangeCmpFunc_byte_s1_l0  R (n + 1) y6 y7 y8 y9 y10 h K0 =
    (bif decide (y10 < y9) then exA y6.a fun g11 o12 => within (IntKind.wrap .i64 (y8 + y10)) y6.n (exI .u8 (h.cell ⟨g11, o12 + (IntKind.wrap .i64 (y8 + y10)).toNat * 1, none⟩) fun x13 => exA y6.a fun g14 o15 => within (IntKind.wrap .i64 (y7 + y10)) y6.n (exI .u8 (h.cell ⟨g14, o15 + (IntKind.wrap .i64 (y7 + y10)).toNat * 1, none⟩) fun x16 => exA y6.a fun g17 o18 => within (IntKind.wrap .i64 (y7 + y10)) y6.n (gput g17 (o18 + (IntKind.wrap .i64 (y7 + y10)).toNat * 1) [Value.int .u8 x13] h fun h19 => exA y6.a fun g20 o21 => within (IntKind.wrap .i64 (y8 + y10)) y6.n (gput g20 (o21 + (IntKind.wrap .i64 (y8 + y10)).toNat * 1) [Value.int .u8 x16] h19 fun h22 => F_slices_swapRangeCmpFunc_byte_s1_l0 R n y6 y7 y8 y9 (IntKind.wrap .i64 (y10 + 1)) h22 K0)))) else K0 h) := by kernel_rfl
noncomputable def G_slices_swapRangeCmpFunc_byte_s1  (R : Nat) (a1 : Sl) (a2 : Int) (a3 : Int) (a4 : Int) (y5 : Option Addr) (h : GH) (K : GH → Option β) : Option β := gfun Try.prog (CF_slices_swapRangeCmpFunc_byte_s1 ) HF_slices_swapRangeCmpFunc_byte_s1 R Try.f39 [Value.slice a1.a a1.n a1.c, Value.int .i64 a2, Value.int .i64 a3, Value.int .i64 a4, Value.func (.func 29) #[] #[Value.pointer y5]] h (fun _ h' => K h')
set_option maxRecDepth 100000 in
theorem F_slices_swapRangeCmpFunc_byte_s1_gen  (R : Nat) (a1 : Sl) (a2 : Int) (a3 : Int) (a4 : Int) (y5 : Option Addr) (h : GH) (K : GH → Option β) : G_slices_swapRangeCmpFunc_byte_s1  R a1 a2 a3 a4 y5 h K =
    F_slices_swapRangeCmpFunc_byte_s1_l0 R R a1 a2 a3 a4 0 h (fun h23 => K h23) := by kernel_rfl
noncomputable def F_slices_swapRangeCmpFunc_byte_s1 (R : Nat) (a1 : Sl) (a2 : Int) (a3 : Int) (a4 : Int) (y5 : Option Addr) (h : GH) (K : GH → Option β) : Option β := G_slices_swapRangeCmpFunc_byte_s1  R a1 a2 a3 a4 y5 h K
theorem CF_slices_swapRangeCmpFunc_byte_s1_sim : SimOrc Try.prog (CF_slices_swapRangeCmpFunc_byte_s1 (β := β)) := by
  intro f args h K r hc
  cases hc
set_option maxRecDepth 100000 in
theorem F_slices_swapRangeCmpFunc_byte_s1_sim {R : Nat} {r : β} {a1 : Sl} {a2 : Int} {a3 : Int} {a4 : Int} {y5 : Option Addr} {h : GH} {K : Value → GH → Option β} (hc : F_slices_swapRangeCmpFunc_byte_s1 R a1 a2 a3 a4 y5 h (fun h' => K (Value.tuple #[]) h') = some r) : ∃ v h', K v h' = some r ∧ CallSim Try.prog 39 [Value.slice a1.a a1.n a1.c, Value.int .i64 a2, Value.int .i64 a3, Value.int .i64 a4, Value.func (.func 29) #[] #[Value.pointer y5]] h v h' := by
  unfold F_slices_swapRangeCmpFunc_byte_s1 G_slices_swapRangeCmpFunc_byte_s1 at hc
  obtain ⟨v, h', hk, hs⟩ := gfun_sim CF_slices_swapRangeCmpFunc_byte_s1_sim mixed_ok (fun f h => by cases h) Try.func39 (by kernel_rfl) hc
  exact ⟨_, h', hk, hs.unit⟩
/-! F38 slices.rotateCmpFunc[byte] -/
def CF_slices_rotateCmpFunc_byte_s1 (F_slices_swapRangeCmpFunc_byte_s1 : Sl → Int → Int → Int → Option Addr → GH → (GH → Option β) → Option β) : Orc β := fun f args h K => bif Nat.beq f 39 then (match args with | [.slice p1a p1n p1c, .int .i64 p2, .int .i64 p3, .int .i64 p4, .func (.func 29) ⟨[]⟩ ⟨[.pointer p5]⟩] => F_slices_swapRangeCmpFunc_byte_s1 ⟨p1a, p1n, p1c⟩ p2 p3 p4 p5 h (fun h' => K (Value.tuple #[]) h') | _ => none) else none
def HF_slices_rotateCmpFunc_byte_s1 : Hints := ⟨[(2, [0, 2, 4, 10, 11], [(0, [(0, .ty 22), (2, .ty 3), (4, .fn 29 [] [.ptr]), (10, .ty 3)])], none)], [], []⟩
noncomputable def BF_slices_rotateCmpFunc_byte_s1 : Code := match Try.f38.body with | some c => c | none => .skip
noncomputable def F_slices_rotateCmpFunc_byte_s1_l0 (F_slices_swapRangeCmpFunc_byte_s1 : Sl → Int → Int → Int → Option Addr → GH → (GH → Option β) → Option β) (R : Nat) (n : Nat) (y6 : Sl) (y7 : Int) (y8 : Option Addr) (y9 : Int) (y10 : Int) (h : GH) (K0 : Sl → Int → Option Addr → Int → GH → Option β) : Option β := gloop (gcode Try.prog (CF_slices_rotateCmpFunc_byte_s1 F_slices_swapRangeCmpFunc_byte_s1) Try.f38.ntmps HF_slices_rotateCmpFunc_byte_s1 R (at_ [true, true, false, false, false] BF_slices_rotateCmpFunc_byte_s1)) [0, 2, 4, 10, 11] n [(0, Value.slice y6.a y6.n y6.c), (2, Value.int .i64 y7), (4, Value.func (.func 29) #[] #[Value.pointer y8]), (10, Value.int .i64 y9), (11, Value.int .i64 y10)] h (fun i e' h' => bif Nat.beq i 0 then (exS (some (e'.get 0)) fun u23 => exI .i64 (some (e'.get 2)) fun u24 => exF 29 [] [.ptr] (e'.get 4) fun ga26 gc27 => (match ga26, gc27 with | [], [.pointer p25] => exI .i64 (some (e'.get 10)) fun u28 => K0 u23 u24 p25 u28 h' | _, _ => none)) else none) (fun e' h' => none)
set_option maxRecDepth 100000 in
theorem F_slices_rotateCmpFunc_byte_s1_l0_succ (F_slices_swapRangeCmpFunc_byte_s1 : Sl → Int → Int → Int → Option Addr → GH → (GH → Option β) → Option β) (R : Nat) (n : Nat) (y6 : Sl) (y7 : Int) (y8 : Option Addr) (y9 : Int) (y10 : Int) (h : GH) (K0 : Sl → Int → Option Addr → Int → GH → Option β) : F_slices_rotateCmpFunc_byte_s1_l0 F_slices_swapRangeCmpFunc_byte_s1 R (n + 1) y6 y7 y8 y9 y10 h K0 =
    (bif y9 != y10 then (bif decide (y9 > y10) then F_slices_swapRangeCmpFunc_byte_s1 y6 (IntKind.wrap .i64 (y7 - y9)) y7 y10 y8 h fun h15 => F_slices_rotateCmpFunc_byte_s1_l0 F_slices_swapRangeCmpFunc_byte_s1 R n y6 y7 y8 (IntKind.wrap .i64 (y9 - y10)) y10 h15 K0 else F_slices_swapRangeCmpFunc_byte_s1 y6 (IntKind.wrap .i64 (y7 - y9)) (IntKind.wrap .i64 ((IntKind.wrap .i64 (y7 + y10)) - y9)) y9 y8 h fun h16 => F_slices_rotateCmpFunc_byte_s1_l0 F_slices_swapRangeCmpFunc_byte_s1 R n y6 y7 y8 y9 (IntKind.wrap .i64 (y10 - y9)) h16 K0) else K0 y6 y7 y8 y9 h) := by kernel_rfl
noncomputable def G_slices_rotateCmpFunc_byte_s1 (F_slices_swapRangeCmpFunc_byte_s1 : Sl → Int → Int → Int → Option Addr → GH → (GH → Option β) → Option β) (R : Nat) (a1 : Sl) (a2 : Int) (a3 : Int) (a4 : Int) (y5 : Option Addr) (h : GH) (K : GH → Option β) : Option β := gfun Try.prog (CF_slices_rotateCmpFunc_byte_s1 F_slices_swapRangeCmpFunc_byte_s1) HF_slices_rotateCmpFunc_byte_s1 R Try.f38 [Value.slice a1.a a1.n a1.c, Value.int .i64 a2, Value.int .i64 a3, Value.int .i64 a4, Value.func (.func 29) #[] #[Value.pointer y5]] h (fun _ h' => K h')
set_option maxRecDepth 100000 in
theorem F_slices_rotateCmpFunc_byte_s1_gen (F_slices_swapRangeCmpFunc_byte_s1 : Sl → Int → Int → Int → Option Addr → GH → (GH → Option β) → Option β) (R : Nat) (a1 : Sl) (a2 : Int) (a3 : Int) (a4 : Int) (y5 : Option Addr) (h : GH) (K : GH → Option β) : G_slices_rotateCmpFunc_byte_s1 F_slices_swapRangeCmpFunc_byte_s1 R a1 a2 a3 a4 y5 h K =
    F_slices_rotateCmpFunc_byte_s1_l0 F_slices_swapRangeCmpFunc_byte_s1 R R a1 a3 y5 (IntKind.wrap .i64 (a3 - a2)) (IntKind.wrap .i64 (a4 - a3)) h (fun w17 w18 y19 w20 h21 => F_slices_swapRangeCmpFunc_byte_s1 w17 (IntKind.wrap .i64 (w18 - w20)) w18 w20 y19 h21 fun h22 => K h22) := by kernel_rfl
noncomputable def F_slices_rotateCmpFunc_byte_s1 (R : Nat) (a1 : Sl) (a2 : Int) (a3 : Int) (a4 : Int) (y5 : Option Addr) (h : GH) (K : GH → Option β) : Option β := G_slices_rotateCmpFunc_byte_s1 (F_slices_swapRangeCmpFunc_byte_s1 R) R a1 a2 a3 a4 y5 h K
set_option maxRecDepth 100000 in
theorem CF_slices_rotateCmpFunc_byte_s1_sim {R : Nat} : SimOrc Try.prog (CF_slices_rotateCmpFunc_byte_s1 (F_slices_swapRangeCmpFunc_byte_s1 R) (β := β)) := by
  intro f args h K r hc
  unfold CF_slices_rotateCmpFunc_byte_s1 at hc
  cases hb : Nat.beq f 39 with
  | true =>
    rw [hb] at hc
    simp only [cond_true] at hc
    obtain rfl := Nat.eq_of_beq_eq_true hb
    split at hc
    · exact any_call (F_slices_swapRangeCmpFunc_byte_s1_sim (K := K) hc)
    · cases hc
  | false =>
  rw [hb] at hc
  simp only [cond_false] at hc
  cases hc
set_option maxRecDepth 100000 in
theorem F_slices_rotateCmpFunc_byte_s1_sim {R : Nat} {r : β} {a1 : Sl} {a2 : Int} {a3 : Int} {a4 : Int} {y5 : Option Addr} {h : GH} {K : Value → GH → Option β} (hc : F_slices_rotateCmpFunc_byte_s1 R a1 a2 a3 a4 y5 h (fun h' => K (Value.tuple #[]) h') = some r) : ∃ v h', K v h' = some r ∧ CallSim Try.prog 38 [Value.slice a1.a a1.n a1.c, Value.int .i64 a2, Value.int .i64 a3, Value.int .i64 a4, Value.func (.func 29) #[] #[Value.pointer y5]] h v h' := by
  unfold F_slices_rotateCmpFunc_byte_s1 G_slices_rotateCmpFunc_byte_s1 at hc
  obtain ⟨v, h', hk, hs⟩ := gfun_sim (CF_slices_rotateCmpFunc_byte_s1_sim (R := R)) mixed_ok (fun f h => by cases h) Try.func38 (by kernel_rfl) hc
  exact ⟨_, h', hk, hs.unit⟩
/-! F37 slices.symMergeCmpFunc[byte] -/
def CF_slices_symMergeCmpFunc_byte_s1 (F_follow_counts_ordered_1_s1 : Int → Int → Option Addr → GH → (Int → GH → Option β) → Option β) (F_slices_rotateCmpFunc_byte_s1 : Sl → Int → Int → Int → Option Addr → GH → (GH → Option β) → Option β) (F_slices_symMergeCmpFunc_byte_s1 : Sl → Int → Int → Int → Option Addr → GH → (GH → Option β) → Option β) : Orc β := fun f args h K => bif Nat.beq f 29 then (match args with | [.int .u8 p1, .int .u8 p2, .pointer p3] => F_follow_counts_ordered_1_s1 p1 p2 p3 h (fun q18 h' => K (Value.int .i64 q18) h') | _ => none) else (bif Nat.beq f 38 then (match args with | [.slice p1a p1n p1c, .int .i64 p2, .int .i64 p3, .int .i64 p4, .func (.func 29) ⟨[]⟩ ⟨[.pointer p5]⟩] => F_slices_rotateCmpFunc_byte_s1 ⟨p1a, p1n, p1c⟩ p2 p3 p4 p5 h (fun h' => K (Value.tuple #[]) h') | _ => none) else (bif Nat.beq f 37 then (match args with | [.slice p1a p1n p1c, .int .i64 p2, .int .i64 p3, .int .i64 p4, .func (.func 29) ⟨[]⟩ ⟨[.pointer p5]⟩] => F_slices_symMergeCmpFunc_byte_s1 ⟨p1a, p1n, p1c⟩ p2 p3 p4 p5 h (fun h' => K (Value.tuple #[]) h') | _ => none) else none))
def HF_slices_symMergeCmpFunc_byte_s1 : Hints := ⟨[(3, [0, 1, 4, 10, 11], [(0, [(0, .ty 22), (1, .ty 3), (10, .ty 3)])], none), (9, [0, 10, 13], [(2, [])], none), (15, [0, 2, 4, 14, 15], [(4, [(0, .ty 22), (2, .ty 3), (14, .ty 3)])], none), (21, [0, 14, 17], [(6, [])], none), (33, [0, 1, 2, 3, 4, 18, 19, 20, 21, 22], [(8, [(0, .ty 22), (1, .ty 3), (2, .ty 3), (3, .ty 3), (4, .fn 29 [] [.ptr]), (18, .ty 3), (19, .ty 3), (20, .ty 3)])], none)], [], []⟩
noncomputable def BF_slices_symMergeCmpFunc_byte_s1 : Code := match Try.f37.body with | some c => c | none => .skip
noncomputable def F_slices_symMergeCmpFunc_byte_s1_l0 (F_follow_counts_ordered_1_s1 : Int → Int → Option Addr → GH → (Int → GH → Option β) → Option β) (F_slices_rotateCmpFunc_byte_s1 : Sl → Int → Int → Int → Option Addr → GH → (GH → Option β) → Option β) (F_slices_symMergeCmpFunc_byte_s1 : Sl → Int → Int → Int → Option Addr → GH → (GH → Option β) → Option β) (R : Nat) (n : Nat) (y6 : Sl) (y7 : Int) (y8 : Option Addr) (y9 : Int) (y10 : Int) (h : GH) (K0 : Sl → Int → Int → GH → Option β) : Option β := gloop (gcode Try.prog (CF_slices_symMergeCmpFunc_byte_s1 F_follow_counts_ordered_1_s1 F_slices_rotateCmpFunc_byte_s1 F_slices_symMergeCmpFunc_byte_s1) Try.f37.ntmps HF_slices_symMergeCmpFunc_byte_s1 R (at_ [false, true, false, true, true, false, false, false] BF_slices_symMergeCmpFunc_byte_s1)) [0, 1, 4, 10, 11] n [(0, Value.slice y6.a y6.n y6.c), (1, Value.int .i64 y7), (4, Value.func (.func 29) #[] #[Value.pointer y8]), (10, Value.int .i64 y9), (11, Value.int .i64 y10)] h (fun i e' h' => bif Nat.beq i 0 then (exS (some (e'.get 0)) fun u148 => exI .i64 (some (e'.get 1)) fun u149 => exI .i64 (some (e'.get 10)) fun u150 => K0 u148 u149 u150 h') else none) (fun e' h' => none)
noncomputable def F_slices_symMergeCmpFunc_byte_s1_l1 (F_follow_counts_ordered_1_s1 : Int → Int → Option Addr → GH → (Int → GH → Option β) → Option β) (F_slices_rotateCmpFunc_byte_s1 : Sl → Int → Int → Int → Option Addr → GH → (GH → Option β) → Option β) (F_slices_symMergeCmpFunc_byte_s1 : Sl → Int → Int → Int → Option Addr → GH → (GH → Option β) → Option β) (R : Nat) (n : Nat) (y26 : Sl) (y27 : Int) (y28 : Int) (h : GH) (K2 : GH → Option β) : Option β := gloop (gcode Try.prog (CF_slices_symMergeCmpFunc_byte_s1 F_follow_counts_ordered_1_s1 F_slices_rotateCmpFunc_byte_s1 F_slices_symMergeCmpFunc_byte_s1) Try.f37.ntmps HF_slices_symMergeCmpFunc_byte_s1 R (at_ [false, true, false, true, true, true, false, true, false, false] BF_slices_symMergeCmpFunc_byte_s1)) [0, 10, 13] n [(0, Value.slice y26.a y26.n y26.c), (10, Value.int .i64 y27), (13, Value.int .i64 y28)] h (fun i e' h' => bif Nat.beq i 2 then (K2 h') else none) (fun e' h' => none)
noncomputable def F_slices_symMergeCmpFunc_byte_s1_l2 (F_follow_counts_ordered_1_s1 : Int → Int → Option Addr → GH → (Int → GH → Option β) → Option β) (F_slices_rotateCmpFunc_byte_s1 : Sl → Int → Int → Int → Option Addr → GH → (GH → Option β) → Option β) (F_slices_symMergeCmpFunc_byte_s1 : Sl → Int → Int → Int → Option Addr → GH → (GH → Option β) → Option β) (R : Nat) (n : Nat) (y42 : Sl) (y43 : Int) (y44 : Option Addr) (y45 : Int) (y46 : Int) (h : GH) (K4 : Sl → Int → Int → GH → Option β) : Option β := gloop (gcode Try.prog (CF_slices_symMergeCmpFunc_byte_s1 F_follow_counts_ordered_1_s1 F_slices_rotateCmpFunc_byte_s1 F_slices_symMergeCmpFunc_byte_s1) Try.f37.ntmps HF_slices_symMergeCmpFunc_byte_s1 R (at_ [true, false, true, false, true, true, false, false, false] BF_slices_symMergeCmpFunc_byte_s1)) [0, 2, 4, 14, 15] n [(0, Value.slice y42.a y42.n y42.c), (2, Value.int .i64 y43), (4, Value.func (.func 29) #[] #[Value.pointer y44]), (14, Value.int .i64 y45), (15, Value.int .i64 y46)] h (fun i e' h' => bif Nat.beq i 4 then (exS (some (e'.get 0)) fun u151 => exI .i64 (some (e'.get 2)) fun u152 => exI .i64 (some (e'.get 14)) fun u153 => K4 u151 u152 u153 h') else none) (fun e' h' => none)
noncomputable def F_slices_symMergeCmpFunc_byte_s1_l3 (F_follow_counts_ordered_1_s1 : Int → Int → Option Addr → GH → (Int → GH → Option β) → Option β) (F_slices_rotateCmpFunc_byte_s1 : Sl → Int → Int → Int → Option Addr → GH → (GH → Option β) → Option β) (F_slices_symMergeCmpFunc_byte_s1 : Sl → Int → Int → Int → Option Addr → GH → (GH → Option β) → Option β) (R : Nat) (n : Nat) (y62 : Sl) (y63 : Int) (y64 : Int) (h : GH) (K6 : GH → Option β) : Option β := gloop (gcode Try.prog (CF_slices_symMergeCmpFunc_byte_s1 F_follow_counts_ordered_1_s1 F_slices_rotateCmpFunc_byte_s1 F_slices_symMergeCmpFunc_byte_s1) Try.f37.ntmps HF_slices_symMergeCmpFunc_byte_s1 R (at_ [true, false, true, false, true, true, true, false, true, false, false] BF_slices_symMergeCmpFunc_byte_s1)) [0, 14, 17] n [(0, Value.slice y62.a y62.n y62.c), (14, Value.int .i64 y63), (17, Value.int .i64 y64)] h (fun i e' h' => bif Nat.beq i 6 then (K6 h') else none) (fun e' h' => none)
noncomputable def F_slices_symMergeCmpFunc_byte_s1_l4 (F_follow_counts_ordered_1_s1 : Int → Int → Option Addr → GH → (Int → GH → Option β) → Option β) (F_slices_rotateCmpFunc_byte_s1 : Sl → Int → Int → Int → Option Addr → GH → (GH → Option β) → Option β) (F_slices_symMergeCmpFunc_byte_s1 : Sl → Int → Int → Int → Option Addr → GH → (GH → Option β) → Option β) (R : Nat) (n : Nat) (y78 : Sl) (y79 : Int) (y80 : Int) (y81 : Int) (y82 : Option Addr) (y83 : Int) (y84 : Int) (y85 : Int) (y86 : Int) (y87 : Int) (h : GH) (K8 : Sl → Int → Int → Int → Option Addr → Int → Int → Int → GH → Option β) : Option β := gloop (gcode Try.prog (CF_slices_symMergeCmpFunc_byte_s1 F_follow_counts_ordered_1_s1 F_slices_rotateCmpFunc_byte_s1 F_slices_symMergeCmpFunc_byte_s1) Try.f37.ntmps HF_slices_symMergeCmpFunc_byte_s1 R (at_ [true, true, true, true, true, true, true, false, false, false] BF_slices_symMergeCmpFunc_byte_s1)) [0, 1, 2, 3, 4, 18, 19, 20, 21, 22] n [(0, Value.slice y78.a y78.n y78.c), (1, Value.int .i64 y79), (2, Value.int .i64 y80), (3, Value.int .i64 y81), (4, Value.func (.func 29) #[] #[Value.pointer y82]), (18, Value.int .i64 y83), (19, Value.int .i64 y84), (20, Value.int .i64 y85), (21, Value.int .i64 y86), (22, Value.int .i64 y87)] h (fun i e' h' => bif Nat.beq i 8 then (exS (some (e'.get 0)) fun u154 => exI .i64 (some (e'.get 1)) fun u155 => exI .i64 (some (e'.get 2)) fun u156 => exI .i64 (some (e'.get 3)) fun u157 => exF 29 [] [.ptr] (e'.get 4) fun ga159 gc160 => (match ga159, gc160 with | [], [.pointer p158] => exI .i64 (some (e'.get 18)) fun u161 => exI .i64 (some (e'.get 19)) fun u162 => exI .i64 (some (e'.get 20)) fun u163 => K8 u154 u155 u156 u157 p158 u161 u162 u163 h' | _, _ => none)) else none) (fun e' h' => none)
set_option maxRecDepth 100000 in
theorem F_slices_symMergeCmpFunc_byte_s1_l4_succ (F_follow_counts_ordered_1_s1 : Int → Int → Option Addr → GH → (Int → GH → Option β) → Option β) (F_slices_rotateCmpFunc_byte_s1 : Sl → Int → Int → Int → Option Addr → GH → (GH → Option β) → Option β) (F_slices_symMergeCmpFunc_byte_s1 : Sl → Int → Int → Int → Option Addr → GH → (GH → Option β) → Option β) (R : Nat) (n : Nat) (y78 : Sl) (y79 : Int) (y80 : Int) (y81 : Int) (y82 : Option Addr) (y83 : Int) (y84 : Int) (y85 : Int) (y86 : Int) (y87 : Int) (h : GH) (K8 : Sl → Int → Int → Int → Option Addr → Int → Int → Int → GH → Option β) : F_slices_symMergeCmpFunc_byte_s1_l4 F_follow_counts_ordered_1_s1 F_slices_rotateCmpFunc_byte_s1 F_slices_symMergeCmpFunc_byte_s1 R (n + 1) y78 y79 y80 y81 y82 y83 y84 y85 y86 y87 h K8 =
    (bif decide (y85 < y86) then exA y78.a fun g96 o97 => within (IntKind.wrap .i64 (y87 - (IntKind.wrap .i64 (shrI .u64 (IntKind.wrap .u64 (IntKind.wrap .i64 (y85 + y86))) 1)))) y78.n (exI .u8 (h.cell ⟨g96, o97 + (IntKind.wrap .i64 (y87 - (IntKind.wrap .i64 (shrI .u64 (IntKind.wrap .u64 (IntKind.wrap .i64 (y85 + y86))) 1)))).toNat * 1, none⟩) fun x98 => exA y78.a fun g99 o100 => within (IntKind.wrap .i64 (shrI .u64 (IntKind.wrap .u64 (IntKind.wrap .i64 (y85 + y86))) 1)) y78.n (exI .u8 (h.cell ⟨g99, o100 + (IntKind.wrap .i64 (shrI .u64 (IntKind.wrap .u64 (IntKind.wrap .i64 (y85 + y86))) 1)).toNat * 1, none⟩) fun x101 => F_follow_counts_ordered_1_s1 x98 x101 y82 h fun r102 h103 => (bif !(decide (r102 < 0)) then F_slices_symMergeCmpFunc_byte_s1_l4 F_follow_counts_ordered_1_s1 F_slices_rotateCmpFunc_byte_s1 F_slices_symMergeCmpFunc_byte_s1 R n y78 y79 y80 y81 y82 y83 y84 (IntKind.wrap .i64 ((IntKind.wrap .i64 (shrI .u64 (IntKind.wrap .u64 (IntKind.wrap .i64 (y85 + y86))) 1)) + 1)) y86 y87 h103 K8 else F_slices_symMergeCmpFunc_byte_s1_l4 F_follow_counts_ordered_1_s1 F_slices_rotateCmpFunc_byte_s1 F_slices_symMergeCmpFunc_byte_s1 R n y78 y79 y80 y81 y82 y83 y84 y85 (IntKind.wrap .i64 (shrI .u64 (IntKind.wrap .u64 (IntKind.wrap .i64 (y85 + y86))) 1)) y87 h103 K8))) else K8 y78 y79 y80 y81 y82 y83 y84 y85 h) := by kernel_rfl
set_option maxRecDepth 100000 in
theorem F_slices_symMergeCmpFunc_byte_s1_l3_succ (F_follow_counts_ordered_1_s1 : Int → Int → Option Addr → GH → (Int → GH → Option β) → Option β) (F_slices_rotateCmpFunc_byte_s1 : Sl → Int → Int → Int → Option Addr → GH → (GH → Option β) → Option β) (F_slices_symMergeCmpFunc_byte_s1 : Sl → Int → Int → Int → Option Addr → GH → (GH → Option β) → Option β) (R : Nat) (n : Nat) (y62 : Sl) (y63 : Int) (y64 : Int) (h : GH) (K6 : GH → Option β) : F_slices_symMergeCmpFunc_byte_s1_l3 F_follow_counts_ordered_1_s1 F_slices_rotateCmpFunc_byte_s1 F_slices_symMergeCmpFunc_byte_s1 R (n + 1) y62 y63 y64 h K6 =
    (bif decide (y64 > y63) then exA y62.a fun g65 o66 => within (IntKind.wrap .i64 (y64 - 1)) y62.n (exI .u8 (h.cell ⟨g65, o66 + (IntKind.wrap .i64 (y64 - 1)).toNat * 1, none⟩) fun x67 => exA y62.a fun g68 o69 => within y64 y62.n (exI .u8 (h.cell ⟨g68, o69 + y64.toNat * 1, none⟩) fun x70 => exA y62.a fun g71 o72 => within y64 y62.n (gput g71 (o72 + y64.toNat * 1) [Value.int .u8 x67] h fun h73 => exA y62.a fun g74 o75 => within (IntKind.wrap .i64 (y64 - 1)) y62.n (gput g74 (o75 + (IntKind.wrap .i64 (y64 - 1)).toNat * 1) [Value.int .u8 x70] h73 fun h76 => F_slices_symMergeCmpFunc_byte_s1_l3 F_follow_counts_ordered_1_s1 F_slices_rotateCmpFunc_byte_s1 F_slices_symMergeCmpFunc_byte_s1 R n y62 y63 (IntKind.wrap .i64 (y64 - 1)) h76 K6)))) else K6 h) := by kernel_rfl
set_option maxRecDepth 100000 in
theorem F_slices_symMergeCmpFunc_byte_s1_l2_succ (F_follow_counts_ordered_1_s1 : Int → Int → Option Addr → GH → (Int → GH → Option β) → Option β) (F_slices_rotateCmpFunc_byte_s1 : Sl → Int → Int → Int → Option Addr → GH → (GH → Option β) → Option β) (F_slices_symMergeCmpFunc_byte_s1 : Sl → Int → Int → Int → Option Addr → GH → (GH → Option β) → Option β) (R : Nat) (n : Nat) (y42 : Sl) (y43 : Int) (y44 : Option Addr) (y45 : Int) (y46 : Int) (h : GH) (K4 : Sl → Int → Int → GH → Option β) : F_slices_symMergeCmpFunc_byte_s1_l2 F_follow_counts_ordered_1_s1 F_slices_rotateCmpFunc_byte_s1 F_slices_symMergeCmpFunc_byte_s1 R (n + 1) y42 y43 y44 y45 y46 h K4 =
    (bif decide (y45 < y46) then exA y42.a fun g50 o51 => within y43 y42.n (exI .u8 (h.cell ⟨g50, o51 + y43.toNat * 1, none⟩) fun x52 => exA y42.a fun g53 o54 => within (IntKind.wrap .i64 (shrI .u64 (IntKind.wrap .u64 (IntKind.wrap .i64 (y45 + y46))) 1)) y42.n (exI .u8 (h.cell ⟨g53, o54 + (IntKind.wrap .i64 (shrI .u64 (IntKind.wrap .u64 (IntKind.wrap .i64 (y45 + y46))) 1)).toNat * 1, none⟩) fun x55 => F_follow_counts_ordered_1_s1 x52 x55 y44 h fun r56 h57 => (bif !(decide (r56 < 0)) then F_slices_symMergeCmpFunc_byte_s1_l2 F_follow_counts_ordered_1_s1 F_slices_rotateCmpFunc_byte_s1 F_slices_symMergeCmpFunc_byte_s1 R n y42 y43 y44 (IntKind.wrap .i64 ((IntKind.wrap .i64 (shrI .u64 (IntKind.wrap .u64 (IntKind.wrap .i64 (y45 + y46))) 1)) + 1)) y46 h57 K4 else F_slices_symMergeCmpFunc_byte_s1_l2 F_follow_counts_ordered_1_s1 F_slices_rotateCmpFunc_byte_s1 F_slices_symMergeCmpFunc_byte_s1 R n y42 y43 y44 y45 (IntKind.wrap .i64 (shrI .u64 (IntKind.wrap .u64 (IntKind.wrap .i64 (y45 + y46))) 1)) h57 K4))) else K4 y42 y43 y45 h) := by kernel_rfl
set_option maxRecDepth 100000 in
theorem F_slices_symMergeCmpFunc_byte_s1_l1_succ (F_follow_counts_ordered_1_s1 : Int → Int → Option Addr → GH → (Int → GH → Option β) → Option β) (F_slices_rotateCmpFunc_byte_s1 : Sl → Int → Int → Int → Option Addr → GH → (GH → Option β) → Option β) (F_slices_symMergeCmpFunc_byte_s1 : Sl → Int → Int → Int → Option Addr → GH → (GH → Option β) → Option β) (R : Nat) (n : Nat) (y26 : Sl) (y27 : Int) (y28 : Int) (h : GH) (K2 : GH → Option β) : F_slices_symMergeCmpFunc_byte_s1_l1 F_follow_counts_ordered_1_s1 F_slices_rotateCmpFunc_byte_s1 F_slices_symMergeCmpFunc_byte_s1 R (n + 1) y26 y27 y28 h K2 =
    (bif decide (y28 < (IntKind.wrap .i64 (y27 - 1))) then exA y26.a fun g29 o30 => within (IntKind.wrap .i64 (y28 + 1)) y26.n (exI .u8 (h.cell ⟨g29, o30 + (IntKind.wrap .i64 (y28 + 1)).toNat * 1, none⟩) fun x31 => exA y26.a fun g32 o33 => within y28 y26.n (exI .u8 (h.cell ⟨g32, o33 + y28.toNat * 1, none⟩) fun x34 => exA y26.a fun g35 o36 => within y28 y26.n (gput g35 (o36 + y28.toNat * 1) [Value.int .u8 x31] h fun h37 => exA y26.a fun g38 o39 => within (IntKind.wrap .i64 (y28 + 1)) y26.n (gput g38 (o39 + (IntKind.wrap .i64 (y28 + 1)).toNat * 1) [Value.int .u8 x34] h37 fun h40 => F_slices_symMergeCmpFunc_byte_s1_l1 F_follow_counts_ordered_1_s1 F_slices_rotateCmpFunc_byte_s1 F_slices_symMergeCmpFunc_byte_s1 R n y26 y27 (IntKind.wrap .i64 (y28 + 1)) h40 K2)))) else K2 h) := by kernel_rfl
set_option maxRecDepth 100000 in
theorem F_slices_symMergeCmpFunc_byte_s1_l0_succ (F_follow_counts_ordered_1_s1 : Int → Int → Option Addr → GH → (Int → GH → Option β) → Option β) (F_slices_rotateCmpFunc_byte_s1 : Sl → Int → Int → Int → Option Addr → GH → (GH → Option β) → Option β) (F_slices_symMergeCmpFunc_byte_s1 : Sl → Int → Int → Int → Option Addr → GH → (GH → Option β) → Option β) (R : Nat) (n : Nat) (y6 : Sl) (y7 : Int) (y8 : Option Addr) (y9 : Int) (y10 : Int) (h : GH) (K0 : Sl → Int → Int → GH → Option β) : F_slices_symMergeCmpFunc_byte_s1_l0 F_follow_counts_ordered_1_s1 F_slices_rotateCmpFunc_byte_s1 F_slices_symMergeCmpFunc_byte_s1 R (n + 1) y6 y7 y8 y9 y10 h K0 =
    (bif decide (y9 < y10) then exA y6.a fun g14 o15 => within (IntKind.wrap .i64 (shrI .u64 (IntKind.wrap .u64 (IntKind.wrap .i64 (y9 + y10))) 1)) y6.n (exI .u8 (h.cell ⟨g14, o15 + (IntKind.wrap .i64 (shrI .u64 (IntKind.wrap .u64 (IntKind.wrap .i64 (y9 + y10))) 1)).toNat * 1, none⟩) fun x16 => exA y6.a fun g17 o18 => within y7 y6.n (exI .u8 (h.cell ⟨g17, o18 + y7.toNat * 1, none⟩) fun x19 => F_follow_counts_ordered_1_s1 x16 x19 y8 h fun r20 h21 => (bif decide (r20 < 0) then F_slices_symMergeCmpFunc_byte_s1_l0 F_follow_counts_ordered_1_s1 F_slices_rotateCmpFunc_byte_s1 F_slices_symMergeCmpFunc_byte_s1 R n y6 y7 y8 (IntKind.wrap .i64 ((IntKind.wrap .i64 (shrI .u64 (IntKind.wrap .u64 (IntKind.wrap .i64 (y9 + y10))) 1)) + 1)) y10 h21 K0 else F_slices_symMergeCmpFunc_byte_s1_l0 F_follow_counts_ordered_1_s1 F_slices_rotateCmpFunc_byte_s1 F_slices_symMergeCmpFunc_byte_s1 R n y6 y7 y8 y9 (IntKind.wrap .i64 (shrI .u64 (IntKind.wrap .u64 (IntKind.wrap .i64 (y9 + y10))) 1)) h21 K0))) else K0 y6 y7 y9 h) := by kernel_rfl
noncomputable def G_slices_symMergeCmpFunc_byte_s1 (F_follow_counts_ordered_1_s1 : Int → Int → Option Addr → GH → (Int → GH → Option β) → Option β) (F_slices_rotateCmpFunc_byte_s1 : Sl → Int → Int → Int → Option Addr → GH → (GH → Option β) → Option β) (F_slices_symMergeCmpFunc_byte_s1 : Sl → Int → Int → Int → Option Addr → GH → (GH → Option β) → Option β) (R : Nat) (a1 : Sl) (a2 : Int) (a3 : Int) (a4 : Int) (y5 : Option Addr) (h : GH) (K : GH → Option β) : Option β := gfun Try.prog (CF_slices_symMergeCmpFunc_byte_s1 F_follow_counts_ordered_1_s1 F_slices_rotateCmpFunc_byte_s1 F_slices_symMergeCmpFunc_byte_s1) HF_slices_symMergeCmpFunc_byte_s1 R Try.f37 [Value.slice a1.a a1.n a1.c, Value.int .i64 a2, Value.int .i64 a3, Value.int .i64 a4, Value.func (.func 29) #[] #[Value.pointer y5]] h (fun _ h' => K h')
set_option maxRecDepth 100000 in
theorem F_slices_symMergeCmpFunc_byte_s1_gen (F_follow_counts_ordered_1_s1 : Int → Int → Option Addr → GH → (Int → GH → Option β) → Option β) (F_slices_rotateCmpFunc_byte_s1 : Sl → Int → Int → Int → Option Addr → GH → (GH → Option β) → Option β) (F_slices_symMergeCmpFunc_byte_s1 : Sl → Int → Int → Int → Option Addr → GH → (GH → Option β) → Option β) (R : Nat) (a1 : Sl) (a2 : Int) (a3 : Int) (a4 : Int) (y5 : Option Addr) (h : GH) (K : GH → Option β) : G_slices_symMergeCmpFunc_byte_s1 F_follow_counts_ordered_1_s1 F_slices_rotateCmpFunc_byte_s1 F_slices_symMergeCmpFunc_byte_s1 R a1 a2 a3 a4 y5 h K =
    (bif (IntKind.wrap .i64 (a3 - a2)) == 1 then F_slices_symMergeCmpFunc_byte_s1_l0 F_follow_counts_ordered_1_s1 F_slices_rotateCmpFunc_byte_s1 F_slices_symMergeCmpFunc_byte_s1 R R a1 a2 y5 a3 a4 h (fun w22 w23 w24 h25 => F_slices_symMergeCmpFunc_byte_s1_l1 F_follow_counts_ordered_1_s1 F_slices_rotateCmpFunc_byte_s1 F_slices_symMergeCmpFunc_byte_s1 R R w22 w24 w23 h25 (fun h41 => K h41)) else (bif (IntKind.wrap .i64 (a4 - a3)) == 1 then F_slices_symMergeCmpFunc_byte_s1_l2 F_follow_counts_ordered_1_s1 F_slices_rotateCmpFunc_byte_s1 F_slices_symMergeCmpFunc_byte_s1 R R a1 a3 y5 a2 a3 h (fun w58 w59 w60 h61 => F_slices_symMergeCmpFunc_byte_s1_l3 F_follow_counts_ordered_1_s1 F_slices_rotateCmpFunc_byte_s1 F_slices_symMergeCmpFunc_byte_s1 R R w58 w60 w59 h61 (fun h77 => K h77)) else (bif decide (a3 > (IntKind.wrap .i64 (shrI .u64 (IntKind.wrap .u64 (IntKind.wrap .i64 (a2 + a4))) 1))) then F_slices_symMergeCmpFunc_byte_s1_l4 F_follow_counts_ordered_1_s1 F_slices_rotateCmpFunc_byte_s1 F_slices_symMergeCmpFunc_byte_s1 R R a1 a2 a3 a4 y5 (IntKind.wrap .i64 (shrI .u64 (IntKind.wrap .u64 (IntKind.wrap .i64 (a2 + a4))) 1)) (IntKind.wrap .i64 ((IntKind.wrap .i64 (shrI .u64 (IntKind.wrap .u64 (IntKind.wrap .i64 (a2 + a4))) 1)) + a3)) (IntKind.wrap .i64 ((IntKind.wrap .i64 ((IntKind.wrap .i64 (shrI .u64 (IntKind.wrap .u64 (IntKind.wrap .i64 (a2 + a4))) 1)) + a3)) - a4)) (IntKind.wrap .i64 (shrI .u64 (IntKind.wrap .u64 (IntKind.wrap .i64 (a2 + a4))) 1)) (IntKind.wrap .i64 ((IntKind.wrap .i64 ((IntKind.wrap .i64 (shrI .u64 (IntKind.wrap .u64 (IntKind.wrap .i64 (a2 + a4))) 1)) + a3)) - 1)) h (fun w104 w105 w106 w107 y108 w109 w110 w111 h112 => (bif decide (w111 < w106) then (bif decide (w106 < (IntKind.wrap .i64 (w110 - w111))) then F_slices_rotateCmpFunc_byte_s1 w104 w111 w106 (IntKind.wrap .i64 (w110 - w111)) y108 h112 fun h113 => (bif decide (w105 < w111) then (bif decide (w111 < w109) then F_slices_symMergeCmpFunc_byte_s1 w104 w105 w111 w109 y108 h113 fun h114 => (bif decide (w109 < (IntKind.wrap .i64 (w110 - w111))) then (bif decide ((IntKind.wrap .i64 (w110 - w111)) < w107) then F_slices_symMergeCmpFunc_byte_s1 w104 w109 (IntKind.wrap .i64 (w110 - w111)) w107 y108 h114 fun h115 => K h115 else K h114) else K h114) else (bif decide (w109 < (IntKind.wrap .i64 (w110 - w111))) then (bif decide ((IntKind.wrap .i64 (w110 - w111)) < w107) then F_slices_symMergeCmpFunc_byte_s1 w104 w109 (IntKind.wrap .i64 (w110 - w111)) w107 y108 h113 fun h116 => K h116 else K h113) else K h113)) else (bif decide (w109 < (IntKind.wrap .i64 (w110 - w111))) then (bif decide ((IntKind.wrap .i64 (w110 - w111)) < w107) then F_slices_symMergeCmpFunc_byte_s1 w104 w109 (IntKind.wrap .i64 (w110 - w111)) w107 y108 h113 fun h117 => K h117 else K h113) else K h113)) else (bif decide (w105 < w111) then (bif decide (w111 < w109) then F_slices_symMergeCmpFunc_byte_s1 w104 w105 w111 w109 y108 h112 fun h118 => (bif decide (w109 < (IntKind.wrap .i64 (w110 - w111))) then (bif decide ((IntKind.wrap .i64 (w110 - w111)) < w107) then F_slices_symMergeCmpFunc_byte_s1 w104 w109 (IntKind.wrap .i64 (w110 - w111)) w107 y108 h118 fun h119 => K h119 else K h118) else K h118) else (bif decide (w109 < (IntKind.wrap .i64 (w110 - w111))) then (bif decide ((IntKind.wrap .i64 (w110 - w111)) < w107) then F_slices_symMergeCmpFunc_byte_s1 w104 w109 (IntKind.wrap .i64 (w110 - w111)) w107 y108 h112 fun h120 => K h120 else K h112) else K h112)) else (bif decide (w109 < (IntKind.wrap .i64 (w110 - w111))) then (bif decide ((IntKind.wrap .i64 (w110 - w111)) < w107) then F_slices_symMergeCmpFunc_byte_s1 w104 w109 (IntKind.wrap .i64 (w110 - w111)) w107 y108 h112 fun h121 => K h121 else K h112) else K h112))) else (bif decide (w105 < w111) then (bif decide (w111 < w109) then F_slices_symMergeCmpFunc_byte_s1 w104 w105 w111 w109 y108 h112 fun h122 => (bif decide (w109 < (IntKind.wrap .i64 (w110 - w111))) then (bif decide ((IntKind.wrap .i64 (w110 - w111)) < w107) then F_slices_symMergeCmpFunc_byte_s1 w104 w109 (IntKind.wrap .i64 (w110 - w111)) w107 y108 h122 fun h123 => K h123 else K h122) else K h122) else (bif decide (w109 < (IntKind.wrap .i64 (w110 - w111))) then (bif decide ((IntKind.wrap .i64 (w110 - w111)) < w107) then F_slices_symMergeCmpFunc_byte_s1 w104 w109 (IntKind.wrap .i64 (w110 - w111)) w107 y108 h112 fun h124 => K h124 else K h112) else K h112)) else (bif decide (w109 < (IntKind.wrap .i64 (w110 - w111))) then (bif decide ((IntKind.wrap .i64 (w110 - w111)) < w107) then F_slices_symMergeCmpFunc_byte_s1 w104 w109 (IntKind.wrap .i64 (w110 - w111)) w107 y108 h112 fun h125 => K h125 else K h112) else K h112)))) else F_slices_symMergeCmpFunc_byte_s1_l4 F_follow_counts_ordered_1_s1 F_slices_rotateCmpFunc_byte_s1 F_slices_symMergeCmpFunc_byte_s1 R R a1 a2 a3 a4 y5 (IntKind.wrap .i64 (shrI .u64 (IntKind.wrap .u64 (IntKind.wrap .i64 (a2 + a4))) 1)) (IntKind.wrap .i64 ((IntKind.wrap .i64 (shrI .u64 (IntKind.wrap .u64 (IntKind.wrap .i64 (a2 + a4))) 1)) + a3)) a2 a3 (IntKind.wrap .i64 ((IntKind.wrap .i64 ((IntKind.wrap .i64 (shrI .u64 (IntKind.wrap .u64 (IntKind.wrap .i64 (a2 + a4))) 1)) + a3)) - 1)) h (fun w126 w127 w128 w129 y130 w131 w132 w133 h134 => (bif decide (w133 < w128) then (bif decide (w128 < (IntKind.wrap .i64 (w132 - w133))) then F_slices_rotateCmpFunc_byte_s1 w126 w133 w128 (IntKind.wrap .i64 (w132 - w133)) y130 h134 fun h135 => (bif decide (w127 < w133) then (bif decide (w133 < w131) then F_slices_symMergeCmpFunc_byte_s1 w126 w127 w133 w131 y130 h135 fun h136 => (bif decide (w131 < (IntKind.wrap .i64 (w132 - w133))) then (bif decide ((IntKind.wrap .i64 (w132 - w133)) < w129) then F_slices_symMergeCmpFunc_byte_s1 w126 w131 (IntKind.wrap .i64 (w132 - w133)) w129 y130 h136 fun h137 => K h137 else K h136) else K h136) else (bif decide (w131 < (IntKind.wrap .i64 (w132 - w133))) then (bif decide ((IntKind.wrap .i64 (w132 - w133)) < w129) then F_slices_symMergeCmpFunc_byte_s1 w126 w131 (IntKind.wrap .i64 (w132 - w133)) w129 y130 h135 fun h138 => K h138 else K h135) else K h135)) else (bif decide (w131 < (IntKind.wrap .i64 (w132 - w133))) then (bif decide ((IntKind.wrap .i64 (w132 - w133)) < w129) then F_slices_symMergeCmpFunc_byte_s1 w126 w131 (IntKind.wrap .i64 (w132 - w133)) w129 y130 h135 fun h139 => K h139 else K h135) else K h135)) else (bif decide (w127 < w133) then (bif decide (w133 < w131) then F_slices_symMergeCmpFunc_byte_s1 w126 w127 w133 w131 y130 h134 fun h140 => (bif decide (w131 < (IntKind.wrap .i64 (w132 - w133))) then (bif decide ((IntKind.wrap .i64 (w132 - w133)) < w129) then F_slices_symMergeCmpFunc_byte_s1 w126 w131 (IntKind.wrap .i64 (w132 - w133)) w129 y130 h140 fun h141 => K h141 else K h140) else K h140) else (bif decide (w131 < (IntKind.wrap .i64 (w132 - w133))) then (bif decide ((IntKind.wrap .i64 (w132 - w133)) < w129) then F_slices_symMergeCmpFunc_byte_s1 w126 w131 (IntKind.wrap .i64 (w132 - w133)) w129 y130 h134 fun h142 => K h142 else K h134) else K h134)) else (bif decide (w131 < (IntKind.wrap .i64 (w132 - w133))) then (bif decide ((IntKind.wrap .i64 (w132 - w133)) < w129) then F_slices_symMergeCmpFunc_byte_s1 w126 w131 (IntKind.wrap .i64 (w132 - w133)) w129 y130 h134 fun h143 => K h143 else K h134) else K h134))) else (bif decide (w127 < w133) then (bif decide (w133 < w131) then F_slices_symMergeCmpFunc_byte_s1 w126 w127 w133 w131 y130 h134 fun h144 => (bif decide (w131 < (IntKind.wrap .i64 (w132 - w133))) then (bif decide ((IntKind.wrap .i64 (w132 - w133)) < w129) then F_slices_symMergeCmpFunc_byte_s1 w126 w131 (IntKind.wrap .i64 (w132 - w133)) w129 y130 h144 fun h145 => K h145 else K h144) else K h144) else (bif decide (w131 < (IntKind.wrap .i64 (w132 - w133))) then (bif decide ((IntKind.wrap .i64 (w132 - w133)) < w129) then F_slices_symMergeCmpFunc_byte_s1 w126 w131 (IntKind.wrap .i64 (w132 - w133)) w129 y130 h134 fun h146 => K h146 else K h134) else K h134)) else (bif decide (w131 < (IntKind.wrap .i64 (w132 - w133))) then (bif decide ((IntKind.wrap .i64 (w132 - w133)) < w129) then F_slices_symMergeCmpFunc_byte_s1 w126 w131 (IntKind.wrap .i64 (w132 - w133)) w129 y130 h134 fun h147 => K h147 else K h134) else K h134))))))) := by kernel_rfl
noncomputable def F_slices_symMergeCmpFunc_byte_s1 (R : Nat) : Nat → Sl → Int → Int → Int → Option Addr → GH → (GH → Option β) → Option β
  | 0 => fun _ _ _ _ _ _ _ => none
  | n + 1 => fun a1 a2 a3 a4 y5 h K => G_slices_symMergeCmpFunc_byte_s1 (F_follow_counts_ordered_1_s1 R) (F_slices_rotateCmpFunc_byte_s1 R) (F_slices_symMergeCmpFunc_byte_s1 R n) R a1 a2 a3 a4 y5 h K
set_option maxRecDepth 100000 in
theorem F_slices_symMergeCmpFunc_byte_s1_sim {R : Nat} : ∀ {n : Nat} {r : β} {a1 : Sl} {a2 : Int} {a3 : Int} {a4 : Int} {y5 : Option Addr} {h : GH} {K : Value → GH → Option β}, F_slices_symMergeCmpFunc_byte_s1 R n a1 a2 a3 a4 y5 h (fun h' => K (Value.tuple #[]) h') = some r → ∃ v h', K v h' = some r ∧ CallSim Try.prog 37 [Value.slice a1.a a1.n a1.c, Value.int .i64 a2, Value.int .i64 a3, Value.int .i64 a4, Value.func (.func 29) #[] #[Value.pointer y5]] h v h' := by
  intro n
  induction n with
  | zero => intro r a1 a2 a3 a4 y5 h K hc; cases hc
  | succ n ih =>
    intro r a1 a2 a3 a4 y5 h K hc
    have hc : G_slices_symMergeCmpFunc_byte_s1 (F_follow_counts_ordered_1_s1 R) (F_slices_rotateCmpFunc_byte_s1 R) (F_slices_symMergeCmpFunc_byte_s1 R n) R a1 a2 a3 a4 y5 h (fun h' => K (Value.tuple #[]) h') = some r := hc
    have hC : SimOrc Try.prog (CF_slices_symMergeCmpFunc_byte_s1 (F_follow_counts_ordered_1_s1 R) (F_slices_rotateCmpFunc_byte_s1 R) (F_slices_symMergeCmpFunc_byte_s1 R n) (β := β)) := by
      intro f args h K r hc
      unfold CF_slices_symMergeCmpFunc_byte_s1 at hc
      cases hb : Nat.beq f 29 with
      | true =>
        rw [hb] at hc
        simp only [cond_true] at hc
        obtain rfl := Nat.eq_of_beq_eq_true hb
        split at hc
        · exact any_call (F_follow_counts_ordered_1_s1_sim (K := K) hc)
        · cases hc
      | false =>
      rw [hb] at hc
      simp only [cond_false] at hc
      cases hb : Nat.beq f 38 with
      | true =>
        rw [hb] at hc
        simp only [cond_true] at hc
        obtain rfl := Nat.eq_of_beq_eq_true hb
        split at hc
        · exact any_call (F_slices_rotateCmpFunc_byte_s1_sim (K := K) hc)
        · cases hc
      | false =>
      rw [hb] at hc
      simp only [cond_false] at hc
      cases hb : Nat.beq f 37 with
      | true =>
        rw [hb] at hc
        simp only [cond_true] at hc
        obtain rfl := Nat.eq_of_beq_eq_true hb
        split at hc
        · exact any_call (ih (K := K) hc)
        · cases hc
      | false =>
      rw [hb] at hc
      simp only [cond_false] at hc
      cases hc
    unfold G_slices_symMergeCmpFunc_byte_s1 at hc
    obtain ⟨v, h', hk, hs⟩ := gfun_sim hC mixed_ok (fun f h => by cases h) Try.func37 (by kernel_rfl) hc
    exact ⟨_, h', hk, hs.unit⟩
/-! F34 slices.stableCmpFunc[byte] -/
def CF_slices_stableCmpFunc_byte_s1 (F_slices_insertionSortCmpFunc_byte_s1 : Sl → Int → Int → Option Addr → GH → (GH → Option β) → Option β) (F_slices_symMergeCmpFunc_byte_s1 : Sl → Int → Int → Int → Option Addr → GH → (GH → Option β) → Option β) : Orc β := fun f args h K => bif Nat.beq f 36 then (match args with | [.slice p1a p1n p1c, .int .i64 p2, .int .i64 p3, .func (.func 29) ⟨[]⟩ ⟨[.pointer p4]⟩] => F_slices_insertionSortCmpFunc_byte_s1 ⟨p1a, p1n, p1c⟩ p2 p3 p4 h (fun h' => K (Value.tuple #[]) h') | _ => none) else (bif Nat.beq f 37 then (match args with | [.slice p1a p1n p1c, .int .i64 p2, .int .i64 p3, .int .i64 p4, .func (.func 29) ⟨[]⟩ ⟨[.pointer p5]⟩] => F_slices_symMergeCmpFunc_byte_s1 ⟨p1a, p1n, p1c⟩ p2 p3 p4 p5 h (fun h' => K (Value.tuple #[]) h') | _ => none) else none)
def HF_slices_stableCmpFunc_byte_s1 : Hints := ⟨[(2, [0, 1, 2, 6, 7, 8], [(0, [(0, .ty 22), (1, .ty 3), (2, .fn 29 [] [.ptr]), (6, .ty 3), (7, .ty 3)])], none), (7, [0, 1, 2, 6], [(2, [])], none), (9, [0, 1, 2, 6, 7, 8], [(4, [(0, .ty 22), (1, .ty 3), (2, .fn 29 [] [.ptr]), (6, .ty 3), (7, .ty 3)])], none)], [], []⟩
noncomputable def BF_slices_stableCmpFunc_byte_s1 : Code := match Try.f34.body with | some c => c | none => .skip
noncomputable def F_slices_stableCmpFunc_byte_s1_l0 (F_slices_insertionSortCmpFunc_byte_s1 : Sl → Int → Int → Option Addr → GH → (GH → Option β) → Option β) (F_slices_symMergeCmpFunc_byte_s1 : Sl → Int → Int → Int → Option Addr → GH → (GH → Option β) → Option β) (R : Nat) (n : Nat) (y4 : Sl) (y5 : Int) (y6 : Option Addr) (y7 : Int) (y8 : Int) (y9 : Int) (h : GH) (K0 : Sl → Int → Option Addr → Int → Int → GH → Option β) : Option β := gloop (gcode Try.prog (CF_slices_stableCmpFunc_byte_s1 F_slices_insertionSortCmpFunc_byte_s1 F_slices_symMergeCmpFunc_byte_s1) Try.f34.ntmps HF_slices_stableCmpFunc_byte_s1 R (at_ [true, true, false, false, false] BF_slices_stableCmpFunc_byte_s1)) [0, 1, 2, 6, 7, 8] n [(0, Value.slice y4.a y4.n y4.c), (1, Value.int .i64 y5), (2, Value.func (.func 29) #[] #[Value.pointer y6]), (6, Value.int .i64 y7), (7, Value.int .i64 y8), (8, Value.int .i64 y9)] h (fun i e' h' => bif Nat.beq i 0 then (exS (some (e'.get 0)) fun u47 => exI .i64 (some (e'.get 1)) fun u48 => exF 29 [] [.ptr] (e'.get 2) fun ga50 gc51 => (match ga50, gc51 with | [], [.pointer p49] => exI .i64 (some (e'.get 6)) fun u52 => exI .i64 (some (e'.get 7)) fun u53 => K0 u47 u48 p49 u52 u53 h' | _, _ => none)) else none) (fun e' h' => none)
noncomputable def F_slices_stableCmpFunc_byte_s1_l1 (F_slices_insertionSortCmpFunc_byte_s1 : Sl → Int → Int → Option Addr → GH → (GH → Option β) → Option β) (F_slices_symMergeCmpFunc_byte_s1 : Sl → Int → Int → Int → Option Addr → GH → (GH → Option β) → Option β) (R : Nat) (n : Nat) (y23 : Sl) (y24 : Int) (y25 : Option Addr) (y26 : Int) (h : GH) (K2 : GH → Option β) : Option β := gloop (gcode Try.prog (CF_slices_stableCmpFunc_byte_s1 F_slices_insertionSortCmpFunc_byte_s1 F_slices_symMergeCmpFunc_byte_s1) Try.f34.ntmps HF_slices_stableCmpFunc_byte_s1 R (at_ [true, true, true, true, false, false] BF_slices_stableCmpFunc_byte_s1)) [0, 1, 2, 6] n [(0, Value.slice y23.a y23.n y23.c), (1, Value.int .i64 y24), (2, Value.func (.func 29) #[] #[Value.pointer y25]), (6, Value.int .i64 y26)] h (fun i e' h' => bif Nat.beq i 2 then (K2 h') else none) (fun e' h' => none)
noncomputable def F_slices_stableCmpFunc_byte_s1_l2 (F_slices_insertionSortCmpFunc_byte_s1 : Sl → Int → Int → Option Addr → GH → (GH → Option β) → Option β) (F_slices_symMergeCmpFunc_byte_s1 : Sl → Int → Int → Int → Option Addr → GH → (GH → Option β) → Option β) (R : Nat) (n : Nat) (y27 : Sl) (y28 : Int) (y29 : Option Addr) (y30 : Int) (y31 : Int) (y32 : Int) (h : GH) (K4 : Sl → Int → Option Addr → Int → Int → GH → Option β) : Option β := gloop (gcode Try.prog (CF_slices_stableCmpFunc_byte_s1 F_slices_insertionSortCmpFunc_byte_s1 F_slices_symMergeCmpFunc_byte_s1) Try.f34.ntmps HF_slices_stableCmpFunc_byte_s1 R (at_ [true, true, true, true, false, false, true, false, true, false, false, false] BF_slices_stableCmpFunc_byte_s1)) [0, 1, 2, 6, 7, 8] n [(0, Value.slice y27.a y27.n y27.c), (1, Value.int .i64 y28), (2, Value.func (.func 29) #[] #[Value.pointer y29]), (6, Value.int .i64 y30), (7, Value.int .i64 y31), (8, Value.int .i64 y32)] h (fun i e' h' => bif Nat.beq i 4 then (exS (some (e'.get 0)) fun u54 => exI .i64 (some (e'.get 1)) fun u55 => exF 29 [] [.ptr] (e'.get 2) fun ga57 gc58 => (match ga57, gc58 with | [], [.pointer p56] => exI .i64 (some (e'.get 6)) fun u59 => exI .i64 (some (e'.get 7)) fun u60 => K4 u54 u55 p56 u59 u60 h' | _, _ => none)) else none) (fun e' h' => none)
set_option maxRecDepth 100000 in
theorem F_slices_stableCmpFunc_byte_s1_l2_succ (F_slices_insertionSortCmpFunc_byte_s1 : Sl → Int → Int → Option Addr → GH → (GH → Option β) → Option β) (F_slices_symMergeCmpFunc_byte_s1 : Sl → Int → Int → Int → Option Addr → GH → (GH → Option β) → Option β) (R : Nat) (n : Nat) (y27 : Sl) (y28 : Int) (y29 : Option Addr) (y30 : Int) (y31 : Int) (y32 : Int) (h : GH) (K4 : Sl → Int → Option Addr → Int → Int → GH → Option β) : F_slices_stableCmpFunc_byte_s1_l2 F_slices_insertionSortCmpFunc_byte_s1 F_slices_symMergeCmpFunc_byte_s1 R (n + 1) y27 y28 y29 y30 y31 y32 h K4 =
    (bif decide (y32 ≤ y28) then F_slices_symMergeCmpFunc_byte_s1 y27 y31 (IntKind.wrap .i64 (y31 + y30)) y32 y29 h fun h38 => F_slices_stableCmpFunc_byte_s1_l2 F_slices_insertionSortCmpFunc_byte_s1 F_slices_symMergeCmpFunc_byte_s1 R n y27 y28 y29 y30 y32 (IntKind.wrap .i64 (y32 + (IntKind.wrap .i64 (2 * y30)))) h38 K4 else K4 y27 y28 y29 y30 y31 h) := by kernel_rfl
set_option maxRecDepth 100000 in
theorem F_slices_stableCmpFunc_byte_s1_l1_succ (F_slices_insertionSortCmpFunc_byte_s1 : Sl → Int → Int → Option Addr → GH → (GH → Option β) → Option β) (F_slices_symMergeCmpFunc_byte_s1 : Sl → Int → Int → Int → Option Addr → GH → (GH → Option β) → Option β) (R : Nat) (n : Nat) (y23 : Sl) (y24 : Int) (y25 : Option Addr) (y26 : Int) (h : GH) (K2 : GH → Option β) : F_slices_stableCmpFunc_byte_s1_l1 F_slices_insertionSortCmpFunc_byte_s1 F_slices_symMergeCmpFunc_byte_s1 R (n + 1) y23 y24 y25 y26 h K2 =
    (bif decide (y26 < y24) then F_slices_stableCmpFunc_byte_s1_l2 F_slices_insertionSortCmpFunc_byte_s1 F_slices_symMergeCmpFunc_byte_s1 R R y23 y24 y25 y26 0 (IntKind.wrap .i64 (2 * y26)) h (fun w39 w40 y41 w42 w43 h44 => (bif decide ((IntKind.wrap .i64 (w43 + w42)) < w40) then F_slices_symMergeCmpFunc_byte_s1 w39 w43 (IntKind.wrap .i64 (w43 + w42)) w40 y41 h44 fun h45 => F_slices_stableCmpFunc_byte_s1_l1 F_slices_insertionSortCmpFunc_byte_s1 F_slices_symMergeCmpFunc_byte_s1 R n w39 w40 y41 (IntKind.wrap .i64 (w42 * 2)) h45 K2 else F_slices_stableCmpFunc_byte_s1_l1 F_slices_insertionSortCmpFunc_byte_s1 F_slices_symMergeCmpFunc_byte_s1 R n w39 w40 y41 (IntKind.wrap .i64 (w42 * 2)) h44 K2)) else K2 h) := by kernel_rfl
set_option maxRecDepth 100000 in
theorem F_slices_stableCmpFunc_byte_s1_l0_succ (F_slices_insertionSortCmpFunc_byte_s1 : Sl → Int → Int → Option Addr → GH → (GH → Option β) → Option β) (F_slices_symMergeCmpFunc_byte_s1 : Sl → Int → Int → Int → Option Addr → GH → (GH → Option β) → Option β) (R : Nat) (n : Nat) (y4 : Sl) (y5 : Int) (y6 : Option Addr) (y7 : Int) (y8 : Int) (y9 : Int) (h : GH) (K0 : Sl → Int → Option Addr → Int → Int → GH → Option β) : F_slices_stableCmpFunc_byte_s1_l0 F_slices_insertionSortCmpFunc_byte_s1 F_slices_symMergeCmpFunc_byte_s1 R (n + 1) y4 y5 y6 y7 y8 y9 h K0 =
    (bif decide (y9 ≤ y5) then F_slices_insertionSortCmpFunc_byte_s1 y4 y8 y9 y6 h fun h15 => F_slices_stableCmpFunc_byte_s1_l0 F_slices_insertionSortCmpFunc_byte_s1 F_slices_symMergeCmpFunc_byte_s1 R n y4 y5 y6 y7 y9 (IntKind.wrap .i64 (y9 + y7)) h15 K0 else K0 y4 y5 y6 y7 y8 h) := by kernel_rfl
noncomputable def G_slices_stableCmpFunc_byte_s1 (F_slices_insertionSortCmpFunc_byte_s1 : Sl → Int → Int → Option Addr → GH → (GH → Option β) → Option β) (F_slices_symMergeCmpFunc_byte_s1 : Sl → Int → Int → Int → Option Addr → GH → (GH → Option β) → Option β) (R : Nat) (a1 : Sl) (a2 : Int) (y3 : Option Addr) (h : GH) (K : GH → Option β) : Option β := gfun Try.prog (CF_slices_stableCmpFunc_byte_s1 F_slices_insertionSortCmpFunc_byte_s1 F_slices_symMergeCmpFunc_byte_s1) HF_slices_stableCmpFunc_byte_s1 R Try.f34 [Value.slice a1.a a1.n a1.c, Value.int .i64 a2, Value.func (.func 29) #[] #[Value.pointer y3]] h (fun _ h' => K h')
set_option maxRecDepth 100000 in
theorem F_slices_stableCmpFunc_byte_s1_gen (F_slices_insertionSortCmpFunc_byte_s1 : Sl → Int → Int → Option Addr → GH → (GH → Option β) → Option β) (F_slices_symMergeCmpFunc_byte_s1 : Sl → Int → Int → Int → Option Addr → GH → (GH → Option β) → Option β) (R : Nat) (a1 : Sl) (a2 : Int) (y3 : Option Addr) (h : GH) (K : GH → Option β) : G_slices_stableCmpFunc_byte_s1 F_slices_insertionSortCmpFunc_byte_s1 F_slices_symMergeCmpFunc_byte_s1 R a1 a2 y3 h K =
    F_slices_stableCmpFunc_byte_s1_l0 F_slices_insertionSortCmpFunc_byte_s1 F_slices_symMergeCmpFunc_byte_s1 R R a1 a2 y3 20 0 20 h (fun w16 w17 y18 w19 w20 h21 => F_slices_insertionSortCmpFunc_byte_s1 w16 w20 w17 y18 h21 fun h22 => F_slices_stableCmpFunc_byte_s1_l1 F_slices_insertionSortCmpFunc_byte_s1 F_slices_symMergeCmpFunc_byte_s1 R R w16 w17 y18 w19 h22 (fun h46 => K h46)) := by kernel_rfl
noncomputable def F_slices_stableCmpFunc_byte_s1 (R : Nat) (a1 : Sl) (a2 : Int) (y3 : Option Addr) (h : GH) (K : GH → Option β) : Option β := G_slices_stableCmpFunc_byte_s1 (F_slices_insertionSortCmpFunc_byte_s1 R) (F_slices_symMergeCmpFunc_byte_s1 R R) R a1 a2 y3 h K
set_option maxRecDepth 100000 in
theorem CF_slices_stableCmpFunc_byte_s1_sim {R : Nat} : SimOrc Try.prog (CF_slices_stableCmpFunc_byte_s1 (F_slices_insertionSortCmpFunc_byte_s1 R) (F_slices_symMergeCmpFunc_byte_s1 R R) (β := β)) := by
  intro f args h K r hc
  unfold CF_slices_stableCmpFunc_byte_s1 at hc
  cases hb : Nat.beq f 36 with
  | true =>
    rw [hb] at hc
    simp only [cond_true] at hc
    obtain rfl := Nat.eq_of_beq_eq_true hb
    split at hc
    · exact any_call (F_slices_insertionSortCmpFunc_byte_s1_sim (K := K) hc)
    · cases hc
  | false =>
  rw [hb] at hc
  simp only [cond_false] at hc
  cases hb : Nat.beq f 37 with
  | true =>
    rw [hb] at hc
    simp only [cond_true] at hc
    obtain rfl := Nat.eq_of_beq_eq_true hb
    split at hc
    · exact any_call (F_slices_symMergeCmpFunc_byte_s1_sim (K := K) hc)
    · cases hc
  | false =>
  rw [hb] at hc
  simp only [cond_false] at hc
  cases hc
set_option maxRecDepth 100000 in
theorem F_slices_stableCmpFunc_byte_s1_sim {R : Nat} {r : β} {a1 : Sl} {a2 : Int} {y3 : Option Addr} {h : GH} {K : Value → GH → Option β} (hc : F_slices_stableCmpFunc_byte_s1 R a1 a2 y3 h (fun h' => K (Value.tuple #[]) h') = some r) : ∃ v h', K v h' = some r ∧ CallSim Try.prog 34 [Value.slice a1.a a1.n a1.c, Value.int .i64 a2, Value.func (.func 29) #[] #[Value.pointer y3]] h v h' := by
  unfold F_slices_stableCmpFunc_byte_s1 G_slices_stableCmpFunc_byte_s1 at hc
  obtain ⟨v, h', hk, hs⟩ := gfun_sim (CF_slices_stableCmpFunc_byte_s1_sim (R := R)) mixed_ok (fun f h => by cases h) Try.func34 (by kernel_rfl) hc
  exact ⟨_, h', hk, hs.unit⟩
/-! F28 slices.SortStableFunc[[]byte,byte] -/
def CF_slices_SortStableFunc_byte_s1 (F_slices_stableCmpFunc_byte_s1 : Sl → Int → Option Addr → GH → (GH → Option β) → Option β) : Orc β := fun f args h K => bif Nat.beq f 34 then (match args with | [.slice p1a p1n p1c, .int .i64 p2, .func (.func 29) ⟨[]⟩ ⟨[.pointer p3]⟩] => F_slices_stableCmpFunc_byte_s1 ⟨p1a, p1n, p1c⟩ p2 p3 h (fun h' => K (Value.tuple #[]) h') | _ => none) else none
def HF_slices_SortStableFunc_byte_s1 : Hints := ⟨[], [], []⟩
noncomputable def G_slices_SortStableFunc_byte_s1 (F_slices_stableCmpFunc_byte_s1 : Sl → Int → Option Addr → GH → (GH → Option β) → Option β) (R : Nat) (a1 : Sl) (y2 : Option Addr) (h : GH) (K : GH → Option β) : Option β := gfun Try.prog (CF_slices_SortStableFunc_byte_s1 F_slices_stableCmpFunc_byte_s1) HF_slices_SortStableFunc_byte_s1 R Try.f28 [Value.slice a1.a a1.n a1.c, Value.func (.func 29) #[] #[Value.pointer y2]] h (fun _ h' => K h')
set_option maxRecDepth 100000 in
theorem F_slices_SortStableFunc_byte_s1_gen (F_slices_stableCmpFunc_byte_s1 : Sl → Int → Option Addr → GH → (GH → Option β) → Option β) (R : Nat) (a1 : Sl) (y2 : Option Addr) (h : GH) (K : GH → Option β) : G_slices_SortStableFunc_byte_s1 F_slices_stableCmpFunc_byte_s1 R a1 y2 h K =
    F_slices_stableCmpFunc_byte_s1 a1 ((a1.n : Nat) : Int) y2 h fun h3 => K h3 := by kernel_rfl
noncomputable def F_slices_SortStableFunc_byte_s1 (R : Nat) (a1 : Sl) (y2 : Option Addr) (h : GH) (K : GH → Option β) : Option β := G_slices_SortStableFunc_byte_s1 (F_slices_stableCmpFunc_byte_s1 R) R a1 y2 h K
set_option maxRecDepth 100000 in
theorem CF_slices_SortStableFunc_byte_s1_sim {R : Nat} : SimOrc Try.prog (CF_slices_SortStableFunc_byte_s1 (F_slices_stableCmpFunc_byte_s1 R) (β := β)) := by
  intro f args h K r hc
  unfold CF_slices_SortStableFunc_byte_s1 at hc
  cases hb : Nat.beq f 34 with
  | true =>
    rw [hb] at hc
    simp only [cond_true] at hc
    obtain rfl := Nat.eq_of_beq_eq_true hb
    split at hc
    · exact any_call (F_slices_stableCmpFunc_byte_s1_sim (K := K) hc)
    · cases hc
  | false =>
  rw [hb] at hc
  simp only [cond_false] at hc
  cases hc
set_option maxRecDepth 100000 in
theorem F_slices_SortStableFunc_byte_s1_sim {R : Nat} {r : β} {a1 : Sl} {y2 : Option Addr} {h : GH} {K : Value → GH → Option β} (hc : F_slices_SortStableFunc_byte_s1 R a1 y2 h (fun h' => K (Value.tuple #[]) h') = some r) : ∃ v h', K v h' = some r ∧ CallSim Try.prog 28 [Value.slice a1.a a1.n a1.c, Value.func (.func 29) #[] #[Value.pointer y2]] h v h' := by
  unfold F_slices_SortStableFunc_byte_s1 G_slices_SortStableFunc_byte_s1 at hc
  obtain ⟨v, h', hk, hs⟩ := gfun_sim (CF_slices_SortStableFunc_byte_s1_sim (R := R)) mixed_ok (fun f h => by cases h) Try.func28 (by kernel_rfl) hc
  exact ⟨_, h', hk, hs.unit⟩
/-! F19 duffel/follow.first -/
def CF_follow_first  : Orc β := fun f args h K => none
def HF_follow_first : Hints := ⟨[], [], []⟩
noncomputable def G_follow_first  (R : Nat) (a1 : Sl) (h : GH) (K : Sl → GH → Option β) : Option β := gfun Try.prog (CF_follow_first ) HF_follow_first R Try.f19 [Value.slice a1.a a1.n a1.c] h (fun v h' => exS (some v) fun u4 => K u4 h')
set_option maxRecDepth 100000 in
theorem F_follow_first_gen  (R : Nat) (a1 : Sl) (h : GH) (K : Sl → GH → Option β) : G_follow_first  R a1 h K =
    bnd (if 32 < ((a1.n : Nat) : Int) then 32 else ((a1.n : Nat) : Int)) a1.c fun m2 => K ⟨addO a1.a (0 * 1), m2 - 0, a1.c - 0⟩ h := by kernel_rfl
noncomputable def F_follow_first (R : Nat) (a1 : Sl) (h : GH) (K : Sl → GH → Option β) : Option β := G_follow_first  R a1 h K
theorem CF_follow_first_sim : SimOrc Try.prog (CF_follow_first (β := β)) := by
  intro f args h K r hc
  cases hc
set_option maxRecDepth 100000 in
theorem F_follow_first_sim {R : Nat} {r : β} {a1 : Sl} {h : GH} {K : Value → GH → Option β} (hc : F_follow_first R a1 h (fun q0 h' => K (Value.slice q0.a q0.n q0.c) h') = some r) : ∃ v h', K v h' = some r ∧ CallSim Try.prog 19 [Value.slice a1.a a1.n a1.c] h v h' := by
  unfold F_follow_first G_follow_first at hc
  obtain ⟨v, h', hk, hs⟩ := gfun_sim CF_follow_first_sim mixed_ok (fun f h => by cases h) Try.func19 (by kernel_rfl) hc
  obtain ⟨u0, e0, hk⟩ := exS_v hk; cases e0
  exact ⟨_, h', hk, hs⟩
/-! F22 (*duffel/follow.counts).ordered -/
def CF_follow_counts_ordered (F_slices_SortStableFunc_byte_s1 : Sl → Option Addr → GH → (GH → Option β) → Option β) (F_follow_first : Sl → GH → (Sl → GH → Option β) → Option β) : Orc β := fun f args h K => bif Nat.beq f 28 then (match args with | [.slice p1a p1n p1c, .func (.func 29) ⟨[]⟩ ⟨[.pointer p2]⟩] => F_slices_SortStableFunc_byte_s1 ⟨p1a, p1n, p1c⟩ p2 h (fun h' => K (Value.tuple #[]) h') | _ => none) else (bif Nat.beq f 19 then (match args with | [.slice p1a p1n p1c] => F_follow_first ⟨p1a, p1n, p1c⟩ h (fun q3 h' => K (Value.slice q3.a q3.n q3.c) h') | _ => none) else none)
def HF_follow_counts_ordered : Hints := ⟨[(3, [1, 3, 6, 7], [(0, [(1, .ty 15), (3, .ty 22)])], none)], [], []⟩
noncomputable def BF_follow_counts_ordered : Code := match Try.f22.body with | some c => c | none => .skip
noncomputable def F_follow_counts_ordered_l0 (F_slices_SortStableFunc_byte_s1 : Sl → Option Addr → GH → (GH → Option β) → Option β) (F_follow_first : Sl → GH → (Sl → GH → Option β) → Option β) (R : Nat) (n : Nat) (y5 : Option Addr) (y6 : Sl) (y7 : Option Addr) (y8 : Int) (h : GH) (K0 : Option Addr → Sl → GH → Option β) : Option β := gloop (gcode Try.prog (CF_follow_counts_ordered F_slices_SortStableFunc_byte_s1 F_follow_first) Try.f22.ntmps HF_follow_counts_ordered R (at_ [true, true, false, true, false, false] BF_follow_counts_ordered)) [1, 3, 6, 7] n [(1, Value.pointer y5), (3, Value.slice y6.a y6.n y6.c), (6, Value.pointer y7), (7, Value.int .i64 y8)] h (fun i e' h' => bif Nat.beq i 0 then (exP (some (e'.get 1)) fun u25 => exS (some (e'.get 3)) fun u26 => K0 u25 u26 h') else none) (fun e' h' => none)
set_option maxRecDepth 100000 in
theorem F_follow_counts_ordered_l0_succ (F_slices_SortStableFunc_byte_s1 : Sl → Option Addr → GH → (GH → Option β) → Option β) (F_follow_first : Sl → GH → (Sl → GH → Option β) → Option β) (R : Nat) (n : Nat) (y5 : Option Addr) (y6 : Sl) (y7 : Option Addr) (y8 : Int) (h : GH) (K0 : Option Addr → Sl → GH → Option β) : F_follow_counts_ordered_l0 F_slices_SortStableFunc_byte_s1 F_follow_first R (n + 1) y5 y6 y7 y8 h K0 =
    (bif decide (y8 < 256) then exA y7 fun g11 o12 => within y8 256 (exI .i64 (h.cell ⟨g11, o12 + y8.toNat * 1, none⟩) fun x13 => (bif decide (x13 > 0) then gnew [Value.int .u8 (IntKind.wrap .u8 y8)] 1 h fun g14 h15 => gappS 1 1 y6 ⟨(some ⟨g14, 0, none⟩), 1, 1⟩ h15 fun s16 h17 => F_follow_counts_ordered_l0 F_slices_SortStableFunc_byte_s1 F_follow_first R n y5 s16 y7 (IntKind.wrap .i64 (y8 + 1)) h17 K0 else F_follow_counts_ordered_l0 F_slices_SortStableFunc_byte_s1 F_follow_first R n y5 y6 y7 (IntKind.wrap .i64 (y8 + 1)) h K0)) else K0 y5 y6 h) := by kernel_rfl
noncomputable def G_follow_counts_ordered (F_slices_SortStableFunc_byte_s1 : Sl → Option Addr → GH → (GH → Option β) → Option β) (F_follow_first : Sl → GH → (Sl → GH → Option β) → Option β) (R : Nat) (a1 : Option Addr) (h : GH) (K : Sl → GH → Option β) : Option β := gfun Try.prog (CF_follow_counts_ordered F_slices_SortStableFunc_byte_s1 F_follow_first) HF_follow_counts_ordered R Try.f22 [Value.pointer a1] h (fun v h' => exS (some v) fun u27 => K u27 h')
set_option maxRecDepth 100000 in
theorem F_follow_counts_ordered_gen (F_slices_SortStableFunc_byte_s1 : Sl → Option Addr → GH → (GH → Option β) → Option β) (F_follow_first : Sl → GH → (Sl → GH → Option β) → Option β) (R : Nat) (a1 : Option Addr) (h : GH) (K : Sl → GH → Option β) : G_follow_counts_ordered F_slices_SortStableFunc_byte_s1 F_follow_first R a1 h K =
    gnew [Value.pointer a1] 0 h fun g2 h3 => exP (h3.cell ⟨g2, 0, none⟩) fun x4 => F_follow_counts_ordered_l0 F_slices_SortStableFunc_byte_s1 F_follow_first R R (some ⟨g2, 0, none⟩) ⟨none, 0, 0⟩ x4 0 h3 (fun w18 w19 h20 => F_slices_SortStableFunc_byte_s1 w19 w18 h20 fun h21 => F_follow_first w19 h21 fun r22 h23 => K r22 h23) := by kernel_rfl
noncomputable def F_follow_counts_ordered (R : Nat) (a1 : Option Addr) (h : GH) (K : Sl → GH → Option β) : Option β := G_follow_counts_ordered (F_slices_SortStableFunc_byte_s1 R) (F_follow_first R) R a1 h K
set_option maxRecDepth 100000 in
theorem CF_follow_counts_ordered_sim {R : Nat} : SimOrc Try.prog (CF_follow_counts_ordered (F_slices_SortStableFunc_byte_s1 R) (F_follow_first R) (β := β)) := by
  intro f args h K r hc
  unfold CF_follow_counts_ordered at hc
  cases hb : Nat.beq f 28 with
  | true =>
    rw [hb] at hc
    simp only [cond_true] at hc
    obtain rfl := Nat.eq_of_beq_eq_true hb
    split at hc
    · exact any_call (F_slices_SortStableFunc_byte_s1_sim (K := K) hc)
    · cases hc
  | false =>
  rw [hb] at hc
  simp only [cond_false] at hc
  cases hb : Nat.beq f 19 with
  | true =>
    rw [hb] at hc
    simp only [cond_true] at hc
    obtain rfl := Nat.eq_of_beq_eq_true hb
    split at hc
    · exact any_call (F_follow_first_sim (K := K) hc)
    · cases hc
  | false =>
  rw [hb] at hc
  simp only [cond_false] at hc
  cases hc
set_option maxRecDepth 100000 in
theorem F_follow_counts_ordered_sim {R : Nat} {r : β} {a1 : Option Addr} {h : GH} {K : Value → GH → Option β} (hc : F_follow_counts_ordered R a1 h (fun q0 h' => K (Value.slice q0.a q0.n q0.c) h') = some r) : ∃ v h', K v h' = some r ∧ CallSim Try.prog 22 [Value.pointer a1] h v h' := by
  unfold F_follow_counts_ordered G_follow_counts_ordered at hc
  obtain ⟨v, h', hk, hs⟩ := gfun_sim (CF_follow_counts_ordered_sim (R := R)) mixed_ok (fun f h => by cases h) Try.func22 (by kernel_rfl) hc
  obtain ⟨u0, e0, hk⟩ := exS_v hk; cases e0
  exact ⟨_, h', hk, hs⟩
/-! F33 math/bits.Len64 -/
def CF_math_bits_Len64  : Orc β := fun f args h K => none
def HF_math_bits_Len64 : Hints := ⟨[], [], []⟩
noncomputable def G_math_bits_Len64  (R : Nat) (a1 : Int) (h : GH) (K : Int → GH → Option β) : Option β := gfun Try.prog (CF_math_bits_Len64 ) HF_math_bits_Len64 R Try.f33 [Value.int .u64 a1] h (fun v h' => exI .i64 (some v) fun u11 => K u11 h')
set_option maxRecDepth 100000 in
theorem F_math_bits_Len64_gen  (R : Nat) (a1 : Int) (h : GH) (K : Int → GH → Option β) : G_math_bits_Len64  R a1 h K =
    (bif decide (a1 ≥ 4294967296) then (bif decide ((shrI .u64 a1 32) ≥ 65536) then (bif decide ((shrI .u64 (shrI .u64 a1 32) 16) ≥ 256) then byteAt Str0 (IntKind.wrap .u8 (shrI .u64 (shrI .u64 (shrI .u64 a1 32) 16) 8)) fun x2 => K (IntKind.wrap .i64 ((IntKind.wrap .i64 ((IntKind.wrap .i64 (32 + 16)) + 8)) + (IntKind.wrap .i64 x2))) h else byteAt Str0 (IntKind.wrap .u8 (shrI .u64 (shrI .u64 a1 32) 16)) fun x3 => K (IntKind.wrap .i64 ((IntKind.wrap .i64 (32 + 16)) + (IntKind.wrap .i64 x3))) h) else (bif decide ((shrI .u64 a1 32) ≥ 256) then byteAt Str0 (IntKind.wrap .u8 (shrI .u64 (shrI .u64 a1 32) 8)) fun x4 => K (IntKind.wrap .i64 ((IntKind.wrap .i64 (32 + 8)) + (IntKind.wrap .i64 x4))) h else byteAt Str0 (IntKind.wrap .u8 (shrI .u64 a1 32)) fun x5 => K (IntKind.wrap .i64 (32 + (IntKind.wrap .i64 x5))) h)) else (bif decide (a1 ≥ 65536) then (bif decide ((shrI .u64 a1 16) ≥ 256) then byteAt Str0 (IntKind.wrap .u8 (shrI .u64 (shrI .u64 a1 16) 8)) fun x6 => K (IntKind.wrap .i64 ((IntKind.wrap .i64 ((IntKind.wrap .i64 (0 + 16)) + 8)) + (IntKind.wrap .i64 x6))) h else byteAt Str0 (IntKind.wrap .u8 (shrI .u64 a1 16)) fun x7 => K (IntKind.wrap .i64 ((IntKind.wrap .i64 (0 + 16)) + (IntKind.wrap .i64 x7))) h) else (bif decide (a1 ≥ 256) then byteAt Str0 (IntKind.wrap .u8 (shrI .u64 a1 8)) fun x8 => K (IntKind.wrap .i64 ((IntKind.wrap .i64 (0 + 8)) + (IntKind.wrap .i64 x8))) h else byteAt Str0 (IntKind.wrap .u8 a1) fun x9 => K (IntKind.wrap .i64 (0 + (IntKind.wrap .i64 x9))) h))) := by kernel_rfl
noncomputable def F_math_bits_Len64 (R : Nat) (a1 : Int) (h : GH) (K : Int → GH → Option β) : Option β := G_math_bits_Len64  R a1 h K
theorem CF_math_bits_Len64_sim : SimOrc Try.prog (CF_math_bits_Len64 (β := β)) := by
  intro f args h K r hc
  cases hc
set_option maxRecDepth 100000 in
theorem F_math_bits_Len64_sim {R : Nat} {r : β} {a1 : Int} {h : GH} {K : Value → GH → Option β} (hc : F_math_bits_Len64 R a1 h (fun q0 h' => K (Value.int .i64 q0) h') = some r) : ∃ v h', K v h' = some r ∧ CallSim Try.prog 33 [Value.int .u64 a1] h v h' := by
  unfold F_math_bits_Len64 G_math_bits_Len64 at hc
  obtain ⟨v, h', hk, hs⟩ := gfun_sim CF_math_bits_Len64_sim mixed_ok (fun f h => by cases h) Try.func33 (by kernel_rfl) hc
  obtain ⟨u0, e0, hk⟩ := exI_v hk; cases e0
  exact ⟨_, h', hk, hs⟩
/-! F26 math/bits.Len -/
def CF_math_bits_Len (F_math_bits_Len64 : Int → GH → (Int → GH → Option β) → Option β) : Orc β := fun f args h K => bif Nat.beq f 33 then (match args with | [.int .u64 p1] => F_math_bits_Len64 p1 h (fun q10 h' => K (Value.int .i64 q10) h') | _ => none) else none
def HF_math_bits_Len : Hints := ⟨[], [], []⟩
noncomputable def G_math_bits_Len (F_math_bits_Len64 : Int → GH → (Int → GH → Option β) → Option β) (R : Nat) (a1 : Int) (h : GH) (K : Int → GH → Option β) : Option β := gfun Try.prog (CF_math_bits_Len F_math_bits_Len64) HF_math_bits_Len R Try.f26 [Value.int .u64 a1] h (fun v h' => exI .i64 (some v) fun u5 => K u5 h')
set_option maxRecDepth 100000 in
theorem F_math_bits_Len_gen (F_math_bits_Len64 : Int → GH → (Int → GH → Option β) → Option β) (R : Nat) (a1 : Int) (h : GH) (K : Int → GH → Option β) : G_math_bits_Len F_math_bits_Len64 R a1 h K =
    F_math_bits_Len64 a1 h fun r2 h3 => K r2 h3 := by kernel_rfl
noncomputable def F_math_bits_Len (R : Nat) (a1 : Int) (h : GH) (K : Int → GH → Option β) : Option β := G_math_bits_Len (F_math_bits_Len64 R) R a1 h K
set_option maxRecDepth 100000 in
theorem CF_math_bits_Len_sim {R : Nat} : SimOrc Try.prog (CF_math_bits_Len (F_math_bits_Len64 R) (β := β)) := by
  intro f args h K r hc
  unfold CF_math_bits_Len at hc
  cases hb : Nat.beq f 33 with
  | true =>
    rw [hb] at hc
    simp only [cond_true] at hc
    obtain rfl := Nat.eq_of_beq_eq_true hb
    split at hc
    · exact any_call (F_math_bits_Len64_sim (K := K) hc)
    · cases hc
  | false =>
  rw [hb] at hc
  simp only [cond_false] at hc
  cases hc
set_option maxRecDepth 100000 in
theorem F_math_bits_Len_sim {R : Nat} {r : β} {a1 : Int} {h : GH} {K : Value → GH → Option β} (hc : F_math_bits_Len R a1 h (fun q0 h' => K (Value.int .i64 q0) h') = some r) : ∃ v h', K v h' = some r ∧ CallSim Try.prog 26 [Value.int .u64 a1] h v h' := by
  unfold F_math_bits_Len G_math_bits_Len at hc
  obtain ⟨v, h', hk, hs⟩ := gfun_sim (CF_math_bits_Len_sim (R := R)) mixed_ok (fun f h => by cases h) Try.func26 (by kernel_rfl) hc
  obtain ⟨u0, e0, hk⟩ := exI_v hk; cases e0
  exact ⟨_, h', hk, hs⟩
/-! F18 duffel/follow.Width -/
def CF_follow_Width (F_math_bits_Len : Int → GH → (Int → GH → Option β) → Option β) : Orc β := fun f args h K => bif Nat.beq f 26 then (match args with | [.int .u64 p1] => F_math_bits_Len p1 h (fun q4 h' => K (Value.int .i64 q4) h') | _ => none) else none
def HF_follow_Width : Hints := ⟨[], [], []⟩
noncomputable def G_follow_Width (F_math_bits_Len : Int → GH → (Int → GH → Option β) → Option β) (R : Nat) (a1 : Int) (h : GH) (K : Int → GH → Option β) : Option β := gfun Try.prog (CF_follow_Width F_math_bits_Len) HF_follow_Width R Try.f18 [Value.int .i64 a1] h (fun v h' => exI .i64 (some v) fun u5 => K u5 h')
set_option maxRecDepth 100000 in
theorem F_follow_Width_gen (F_math_bits_Len : Int → GH → (Int → GH → Option β) → Option β) (R : Nat) (a1 : Int) (h : GH) (K : Int → GH → Option β) : G_follow_Width F_math_bits_Len R a1 h K =
    (bif decide (a1 < 1) then K 0 h else (bif decide (a1 > 32) then K 0 h else F_math_bits_Len (IntKind.wrap .u64 (IntKind.wrap .i64 (a1 - 1))) h fun r2 h3 => K (if 1 > r2 then 1 else r2) h3)) := by kernel_rfl
noncomputable def F_follow_Width (R : Nat) (a1 : Int) (h : GH) (K : Int → GH → Option β) : Option β := G_follow_Width (F_math_bits_Len R) R a1 h K
set_option maxRecDepth 100000 in
theorem CF_follow_Width_sim {R : Nat} : SimOrc Try.prog (CF_follow_Width (F_math_bits_Len R) (β := β)) := by
  intro f args h K r hc
  unfold CF_follow_Width at hc
  cases hb : Nat.beq f 26 with
  | true =>
    rw [hb] at hc
    simp only [cond_true] at hc
    obtain rfl := Nat.eq_of_beq_eq_true hb
    split at hc
    · exact any_call (F_math_bits_Len_sim (K := K) hc)
    · cases hc
  | false =>
  rw [hb] at hc
  simp only [cond_false] at hc
  cases hc
set_option maxRecDepth 100000 in
theorem F_follow_Width_sim {R : Nat} {r : β} {a1 : Int} {h : GH} {K : Value → GH → Option β} (hc : F_follow_Width R a1 h (fun q0 h' => K (Value.int .i64 q0) h') = some r) : ∃ v h', K v h' = some r ∧ CallSim Try.prog 18 [Value.int .i64 a1] h v h' := by
  unfold F_follow_Width G_follow_Width at hc
  obtain ⟨v, h', hk, hs⟩ := gfun_sim (CF_follow_Width_sim (R := R)) mixed_ok (fun f h => by cases h) Try.func18 (by kernel_rfl) hc
  obtain ⟨u0, e0, hk⟩ := exI_v hk; cases e0
  exact ⟨_, h', hk, hs⟩
/-! F16 (*duffel/follow.counts).best -/
def CF_follow_counts_best (F_follow_counts_ordered : Option Addr → GH → (Sl → GH → Option β) → Option β) (F_follow_Width : Int → GH → (Int → GH → Option β) → Option β) : Orc β := fun f args h K => bif Nat.beq f 22 then (match args with | [.pointer p1] => F_follow_counts_ordered p1 h (fun q24 h' => K (Value.slice q24.a q24.n q24.c) h') | _ => none) else (bif Nat.beq f 18 then (match args with | [.int .i64 p1] => F_follow_Width p1 h (fun q4 h' => K (Value.int .i64 q4) h') | _ => none) else none)
def HF_follow_counts_best : Hints := ⟨[(4, [0, 3, 4, 15, 16], [(0, [(0, .ty 53), (3, .ty 22), (4, .ty 3)])], none), (11, [0, 3, 4, 7, 8, 9, 27, 28, 29], [(2, [(3, .ty 22), (8, .ty 3)])], none)], [], []⟩
noncomputable def BF_follow_counts_best : Code := match Try.f16.body with | some c => c | none => .skip
noncomputable def F_follow_counts_best_l0 (F_follow_counts_ordered : Option Addr → GH → (Sl → GH → Option β) → Option β) (F_follow_Width : Int → GH → (Int → GH → Option β) → Option β) (R : Nat) (n : Nat) (y4 : Option Addr) (y5 : Sl) (y6 : Int) (y7 : Option Addr) (y8 : Int) (h : GH) (K0 : Option Addr → Sl → Int → GH → Option β) : Option β := gloop (gcode Try.prog (CF_follow_counts_best F_follow_counts_ordered F_follow_Width) Try.f16.ntmps HF_follow_counts_best R (at_ [true, true, true, false, true, false, false] BF_follow_counts_best)) [0, 3, 4, 15, 16] n [(0, Value.pointer y4), (3, Value.slice y5.a y5.n y5.c), (4, Value.int .i64 y6), (15, Value.pointer y7), (16, Value.int .i64 y8)] h (fun i e' h' => bif Nat.beq i 0 then (exP (some (e'.get 0)) fun u44 => exS (some (e'.get 3)) fun u45 => exI .i64 (some (e'.get 4)) fun u46 => K0 u44 u45 u46 h') else none) (fun e' h' => none)
noncomputable def F_follow_counts_best_l1 (F_follow_counts_ordered : Option Addr → GH → (Sl → GH → Option β) → Option β) (F_follow_Width : Int → GH → (Int → GH → Option β) → Option β) (R : Nat) (n : Nat) (y19 : Option Addr) (y20 : Sl) (y21 : Int) (y22 : Int) (y23 : Int) (y24 : Int) (y25 : Sl) (y26 : Int) (y27 : Int) (h : GH) (K2 : Sl → Int → GH → Option β) : Option β := gloop (gcode Try.prog (CF_follow_counts_best F_follow_counts_ordered F_follow_Width) Try.f16.ntmps HF_follow_counts_best R (at_ [true, true, true, true, true, true, false, true, false, false] BF_follow_counts_best)) [0, 3, 4, 7, 8, 9, 27, 28, 29] n [(0, Value.pointer y19), (3, Value.slice y20.a y20.n y20.c), (4, Value.int .i64 y21), (7, Value.int .i64 y22), (8, Value.int .i64 y23), (9, Value.int .i64 y24), (27, Value.slice y25.a y25.n y25.c), (28, Value.int .i64 y26), (29, Value.int .i64 y27)] h (fun i e' h' => bif Nat.beq i 2 then (exS (some (e'.get 3)) fun u47 => exI .i64 (some (e'.get 8)) fun u48 => K2 u47 u48 h') else none) (fun e' h' => none)
set_option maxRecDepth 100000 in
theorem F_follow_counts_best_l1_succ (F_follow_counts_ordered : Option Addr → GH → (Sl → GH → Option β) → Option β) (F_follow_Width : Int → GH → (Int → GH → Option β) → Option β) (R : Nat) (n : Nat) (y19 : Option Addr) (y20 : Sl) (y21 : Int) (y22 : Int) (y23 : Int) (y24 : Int) (y25 : Sl) (y26 : Int) (y27 : Int) (h : GH) (K2 : Sl → Int → GH → Option β) : F_follow_counts_best_l1 F_follow_counts_ordered F_follow_Width R (n + 1) y19 y20 y21 y22 y23 y24 y25 y26 y27 h K2 =
    (bif decide (y27 < y26) then exA y25.a fun g30 o31 => within y27 y25.n (exI .u8 (h.cell ⟨g30, o31 + y27.toNat * 1, none⟩) fun x32 => exA y19 fun g33 o34 => within x32 256 (exI .i64 (h.cell ⟨g33, o34 + x32.toNat * 1, none⟩) fun x35 => F_follow_Width (IntKind.wrap .i64 (y27 + 1)) h fun r36 h37 => (bif decide ((IntKind.wrap .i64 ((IntKind.wrap .i64 ((IntKind.wrap .i64 (8 * (IntKind.wrap .i64 (y27 + 1)))) + (IntKind.wrap .i64 ((IntKind.wrap .i64 (y24 + x35)) * (IntKind.wrap .i64 (1 + r36)))))) + (IntKind.wrap .i64 (9 * (IntKind.wrap .i64 (y21 - (IntKind.wrap .i64 (y24 + x35)))))))) < y22) then F_follow_counts_best_l1 F_follow_counts_ordered F_follow_Width R n y19 y20 y21 (IntKind.wrap .i64 ((IntKind.wrap .i64 ((IntKind.wrap .i64 (8 * (IntKind.wrap .i64 (y27 + 1)))) + (IntKind.wrap .i64 ((IntKind.wrap .i64 (y24 + x35)) * (IntKind.wrap .i64 (1 + r36)))))) + (IntKind.wrap .i64 (9 * (IntKind.wrap .i64 (y21 - (IntKind.wrap .i64 (y24 + x35)))))))) (IntKind.wrap .i64 (y27 + 1)) (IntKind.wrap .i64 (y24 + x35)) y25 y26 (IntKind.wrap .i64 (y27 + 1)) h37 K2 else F_follow_counts_best_l1 F_follow_counts_ordered F_follow_Width R n y19 y20 y21 y22 y23 (IntKind.wrap .i64 (y24 + x35)) y25 y26 (IntKind.wrap .i64 (y27 + 1)) h37 K2))) else K2 y20 y23 h) := by kernel_rfl
set_option maxRecDepth 100000 in
theorem F_follow_counts_best_l0_succ (F_follow_counts_ordered : Option Addr → GH → (Sl → GH → Option β) → Option β) (F_follow_Width : Int → GH → (Int → GH → Option β) → Option β) (R : Nat) (n : Nat) (y4 : Option Addr) (y5 : Sl) (y6 : Int) (y7 : Option Addr) (y8 : Int) (h : GH) (K0 : Option Addr → Sl → Int → GH → Option β) : F_follow_counts_best_l0 F_follow_counts_ordered F_follow_Width R (n + 1) y4 y5 y6 y7 y8 h K0 =
    (bif decide (y8 < 256) then exA y7 fun g12 o13 => within y8 256 (exI .i64 (h.cell ⟨g12, o13 + y8.toNat * 1, none⟩) fun x14 => F_follow_counts_best_l0 F_follow_counts_ordered F_follow_Width R n y4 y5 (IntKind.wrap .i64 (y6 + x14)) y7 (IntKind.wrap .i64 (y8 + 1)) h K0) else K0 y4 y5 y6 h) := by kernel_rfl
noncomputable def G_follow_counts_best (F_follow_counts_ordered : Option Addr → GH → (Sl → GH → Option β) → Option β) (F_follow_Width : Int → GH → (Int → GH → Option β) → Option β) (R : Nat) (a1 : Option Addr) (h : GH) (K : Sl → GH → Option β) : Option β := gfun Try.prog (CF_follow_counts_best F_follow_counts_ordered F_follow_Width) HF_follow_counts_best R Try.f16 [Value.pointer a1] h (fun v h' => exS (some v) fun u49 => K u49 h')
set_option maxRecDepth 100000 in
theorem F_follow_counts_best_gen (F_follow_counts_ordered : Option Addr → GH → (Sl → GH → Option β) → Option β) (F_follow_Width : Int → GH → (Int → GH → Option β) → Option β) (R : Nat) (a1 : Option Addr) (h : GH) (K : Sl → GH → Option β) : G_follow_counts_best F_follow_counts_ordered F_follow_Width R a1 h K =
    F_follow_counts_ordered a1 h fun r2 h3 => F_follow_counts_best_l0 F_follow_counts_ordered F_follow_Width R R a1 r2 0 a1 0 h3 (fun w15 w16 w17 h18 => F_follow_counts_best_l1 F_follow_counts_ordered F_follow_Width R R w15 w16 w17 (IntKind.wrap .i64 (8 * w17)) 0 0 w16 ((w16.n : Nat) : Int) 0 h18 (fun w38 w39 h40 => bnd w39 w38.c fun m41 => bnd w39 m41 fun m42 => K ⟨addO w38.a (0 * 1), m42 - 0, m41 - 0⟩ h40)) := by kernel_rfl
noncomputable def F_follow_counts_best (R : Nat) (a1 : Option Addr) (h : GH) (K : Sl → GH → Option β) : Option β := G_follow_counts_best (F_follow_counts_ordered R) (F_follow_Width R) R a1 h K
set_option maxRecDepth 100000 in
theorem CF_follow_counts_best_sim {R : Nat} : SimOrc Try.prog (CF_follow_counts_best (F_follow_counts_ordered R) (F_follow_Width R) (β := β)) := by
  intro f args h K r hc
  unfold CF_follow_counts_best at hc
  cases hb : Nat.beq f 22 with
  | true =>
    rw [hb] at hc
    simp only [cond_true] at hc
    obtain rfl := Nat.eq_of_beq_eq_true hb
    split at hc
    · exact any_call (F_follow_counts_ordered_sim (K := K) hc)
    · cases hc
  | false =>
  rw [hb] at hc
  simp only [cond_false] at hc
  cases hb : Nat.beq f 18 with
  | true =>
    rw [hb] at hc
    simp only [cond_true] at hc
    obtain rfl := Nat.eq_of_beq_eq_true hb
    split at hc
    · exact any_call (F_follow_Width_sim (K := K) hc)
    · cases hc
  | false =>
  rw [hb] at hc
  simp only [cond_false] at hc
  cases hc
set_option maxRecDepth 100000 in
theorem F_follow_counts_best_sim {R : Nat} {r : β} {a1 : Option Addr} {h : GH} {K : Value → GH → Option β} (hc : F_follow_counts_best R a1 h (fun q0 h' => K (Value.slice q0.a q0.n q0.c) h') = some r) : ∃ v h', K v h' = some r ∧ CallSim Try.prog 16 [Value.pointer a1] h v h' := by
  unfold F_follow_counts_best G_follow_counts_best at hc
  obtain ⟨v, h', hk, hs⟩ := gfun_sim (CF_follow_counts_best_sim (R := R)) mixed_ok (fun f h => by cases h) Try.func16 (by kernel_rfl) hc
  obtain ⟨u0, e0, hk⟩ := exS_v hk; cases e0
  exact ⟨_, h', hk, hs⟩
/-! F8 duffel/follow.Best -/
def CF_follow_Best (F_follow_counts_best : Option Addr → GH → (Sl → GH → Option β) → Option β) : Orc β := fun f args h K => bif Nat.beq f 16 then (match args with | [.pointer p1] => F_follow_counts_best p1 h (fun q43 h' => K (Value.slice q43.a q43.n q43.c) h') | _ => none) else none
def HF_follow_Best : Hints := ⟨[(4, [2, 3, 4, 9, 10, 11], [(0, [(2, .ty 15), (3, .ty 15)])], none), (11, [2, 3, 7, 25], [(2, [(2, .ty 15), (7, .ty 15)])], none)], [], []⟩
noncomputable def BF_follow_Best : Code := match Try.f8.body with | some c => c | none => .skip
noncomputable def F_follow_Best_l0 (F_follow_counts_best : Option Addr → GH → (Sl → GH → Option β) → Option β) (R : Nat) (n : Nat) (y6 : Option Addr) (y7 : Option Addr) (y8 : Int) (y9 : Sl) (y10 : Int) (y11 : Int) (h : GH) (K0 : Option Addr → Option Addr → GH → Option β) : Option β := gloop (gcode Try.prog (CF_follow_Best F_follow_counts_best) Try.f8.ntmps HF_follow_Best R (at_ [true, true, true, false, true, false, false] BF_follow_Best)) [2, 3, 4, 9, 10, 11] n [(2, Value.pointer y6), (3, Value.pointer y7), (4, Value.int .u8 y8), (9, Value.slice y9.a y9.n y9.c), (10, Value.int .i64 y10), (11, Value.int .i64 y11)] h (fun i e' h' => bif Nat.beq i 0 then (exP (some (e'.get 2)) fun u54 => exP (some (e'.get 3)) fun u55 => K0 u54 u55 h') else none) (fun e' h' => none)
noncomputable def F_follow_Best_l1 (F_follow_counts_best : Option Addr → GH → (Sl → GH → Option β) → Option β) (R : Nat) (n : Nat) (y28 : Option Addr) (y29 : Option Addr) (y30 : Option Addr) (y31 : Int) (h : GH) (K2 : Option Addr → Option Addr → GH → Option β) : Option β := gloop (gcode Try.prog (CF_follow_Best F_follow_counts_best) Try.f8.ntmps HF_follow_Best R (at_ [true, true, true, true, true, false, true, false, false] BF_follow_Best)) [2, 3, 7, 25] n [(2, Value.pointer y28), (3, Value.pointer y29), (7, Value.pointer y30), (25, Value.int .i64 y31)] h (fun i e' h' => bif Nat.beq i 2 then (exP (some (e'.get 2)) fun u56 => exP (some (e'.get 7)) fun u57 => K2 u56 u57 h') else none) (fun e' h' => none)
set_option maxRecDepth 100000 in
theorem F_follow_Best_l1_succ (F_follow_counts_best : Option Addr → GH → (Sl → GH → Option β) → Option β) (R : Nat) (n : Nat) (y28 : Option Addr) (y29 : Option Addr) (y30 : Option Addr) (y31 : Int) (h : GH) (K2 : Option Addr → Option Addr → GH → Option β) : F_follow_Best_l1 F_follow_counts_best R (n + 1) y28 y29 y30 y31 h K2 =
    (bif decide (y31 < 256) then exA y29 fun g34 o35 => within y31 256 (F_follow_counts_best (some ⟨g34, o35 + y31.toNat * 256, none⟩) h fun r36 h37 => exA y30 fun g38 o39 => within y31 256 (gput g38 (o39 + y31.toNat * 1) [Value.slice r36.a r36.n r36.c] h37 fun h40 => F_follow_Best_l1 F_follow_counts_best R n y28 y29 y30 (IntKind.wrap .i64 (y31 + 1)) h40 K2)) else K2 y28 y30 h) := by kernel_rfl
set_option maxRecDepth 100000 in
theorem F_follow_Best_l0_succ (F_follow_counts_best : Option Addr → GH → (Sl → GH → Option β) → Option β) (R : Nat) (n : Nat) (y6 : Option Addr) (y7 : Option Addr) (y8 : Int) (y9 : Sl) (y10 : Int) (y11 : Int) (h : GH) (K0 : Option Addr → Option Addr → GH → Option β) : F_follow_Best_l0 F_follow_counts_best R (n + 1) y6 y7 y8 y9 y10 y11 h K0 =
    (bif decide (y11 < y10) then exA y9.a fun g14 o15 => within y11 y9.n (exI .u8 (h.cell ⟨g14, o15 + y11.toNat * 1, none⟩) fun x16 => exA y7 fun g17 o18 => within y8 256 (within x16 256 (exI .i64 (h.cell ⟨g17, o18 + y8.toNat * 256 + x16.toNat * 1, none⟩) fun x19 => exA y7 fun g20 o21 => within y8 256 (within x16 256 (gput g20 (o21 + y8.toNat * 256 + x16.toNat * 1) [Value.int .i64 (IntKind.wrap .i64 (x19 + 1))] h fun h22 => F_follow_Best_l0 F_follow_counts_best R n y6 y7 x16 y9 y10 (IntKind.wrap .i64 (y11 + 1)) h22 K0))))) else K0 y6 y7 h) := by kernel_rfl
noncomputable def G_follow_Best (F_follow_counts_best : Option Addr → GH → (Sl → GH → Option β) → Option β) (R : Nat) (a1 : Sl) (h : GH) (K : List Value → GH → Option β) : Option β := gfun Try.prog (CF_follow_Best F_follow_counts_best) HF_follow_Best R Try.f8 [Value.slice a1.a a1.n a1.c] h (fun v h' => exAg v fun c58 => (bif Nat.beq c58.length 256 then K c58 h' else none))
set_option maxRecDepth 100000 in
theorem F_follow_Best_gen (F_follow_counts_best : Option Addr → GH → (Sl → GH → Option β) → Option β) (R : Nat) (a1 : Sl) (h : GH) (K : List Value → GH → Option β) : G_follow_Best F_follow_counts_best R a1 h K =
    gnew Z28 0 h fun g2 h3 => gnew Z42 0 h3 fun g4 h5 => F_follow_Best_l0 F_follow_counts_best R R (some ⟨g2, 0, none⟩) (some ⟨g4, 0, none⟩) 0 a1 ((a1.n : Nat) : Int) 0 h5 (fun w23 w24 h25 => gnew Z28 0 h25 fun g26 h27 => F_follow_Best_l1 F_follow_counts_best R R w23 w24 (some ⟨g26, 0, none⟩) 0 h27 (fun w41 w42 h43 => exA w42 fun g44 o45 => exL (nsub (rowCells (h43.look g44)) (o45) 256) fun x46 => (bif Nat.beq (x46).length 256 then exA w41 fun g47 o48 => gput g47 (o48) x46 h43 fun h49 => exA w41 fun g50 o51 => exL (nsub (rowCells (h49.look g50)) (o51) 256) fun x52 => (bif Nat.beq (x52).length 256 then K x52 h49 else none) else none))) := by kernel_rfl
noncomputable def F_follow_Best (R : Nat) (a1 : Sl) (h : GH) (K : List Value → GH → Option β) : Option β := G_follow_Best (F_follow_counts_best R) R a1 h K
set_option maxRecDepth 100000 in
theorem CF_follow_Best_sim {R : Nat} : SimOrc Try.prog (CF_follow_Best (F_follow_counts_best R) (β := β)) := by
  intro f args h K r hc
  unfold CF_follow_Best at hc
  cases hb : Nat.beq f 16 with
  | true =>
    rw [hb] at hc
    simp only [cond_true] at hc
    obtain rfl := Nat.eq_of_beq_eq_true hb
    split at hc
    · exact any_call (F_follow_counts_best_sim (K := K) hc)
    · cases hc
  | false =>
  rw [hb] at hc
  simp only [cond_false] at hc
  cases hc
set_option maxRecDepth 100000 in
theorem F_follow_Best_sim {R : Nat} {r : β} {a1 : Sl} {h : GH} {K : Value → GH → Option β} (hc : F_follow_Best R a1 h (fun q0 h' => K (Value.agg (q0).toArray) h') = some r) : ∃ v h', K v h' = some r ∧ CallSim Try.prog 8 [Value.slice a1.a a1.n a1.c] h v h' := by
  unfold F_follow_Best G_follow_Best at hc
  obtain ⟨v, h', hk, hs⟩ := gfun_sim (CF_follow_Best_sim (R := R)) mixed_ok (fun f h => by cases h) Try.func8 (by kernel_rfl) hc
  obtain ⟨cs0, f0, hk⟩ := exAg_v hk; cases f0; obtain ⟨hl0, hk⟩ := beq_v hk
  exact ⟨_, h', hk, hs⟩
/-! F7 duffel/duffellaw12.plain -/
def CF_law12_plain  : Orc β := fun f args h K => none
def HF_law12_plain : Hints := ⟨[(3, [1, 3, 4], [(0, [(3, .ty 25)])], none)], [], []⟩
noncomputable def BF_law12_plain : Code := match Try.f7.body with | some c => c | none => .skip
noncomputable def F_law12_plain_l0  (R : Nat) (n : Nat) (y6 : Option Addr) (y7 : Option Addr) (y8 : Int) (h : GH) (K0 : Option Addr → GH → Option β) : Option β := gloop (gcode Try.prog (CF_law12_plain ) Try.f7.ntmps HF_law12_plain R (at_ [true, true, false, true, false, false] BF_law12_plain)) [1, 3, 4] n [(1, Value.pointer y6), (3, Value.pointer y7), (4, Value.int .i64 y8)] h (fun i e' h' => bif Nat.beq i 0 then (exP (some (e'.get 3)) fun u19 => K0 u19 h') else none) (fun e' h' => none)
set_option maxRecDepth 100000 in
theorem F_law12_plain_l0_succ  (R : Nat) (n : Nat) (y6 : Option Addr) (y7 : Option Addr) (y8 : Int) (h : GH) (K0 : Option Addr → GH → Option β) : F_law12_plain_l0  R (n + 1) y6 y7 y8 h K0 =
    (bif decide (y8 < 256) then exA y6 fun g10 o11 => within y8 256 (exS (h.cell ⟨g10, o11 + y8.toNat * 1, none⟩) fun x12 => exA y7 fun g13 o14 => within y8 256 (gput g13 (o14 + y8.toNat * 1) [Value.slice x12.a x12.n x12.c] h fun h15 => F_law12_plain_l0 R n y6 y7 (IntKind.wrap .i64 (y8 + 1)) h15 K0)) else K0 y7 h) := by kernel_rfl
noncomputable def G_law12_plain  (R : Nat) (a1 : List Value) (h : GH) (K : Option Addr → GH → Option β) : Option β := gfun Try.prog (CF_law12_plain ) HF_law12_plain R Try.f7 [Value.agg (a1).toArray] h (fun v h' => exP (some v) fun u20 => K u20 h')
set_option maxRecDepth 100000 in
theorem F_law12_plain_gen  (R : Nat) (a1 : List Value) (h : GH) (K : Option Addr → GH → Option β) : G_law12_plain  R a1 h K =
    gnew a1 0 h fun g2 h3 => gnew [Value.slice none 0 0, Value.slice none 0 0, Value.slice none 0 0, Value.slice none 0 0, Value.slice none 0 0, Value.slice none 0 0, Value.slice none 0 0, Value.slice none 0 0, Value.slice none 0 0, Value.slice none 0 0, Value.slice none 0 0, Value.slice none 0 0, Value.slice none 0 0, Value.slice none 0 0, Value.slice none 0 0, Value.slice none 0 0, Value.slice none 0 0, Value.slice none 0 0, Value.slice none 0 0, Value.slice none 0 0, Value.slice none 0 0, Value.slice none 0 0, Value.slice none 0 0, Value.slice none 0 0, Value.slice none 0 0, Value.slice none 0 0, Value.slice none 0 0, Value.slice none 0 0, Value.slice none 0 0, Value.slice none 0 0, Value.slice none 0 0, Value.slice none 0 0, Value.slice none 0 0, Value.slice none 0 0, Value.slice none 0 0, Value.slice none 0 0, Value.slice none 0 0, Value.slice none 0 0, Value.slice none 0 0, Value.slice none 0 0, Value.slice none 0 0, Value.slice none 0 0, Value.slice none 0 0, Value.slice none 0 0, Value.slice none 0 0, Value.slice none 0 0, Value.slice none 0 0, Value.slice none 0 0, Value.slice none 0 0, Value.slice none 0 0, Value.slice none 0 0, Value.slice none 0 0, Value.slice none 0 0, Value.slice none 0 0, Value.slice none 0 0, Value.slice none 0 0, Value.slice none 0 0, Value.slice none 0 0, Value.slice none 0 0, Value.slice none 0 0, Value.slice none 0 0, Value.slice none 0 0, Value.slice none 0 0, Value.slice none 0 0, Value.slice none 0 0, Value.slice none 0 0, Value.slice none 0 0, Value.slice none 0 0, Value.slice none 0 0, Value.slice none 0 0, Value.slice none 0 0, Value.slice none 0 0, Value.slice none 0 0, Value.slice none 0 0, Value.slice none 0 0, Value.slice none 0 0, Value.slice none 0 0, Value.slice none 0 0, Value.slice none 0 0, Value.slice none 0 0, Value.slice none 0 0, Value.slice none 0 0, Value.slice none 0 0, Value.slice none 0 0, Value.slice none 0 0, Value.slice none 0 0, Value.slice none 0 0, Value.slice none 0 0, Value.slice none 0 0, Value.slice none 0 0, Value.slice none 0 0, Value.slice none 0 0, Value.slice none 0 0, Value.slice none 0 0, Value.slice none 0 0, Value.slice none 0 0, Value.slice none 0 0, Value.slice none 0 0, Value.slice none 0 0, Value.slice none 0 0, Value.slice none 0 0, Value.slice none 0 0, Value.slice none 0 0, Value.slice none 0 0, Value.slice none 0 0, Value.slice none 0 0, Value.slice none 0 0, Value.slice none 0 0, Value.slice none 0 0, Value.slice none 0 0, Value.slice none 0 0, Value.slice none 0 0, Value.slice none 0 0, Value.slice none 0 0, Value.slice none 0 0, Value.slice none 0 0, Value.slice none 0 0, Value.slice none 0 0, Value.slice none 0 0, Value.slice none 0 0, Value.slice none 0 0, Value.slice none 0 0, Value.slice none 0 0, Value.slice none 0 0, Value.slice none 0 0, Value.slice none 0 0, Value.slice none 0 0, Value.slice none 0 0, Value.slice none 0 0, Value.slice none 0 0, Value.slice none 0 0, Value.slice none 0 0, Value.slice none 0 0, Value.slice none 0 0, Value.slice none 0 0, Value.slice none 0 0, Value.slice none 0 0, Value.slice none 0 0, Value.slice none 0 0, Value.slice none 0 0, Value.slice none 0 0, Value.slice none 0 0, Value.slice none 0 0, Value.slice none 0 0, Value.slice none 0 0, Value.slice none 0 0, Value.slice none 0 0, Value.slice none 0 0, Value.slice none 0 0, Value.slice none 0 0, Value.slice none 0 0, Value.slice none 0 0, Value.slice none 0 0, Value.slice none 0 0, Value.slice none 0 0, Value.slice none 0 0, Value.slice none 0 0, Value.slice none 0 0, Value.slice none 0 0, Value.slice none 0 0, Value.slice none 0 0, Value.slice none 0 0, Value.slice none 0 0, Value.slice none 0 0, Value.slice none 0 0, Value.slice none 0 0, Value.slice none 0 0, Value.slice none 0 0, Value.slice none 0 0, Value.slice none 0 0, Value.slice none 0 0, Value.slice none 0 0, Value.slice none 0 0, Value.slice none 0 0, Value.slice none 0 0, Value.slice none 0 0, Value.slice none 0 0, Value.slice none 0 0, Value.slice none 0 0, Value.slice none 0 0, Value.slice none 0 0, Value.slice none 0 0, Value.slice none 0 0, Value.slice none 0 0, Value.slice none 0 0, Value.slice none 0 0, Value.slice none 0 0, Value.slice none 0 0, Value.slice none 0 0, Value.slice none 0 0, Value.slice none 0 0, Value.slice none 0 0, Value.slice none 0 0, Value.slice none 0 0, Value.slice none 0 0, Value.slice none 0 0, Value.slice none 0 0, Value.slice none 0 0, Value.slice none 0 0, Value.slice none 0 0, Value.slice none 0 0, Value.slice none 0 0, Value.slice none 0 0, Value.slice none 0 0, Value.slice none 0 0, Value.slice none 0 0, Value.slice none 0 0, Value.slice none 0 0, Value.slice none 0 0, Value.slice none 0 0, Value.slice none 0 0, Value.slice none 0 0, Value.slice none 0 0, Value.slice none 0 0, Value.slice none 0 0, Value.slice none 0 0, Value.slice none 0 0, Value.slice none 0 0, Value.slice none 0 0, Value.slice none 0 0, Value.slice none 0 0, Value.slice none 0 0, Value.slice none 0 0, Value.slice none 0 0, Value.slice none 0 0, Value.slice none 0 0, Value.slice none 0 0, Value.slice none 0 0, Value.slice none 0 0, Value.slice none 0 0, Value.slice none 0 0, Value.slice none 0 0, Value.slice none 0 0, Value.slice none 0 0, Value.slice none 0 0, Value.slice none 0 0, Value.slice none 0 0, Value.slice none 0 0, Value.slice none 0 0, Value.slice none 0 0, Value.slice none 0 0, Value.slice none 0 0, Value.slice none 0 0, Value.slice none 0 0, Value.slice none 0 0, Value.slice none 0 0, Value.slice none 0 0, Value.slice none 0 0, Value.slice none 0 0, Value.slice none 0 0, Value.slice none 0 0, Value.slice none 0 0, Value.slice none 0 0, Value.slice none 0 0, Value.slice none 0 0, Value.slice none 0 0] 0 h3 fun g4 h5 => F_law12_plain_l0 R R (some ⟨g2, 0, none⟩) (some ⟨g4, 0, none⟩) 0 h5 (fun w16 h17 => K w16 h17) := by kernel_rfl
noncomputable def F_law12_plain (R : Nat) (a1 : List Value) (h : GH) (K : Option Addr → GH → Option β) : Option β := G_law12_plain  R a1 h K
theorem CF_law12_plain_sim : SimOrc Try.prog (CF_law12_plain (β := β)) := by
  intro f args h K r hc
  cases hc
set_option maxRecDepth 100000 in
theorem F_law12_plain_sim {R : Nat} {r : β} {a1 : List Value} {h : GH} {K : Value → GH → Option β} (hc : F_law12_plain R a1 h (fun q0 h' => K (Value.pointer q0) h') = some r) : ∃ v h', K v h' = some r ∧ CallSim Try.prog 7 [Value.agg (a1).toArray] h v h' := by
  unfold F_law12_plain G_law12_plain at hc
  obtain ⟨v, h', hk, hs⟩ := gfun_sim CF_law12_plain_sim mixed_ok (fun f h => by cases h) Try.func7 (by kernel_rfl) hc
  obtain ⟨u0, e0, hk⟩ := exP_v hk; cases e0
  exact ⟨_, h', hk, hs⟩
/-! F23 duffel/duffelref12.behind -/
def CF_ref12_behind  : Orc β := fun f args h K => none
def HF_ref12_behind : Hints := ⟨[(4, [0, 1, 4, 5, 6, 7], [(0, [(4, .ty 15), (5, .ty 15)])], none)], [], []⟩
noncomputable def BF_ref12_behind : Code := match Try.f23.body with | some c => c | none => .skip
noncomputable def F_ref12_behind_l0  (R : Nat) (n : Nat) (y7 : Sl) (y8 : Int) (y9 : Option Addr) (y10 : Option Addr) (y11 : Int) (y12 : Int) (h : GH) (K0 : Option Addr → Option Addr → GH → Option β) : Option β := gloop (gcode Try.prog (CF_ref12_behind ) Try.f23.ntmps HF_ref12_behind R (at_ [true, true, true, false, true, false, false] BF_ref12_behind)) [0, 1, 4, 5, 6, 7] n [(0, Value.slice y7.a y7.n y7.c), (1, Value.int .u8 y8), (4, Value.pointer y9), (5, Value.pointer y10), (6, Value.int .u8 y11), (7, Value.int .i64 y12)] h (fun i e' h' => bif Nat.beq i 0 then (exP (some (e'.get 4)) fun u46 => exP (some (e'.get 5)) fun u47 => K0 u46 u47 h') else none) (fun e' h' => none)
set_option maxRecDepth 100000 in
theorem F_ref12_behind_l0_succ  (R : Nat) (n : Nat) (y7 : Sl) (y8 : Int) (y9 : Option Addr) (y10 : Option Addr) (y11 : Int) (y12 : Int) (h : GH) (K0 : Option Addr → Option Addr → GH → Option β) : F_ref12_behind_l0  R (n + 1) y7 y8 y9 y10 y11 y12 h K0 =
    (bif decide (y12 < ((y7.n : Nat) : Int)) then (bif y11 == y8 then exA y7.a fun g15 o16 => within y12 y7.n (exI .u8 (h.cell ⟨g15, o16 + y12.toNat * 1, none⟩) fun x17 => exA y7.a fun g18 o19 => within y12 y7.n (exI .u8 (h.cell ⟨g18, o19 + y12.toNat * 1, none⟩) fun x20 => exA y10 fun g21 o22 => within x20 256 (exI .i64 (h.cell ⟨g21, o22 + x20.toNat * 1, none⟩) fun x23 => exA y10 fun g24 o25 => within x17 256 (gput g24 (o25 + x17.toNat * 1) [Value.int .i64 (IntKind.wrap .i64 (x23 + 1))] h fun h26 => exA y7.a fun g27 o28 => within y12 y7.n (exI .u8 (h26.cell ⟨g27, o28 + y12.toNat * 1, none⟩) fun x29 => F_ref12_behind_l0 R n y7 y8 y9 y10 x29 (IntKind.wrap .i64 (y12 + 1)) h26 K0))))) else exA y7.a fun g30 o31 => within y12 y7.n (exI .u8 (h.cell ⟨g30, o31 + y12.toNat * 1, none⟩) fun x32 => F_ref12_behind_l0 R n y7 y8 y9 y10 x32 (IntKind.wrap .i64 (y12 + 1)) h K0)) else K0 y9 y10 h) := by kernel_rfl
noncomputable def G_ref12_behind  (R : Nat) (a1 : Sl) (a2 : Int) (h : GH) (K : List Value → GH → Option β) : Option β := gfun Try.prog (CF_ref12_behind ) HF_ref12_behind R Try.f23 [Value.slice a1.a a1.n a1.c, Value.int .u8 a2] h (fun v h' => exAg v fun c48 => (bif Nat.beq c48.length 256 then K c48 h' else none))
set_option maxRecDepth 100000 in
theorem F_ref12_behind_gen  (R : Nat) (a1 : Sl) (a2 : Int) (h : GH) (K : List Value → GH → Option β) : G_ref12_behind  R a1 a2 h K =
    gnew Z40 0 h fun g3 h4 => gnew Z40 0 h4 fun g5 h6 => F_ref12_behind_l0 R R a1 a2 (some ⟨g3, 0, none⟩) (some ⟨g5, 0, none⟩) 0 0 h6 (fun w33 w34 h35 => exA w34 fun g36 o37 => exL (nsub (rowCells (h35.look g36)) (o37) 256) fun x38 => (bif Nat.beq (x38).length 256 then exA w33 fun g39 o40 => gput g39 (o40) x38 h35 fun h41 => exA w33 fun g42 o43 => exL (nsub (rowCells (h41.look g42)) (o43) 256) fun x44 => (bif Nat.beq (x44).length 256 then K x44 h41 else none) else none)) := by kernel_rfl
noncomputable def F_ref12_behind (R : Nat) (a1 : Sl) (a2 : Int) (h : GH) (K : List Value → GH → Option β) : Option β := G_ref12_behind  R a1 a2 h K
theorem CF_ref12_behind_sim : SimOrc Try.prog (CF_ref12_behind (β := β)) := by
  intro f args h K r hc
  cases hc
set_option maxRecDepth 100000 in
theorem F_ref12_behind_sim {R : Nat} {r : β} {a1 : Sl} {a2 : Int} {h : GH} {K : Value → GH → Option β} (hc : F_ref12_behind R a1 a2 h (fun q0 h' => K (Value.agg (q0).toArray) h') = some r) : ∃ v h', K v h' = some r ∧ CallSim Try.prog 23 [Value.slice a1.a a1.n a1.c, Value.int .u8 a2] h v h' := by
  unfold F_ref12_behind G_ref12_behind at hc
  obtain ⟨v, h', hk, hs⟩ := gfun_sim CF_ref12_behind_sim mixed_ok (fun f h => by cases h) Try.func23 (by kernel_rfl) hc
  obtain ⟨cs0, f0, hk⟩ := exAg_v hk; cases f0; obtain ⟨hl0, hk⟩ := beq_v hk
  exact ⟨_, h', hk, hs⟩
/-! F24 duffel/duffelref12.at -/
def CF_ref12_at  : Orc β := fun f args h K => none
def HF_ref12_at : Hints := ⟨[(2, [0, 1, 5], [(0, [])], some [(4, .ty 3)])], [], []⟩
noncomputable def BF_ref12_at : Code := match Try.f24.body with | some c => c | none => .skip
noncomputable def F_ref12_at_l0  (R : Nat) (n : Nat) (y3 : Sl) (y4 : Int) (y5 : Int) (h : GH) (K0 : GH → Option β) (Kr : Int → GH → Option β) : Option β := gloop (gcode Try.prog (CF_ref12_at ) Try.f24.ntmps HF_ref12_at R (at_ [true, false, true, false, false] BF_ref12_at)) [0, 1, 5] n [(0, Value.slice y3.a y3.n y3.c), (1, Value.int .u8 y4), (5, Value.int .i64 y5)] h (fun i e' h' => bif Nat.beq i 0 then (K0 h') else none) (fun e' h' => exI .i64 (some (e'.get 4)) fun u14 => Kr u14 h')
set_option maxRecDepth 100000 in
theorem F_ref12_at_l0_succ  (R : Nat) (n : Nat) (y3 : Sl) (y4 : Int) (y5 : Int) (h : GH) (K0 : GH → Option β) (Kr : Int → GH → Option β) : F_ref12_at_l0  R (n + 1) y3 y4 y5 h K0 Kr =
    (bif decide (y5 < ((y3.n : Nat) : Int)) then exA y3.a fun g7 o8 => within y5 y3.n (exI .u8 (h.cell ⟨g7, o8 + y5.toNat * 1, none⟩) fun x9 => (bif x9 == y4 then Kr y5 h else F_ref12_at_l0 R n y3 y4 (IntKind.wrap .i64 (y5 + 1)) h K0 Kr)) else K0 h) := by kernel_rfl
noncomputable def G_ref12_at  (R : Nat) (a1 : Sl) (a2 : Int) (h : GH) (K : Int → GH → Option β) : Option β := gfun Try.prog (CF_ref12_at ) HF_ref12_at R Try.f24 [Value.slice a1.a a1.n a1.c, Value.int .u8 a2] h (fun v h' => exI .i64 (some v) fun u15 => K u15 h')
set_option maxRecDepth 100000 in
theorem F_ref12_at_gen  (R : Nat) (a1 : Sl) (a2 : Int) (h : GH) (K : Int → GH → Option β) : G_ref12_at  R a1 a2 h K =
    F_ref12_at_l0 R R a1 a2 0 h (fun h10 => K (-1) h10) (fun w11 h12 => K w11 h12) := by kernel_rfl
noncomputable def F_ref12_at (R : Nat) (a1 : Sl) (a2 : Int) (h : GH) (K : Int → GH → Option β) : Option β := G_ref12_at  R a1 a2 h K
theorem CF_ref12_at_sim : SimOrc Try.prog (CF_ref12_at (β := β)) := by
  intro f args h K r hc
  cases hc
set_option maxRecDepth 100000 in
theorem F_ref12_at_sim {R : Nat} {r : β} {a1 : Sl} {a2 : Int} {h : GH} {K : Value → GH → Option β} (hc : F_ref12_at R a1 a2 h (fun q0 h' => K (Value.int .i64 q0) h') = some r) : ∃ v h', K v h' = some r ∧ CallSim Try.prog 24 [Value.slice a1.a a1.n a1.c, Value.int .u8 a2] h v h' := by
  unfold F_ref12_at G_ref12_at at hc
  obtain ⟨v, h', hk, hs⟩ := gfun_sim CF_ref12_at_sim mixed_ok (fun f h => by cases h) Try.func24 (by kernel_rfl) hc
  obtain ⟨u0, e0, hk⟩ := exI_v hk; cases e0
  exact ⟨_, h', hk, hs⟩
/-! F31 duffel/duffelref12.Width -/
def CF_ref12_Width  : Orc β := fun f args h K => none
def HF_ref12_Width : Hints := ⟨[(4, [0, 3, 4], [(0, [(3, .ty 3)])], none)], [], []⟩
noncomputable def BF_ref12_Width : Code := match Try.f31.body with | some c => c | none => .skip
noncomputable def F_ref12_Width_l0  (R : Nat) (n : Nat) (y2 : Int) (y3 : Int) (y4 : Int) (h : GH) (K0 : Int → GH → Option β) : Option β := gloop (gcode Try.prog (CF_ref12_Width ) Try.f31.ntmps HF_ref12_Width R (at_ [true, true, true, false, false, false] BF_ref12_Width)) [0, 3, 4] n [(0, Value.int .i64 y2), (3, Value.int .i64 y3), (4, Value.int .i64 y4)] h (fun i e' h' => bif Nat.beq i 0 then (exI .i64 (some (e'.get 3)) fun u9 => K0 u9 h') else none) (fun e' h' => none)
set_option maxRecDepth 100000 in
theorem F_ref12_Width_l0_succ  (R : Nat) (n : Nat) (y2 : Int) (y3 : Int) (y4 : Int) (h : GH) (K0 : Int → GH → Option β) : F_ref12_Width_l0  R (n + 1) y2 y3 y4 h K0 =
    (bif decide (y4 < y2) then F_ref12_Width_l0 R n y2 (IntKind.wrap .i64 (y3 + 1)) (IntKind.wrap .i64 (y4 * 2)) h K0 else K0 y3 h) := by kernel_rfl
noncomputable def G_ref12_Width  (R : Nat) (a1 : Int) (h : GH) (K : Int → GH → Option β) : Option β := gfun Try.prog (CF_ref12_Width ) HF_ref12_Width R Try.f31 [Value.int .i64 a1] h (fun v h' => exI .i64 (some v) fun u10 => K u10 h')
set_option maxRecDepth 100000 in
theorem F_ref12_Width_gen  (R : Nat) (a1 : Int) (h : GH) (K : Int → GH → Option β) : G_ref12_Width  R a1 h K =
    (bif decide (a1 < 1) then K 0 h else (bif decide (a1 > 32) then K 0 h else F_ref12_Width_l0 R R a1 1 2 h (fun w6 h7 => K w6 h7))) := by kernel_rfl
noncomputable def F_ref12_Width (R : Nat) (a1 : Int) (h : GH) (K : Int → GH → Option β) : Option β := G_ref12_Width  R a1 h K
theorem CF_ref12_Width_sim : SimOrc Try.prog (CF_ref12_Width (β := β)) := by
  intro f args h K r hc
  cases hc
set_option maxRecDepth 100000 in
theorem F_ref12_Width_sim {R : Nat} {r : β} {a1 : Int} {h : GH} {K : Value → GH → Option β} (hc : F_ref12_Width R a1 h (fun q0 h' => K (Value.int .i64 q0) h') = some r) : ∃ v h', K v h' = some r ∧ CallSim Try.prog 31 [Value.int .i64 a1] h v h' := by
  unfold F_ref12_Width G_ref12_Width at hc
  obtain ⟨v, h', hk, hs⟩ := gfun_sim CF_ref12_Width_sim mixed_ok (fun f h => by cases h) Try.func31 (by kernel_rfl) hc
  obtain ⟨u0, e0, hk⟩ := exI_v hk; cases e0
  exact ⟨_, h', hk, hs⟩
/-! F25 duffel/duffelref12.Cost -/
def CF_ref12_Cost (F_ref12_at : Sl → Int → GH → (Int → GH → Option β) → Option β) (F_ref12_Width : Int → GH → (Int → GH → Option β) → Option β) : Orc β := fun f args h K => bif Nat.beq f 24 then (match args with | [.slice p1a p1n p1c, .int .u8 p2] => F_ref12_at ⟨p1a, p1n, p1c⟩ p2 h (fun q13 h' => K (Value.int .i64 q13) h') | _ => none) else (bif Nat.beq f 31 then (match args with | [.int .i64 p1] => F_ref12_Width p1 h (fun q8 h' => K (Value.int .i64 q8) h') | _ => none) else none)
def HF_ref12_Cost : Hints := ⟨[(3, [1, 2, 5, 6], [(0, [(5, .ty 3)])], none)], [], []⟩
noncomputable def BF_ref12_Cost : Code := match Try.f25.body with | some c => c | none => .skip
noncomputable def F_ref12_Cost_l0 (F_ref12_at : Sl → Int → GH → (Int → GH → Option β) → Option β) (F_ref12_Width : Int → GH → (Int → GH → Option β) → Option β) (R : Nat) (n : Nat) (y5 : Sl) (y6 : Option Addr) (y7 : Int) (y8 : Int) (h : GH) (K0 : Int → GH → Option β) : Option β := gloop (gcode Try.prog (CF_ref12_Cost F_ref12_at F_ref12_Width) Try.f25.ntmps HF_ref12_Cost R (at_ [true, true, false, true, false, false] BF_ref12_Cost)) [1, 2, 5, 6] n [(1, Value.slice y5.a y5.n y5.c), (2, Value.pointer y6), (5, Value.int .i64 y7), (6, Value.int .i64 y8)] h (fun i e' h' => bif Nat.beq i 0 then (exI .i64 (some (e'.get 5)) fun u26 => K0 u26 h') else none) (fun e' h' => none)
set_option maxRecDepth 100000 in
theorem F_ref12_Cost_l0_succ (F_ref12_at : Sl → Int → GH → (Int → GH → Option β) → Option β) (F_ref12_Width : Int → GH → (Int → GH → Option β) → Option β) (R : Nat) (n : Nat) (y5 : Sl) (y6 : Option Addr) (y7 : Int) (y8 : Int) (h : GH) (K0 : Int → GH → Option β) : F_ref12_Cost_l0 F_ref12_at F_ref12_Width R (n + 1) y5 y6 y7 y8 h K0 =
    (bif decide (y8 < 256) then (bif ((y5.n : Nat) : Int) == 0 then exA y6 fun g10 o11 => within y8 256 (exI .i64 (h.cell ⟨g10, o11 + y8.toNat * 1, none⟩) fun x12 => F_ref12_Cost_l0 F_ref12_at F_ref12_Width R n y5 y6 (IntKind.wrap .i64 (y7 + (IntKind.wrap .i64 (8 * x12)))) (IntKind.wrap .i64 (y8 + 1)) h K0) else F_ref12_at y5 (IntKind.wrap .u8 y8) h fun r13 h14 => (bif decide (r13 ≥ 0) then exA y6 fun g15 o16 => within y8 256 (exI .i64 (h14.cell ⟨g15, o16 + y8.toNat * 1, none⟩) fun x17 => F_ref12_Width ((y5.n : Nat) : Int) h14 fun r18 h19 => (bif sameAt g15 (o16 + y8.toNat * 1) 1 h14 h19 then F_ref12_Cost_l0 F_ref12_at F_ref12_Width R n y5 y6 (IntKind.wrap .i64 (y7 + (IntKind.wrap .i64 (x17 * (IntKind.wrap .i64 (1 + r18)))))) (IntKind.wrap .i64 (y8 + 1)) h19 K0 else none)) else exA y6 fun g20 o21 => within y8 256 (exI .i64 (h14.cell ⟨g20, o21 + y8.toNat * 1, none⟩) fun x22 => F_ref12_Cost_l0 F_ref12_at F_ref12_Width R n y5 y6 (IntKind.wrap .i64 (y7 + (IntKind.wrap .i64 (9 * x22)))) (IntKind.wrap .i64 (y8 + 1)) h14 K0))) else K0 y7 h) := by kernel_rfl
noncomputable def G_ref12_Cost (F_ref12_at : Sl → Int → GH → (Int → GH → Option β) → Option β) (F_ref12_Width : Int → GH → (Int → GH → Option β) → Option β) (R : Nat) (a1 : List Value) (a2 : Sl) (h : GH) (K : Int → GH → Option β) : Option β := gfun Try.prog (CF_ref12_Cost F_ref12_at F_ref12_Width) HF_ref12_Cost R Try.f25 [Value.agg (a1).toArray, Value.slice a2.a a2.n a2.c] h (fun v h' => exI .i64 (some v) fun u27 => K u27 h')
set_option maxRecDepth 100000 in
theorem F_ref12_Cost_gen (F_ref12_at : Sl → Int → GH → (Int → GH → Option β) → Option β) (F_ref12_Width : Int → GH → (Int → GH → Option β) → Option β) (R : Nat) (a1 : List Value) (a2 : Sl) (h : GH) (K : Int → GH → Option β) : G_ref12_Cost F_ref12_at F_ref12_Width R a1 a2 h K =
    gnew a1 0 h fun g3 h4 => F_ref12_Cost_l0 F_ref12_at F_ref12_Width R R a2 (some ⟨g3, 0, none⟩) (IntKind.wrap .i64 (8 * ((a2.n : Nat) : Int))) 0 h4 (fun w23 h24 => K w23 h24) := by kernel_rfl
noncomputable def F_ref12_Cost (R : Nat) (a1 : List Value) (a2 : Sl) (h : GH) (K : Int → GH → Option β) : Option β := G_ref12_Cost (F_ref12_at R) (F_ref12_Width R) R a1 a2 h K
set_option maxRecDepth 100000 in
theorem CF_ref12_Cost_sim {R : Nat} : SimOrc Try.prog (CF_ref12_Cost (F_ref12_at R) (F_ref12_Width R) (β := β)) := by
  intro f args h K r hc
  unfold CF_ref12_Cost at hc
  cases hb : Nat.beq f 24 with
  | true =>
    rw [hb] at hc
    simp only [cond_true] at hc
    obtain rfl := Nat.eq_of_beq_eq_true hb
    split at hc
    · exact any_call (F_ref12_at_sim (K := K) hc)
    · cases hc
  | false =>
  rw [hb] at hc
  simp only [cond_false] at hc
  cases hb : Nat.beq f 31 with
  | true =>
    rw [hb] at hc
    simp only [cond_true] at hc
    obtain rfl := Nat.eq_of_beq_eq_true hb
    split at hc
    · exact any_call (F_ref12_Width_sim (K := K) hc)
    · cases hc
  | false =>
  rw [hb] at hc
  simp only [cond_false] at hc
  cases hc
set_option maxRecDepth 100000 in
theorem F_ref12_Cost_sim {R : Nat} {r : β} {a1 : List Value} {a2 : Sl} {h : GH} {K : Value → GH → Option β} (hc : F_ref12_Cost R a1 a2 h (fun q0 h' => K (Value.int .i64 q0) h') = some r) : ∃ v h', K v h' = some r ∧ CallSim Try.prog 25 [Value.agg (a1).toArray, Value.slice a2.a a2.n a2.c] h v h' := by
  unfold F_ref12_Cost G_ref12_Cost at hc
  obtain ⟨v, h', hk, hs⟩ := gfun_sim (CF_ref12_Cost_sim (R := R)) mixed_ok (fun f h => by cases h) Try.func25 (by kernel_rfl) hc
  obtain ⟨u0, e0, hk⟩ := exI_v hk; cases e0
  exact ⟨_, h', hk, hs⟩
/-! F17 duffel/duffelref12.One -/
def CF_ref12_One (F_ref12_behind : Sl → Int → GH → (List Value → GH → Option β) → Option β) (F_ref12_at : Sl → Int → GH → (Int → GH → Option β) → Option β) (F_ref12_Cost : List Value → Sl → GH → (Int → GH → Option β) → Option β) : Orc β := fun f args h K => bif Nat.beq f 23 then (match args with | [.slice p1a p1n p1c, .int .u8 p2] => F_ref12_behind ⟨p1a, p1n, p1c⟩ p2 h (fun q45 h' => K (Value.agg (q45).toArray) h') | _ => none) else (bif Nat.beq f 24 then (match args with | [.slice p1a p1n p1c, .int .u8 p2] => F_ref12_at ⟨p1a, p1n, p1c⟩ p2 h (fun q13 h' => K (Value.int .i64 q13) h') | _ => none) else (bif Nat.beq f 25 then (match args with | [.agg ⟨p1⟩, .slice p2a p2n p2c] => F_ref12_Cost p1 ⟨p2a, p2n, p2c⟩ h (fun q25 h' => K (Value.int .i64 q25) h') | _ => none) else none))
def HF_ref12_One : Hints := ⟨[(4, [5, 6, 7], [(0, [(5, .ty 15), (6, .ty 22)])], none), (8, [5, 6, 7, 8, 9], [(2, [(5, .ty 15), (6, .ty 22), (7, .ty 3), (8, .ty 3)])], none), (16, [5, 6, 10, 11], [(4, [(6, .ty 22), (10, .ty 3)])], none)], [], []⟩
noncomputable def BF_ref12_One : Code := match Try.f17.body with | some c => c | none => .skip
noncomputable def F_ref12_One_l0 (F_ref12_behind : Sl → Int → GH → (List Value → GH → Option β) → Option β) (F_ref12_at : Sl → Int → GH → (Int → GH → Option β) → Option β) (F_ref12_Cost : List Value → Sl → GH → (Int → GH → Option β) → Option β) (R : Nat) (n : Nat) (y8 : Option Addr) (y9 : Sl) (y10 : Int) (h : GH) (K0 : Option Addr → Sl → GH → Option β) : Option β := gloop (gcode Try.prog (CF_ref12_One F_ref12_behind F_ref12_at F_ref12_Cost) Try.f17.ntmps HF_ref12_One R (at_ [true, true, true, false, true, false, false] BF_ref12_One)) [5, 6, 7] n [(5, Value.pointer y8), (6, Value.slice y9.a y9.n y9.c), (7, Value.int .i64 y10)] h (fun i e' h' => bif Nat.beq i 0 then (exP (some (e'.get 5)) fun u70 => exS (some (e'.get 6)) fun u71 => K0 u70 u71 h') else none) (fun e' h' => none)
noncomputable def F_ref12_One_l1 (F_ref12_behind : Sl → Int → GH → (List Value → GH → Option β) → Option β) (F_ref12_at : Sl → Int → GH → (Int → GH → Option β) → Option β) (F_ref12_Cost : List Value → Sl → GH → (Int → GH → Option β) → Option β) (R : Nat) (n : Nat) (y13 : Option Addr) (y14 : Sl) (y15 : Int) (y16 : Int) (y17 : Int) (h : GH) (K2 : Option Addr → Sl → Int → Int → GH → Option β) : Option β := gloop (gcode Try.prog (CF_ref12_One F_ref12_behind F_ref12_at F_ref12_Cost) Try.f17.ntmps HF_ref12_One R (at_ [true, true, true, false, true, false, false, true, false, false, true, false, true, false, false] BF_ref12_One)) [5, 6, 7, 8, 9] n [(5, Value.pointer y13), (6, Value.slice y14.a y14.n y14.c), (7, Value.int .i64 y15), (8, Value.int .i64 y16), (9, Value.int .i64 y17)] h (fun i e' h' => bif Nat.beq i 2 then (exP (some (e'.get 5)) fun u72 => exS (some (e'.get 6)) fun u73 => exI .i64 (some (e'.get 7)) fun u74 => exI .i64 (some (e'.get 8)) fun u75 => K2 u72 u73 u74 u75 h') else none) (fun e' h' => none)
noncomputable def F_ref12_One_l2 (F_ref12_behind : Sl → Int → GH → (List Value → GH → Option β) → Option β) (F_ref12_at : Sl → Int → GH → (Int → GH → Option β) → Option β) (F_ref12_Cost : List Value → Sl → GH → (Int → GH → Option β) → Option β) (R : Nat) (n : Nat) (y45 : Option Addr) (y46 : Sl) (y47 : Int) (y48 : Int) (h : GH) (K4 : Sl → Int → GH → Option β) : Option β := gloop (gcode Try.prog (CF_ref12_One F_ref12_behind F_ref12_at F_ref12_Cost) Try.f17.ntmps HF_ref12_One R (at_ [true, true, true, true, true, false, true, false, false] BF_ref12_One)) [5, 6, 10, 11] n [(5, Value.pointer y45), (6, Value.slice y46.a y46.n y46.c), (10, Value.int .i64 y47), (11, Value.int .i64 y48)] h (fun i e' h' => bif Nat.beq i 4 then (exS (some (e'.get 6)) fun u76 => exI .i64 (some (e'.get 10)) fun u77 => K4 u76 u77 h') else none) (fun e' h' => none)
set_option maxRecDepth 100000 in
theorem F_ref12_One_l2_succ (F_ref12_behind : Sl → Int → GH → (List Value → GH → Option β) → Option β) (F_ref12_at : Sl → Int → GH → (Int → GH → Option β) → Option β) (F_ref12_Cost : List Value → Sl → GH → (Int → GH → Option β) → Option β) (R : Nat) (n : Nat) (y45 : Option Addr) (y46 : Sl) (y47 : Int) (y48 : Int) (h : GH) (K4 : Sl → Int → GH → Option β) : F_ref12_One_l2 F_ref12_behind F_ref12_at F_ref12_Cost R (n + 1) y45 y46 y47 y48 h K4 =
    (bif decide (y48 ≤ ((y46.n : Nat) : Int)) then exA y45 fun g51 o52 => exL (nsub (rowCells (h.look g51)) (o52) 256) fun x53 => bnd y48 y46.c fun m54 => F_ref12_Cost x53 ⟨addO y46.a (0 * 1), m54 - 0, y46.c - 0⟩ h fun r55 h56 => exA y45 fun g57 o58 => exL (nsub (rowCells (h56.look g57)) (o58) 256) fun x59 => bnd y47 y46.c fun m60 => F_ref12_Cost x59 ⟨addO y46.a (0 * 1), m60 - 0, y46.c - 0⟩ h56 fun r61 h62 => exA y45 fun g63 o64 => (bif sameAt g63 o64 256 h h56 then (bif decide (r55 < r61) then F_ref12_One_l2 F_ref12_behind F_ref12_at F_ref12_Cost R n y45 y46 y48 (IntKind.wrap .i64 (y48 + 1)) h62 K4 else F_ref12_One_l2 F_ref12_behind F_ref12_at F_ref12_Cost R n y45 y46 y47 (IntKind.wrap .i64 (y48 + 1)) h62 K4) else none) else K4 y46 y47 h) := by kernel_rfl
set_option maxRecDepth 100000 in
theorem F_ref12_One_l1_succ (F_ref12_behind : Sl → Int → GH → (List Value → GH → Option β) → Option β) (F_ref12_at : Sl → Int → GH → (Int → GH → Option β) → Option β) (F_ref12_Cost : List Value → Sl → GH → (Int → GH → Option β) → Option β) (R : Nat) (n : Nat) (y13 : Option Addr) (y14 : Sl) (y15 : Int) (y16 : Int) (y17 : Int) (h : GH) (K2 : Option Addr → Sl → Int → Int → GH → Option β) : F_ref12_One_l1 F_ref12_behind F_ref12_at F_ref12_Cost R (n + 1) y13 y14 y15 y16 y17 h K2 =
    (bif decide (y17 < 256) then exA y13 fun g22 o23 => within y17 256 (exI .i64 (h.cell ⟨g22, o23 + y17.toNat * 1, none⟩) fun x24 => (bif decide (x24 > 0) then F_ref12_at y14 (IntKind.wrap .u8 y17) h fun r25 h26 => (bif decide (r25 < 0) then (bif decide (y16 < 0) then F_ref12_One_l1 F_ref12_behind F_ref12_at F_ref12_Cost R n y13 y14 y15 y17 (IntKind.wrap .i64 (y17 + 1)) h26 K2 else exA y13 fun g27 o28 => within y17 256 (exI .i64 (h26.cell ⟨g27, o28 + y17.toNat * 1, none⟩) fun x29 => exA y13 fun g30 o31 => within y16 256 (exI .i64 (h26.cell ⟨g30, o31 + y16.toNat * 1, none⟩) fun x32 => (bif decide (x29 > x32) then F_ref12_One_l1 F_ref12_behind F_ref12_at F_ref12_Cost R n y13 y14 y15 y17 (IntKind.wrap .i64 (y17 + 1)) h26 K2 else F_ref12_One_l1 F_ref12_behind F_ref12_at F_ref12_Cost R n y13 y14 y15 y16 (IntKind.wrap .i64 (y17 + 1)) h26 K2)))) else F_ref12_One_l1 F_ref12_behind F_ref12_at F_ref12_Cost R n y13 y14 y15 y16 (IntKind.wrap .i64 (y17 + 1)) h26 K2) else F_ref12_One_l1 F_ref12_behind F_ref12_at F_ref12_Cost R n y13 y14 y15 y16 (IntKind.wrap .i64 (y17 + 1)) h K2)) else K2 y13 y14 y15 y16 h) := by kernel_rfl
set_option maxRecDepth 100000 in
theorem F_ref12_One_l0_succ (F_ref12_behind : Sl → Int → GH → (List Value → GH → Option β) → Option β) (F_ref12_at : Sl → Int → GH → (Int → GH → Option β) → Option β) (F_ref12_Cost : List Value → Sl → GH → (Int → GH → Option β) → Option β) (R : Nat) (n : Nat) (y8 : Option Addr) (y9 : Sl) (y10 : Int) (h : GH) (K0 : Option Addr → Sl → GH → Option β) : F_ref12_One_l0 F_ref12_behind F_ref12_at F_ref12_Cost R (n + 1) y8 y9 y10 h K0 =
    (bif decide (y10 < 32) then F_ref12_One_l1 F_ref12_behind F_ref12_at F_ref12_Cost R R y8 y9 y10 (-1) 0 h (fun w33 w34 w35 w36 h37 => (bif decide (w36 ≥ 0) then gnew [Value.int .u8 (IntKind.wrap .u8 w36)] 1 h37 fun g38 h39 => gappS 1 1 w34 ⟨(some ⟨g38, 0, none⟩), 1, 1⟩ h39 fun s40 h41 => F_ref12_One_l0 F_ref12_behind F_ref12_at F_ref12_Cost R n w33 s40 (IntKind.wrap .i64 (w35 + 1)) h41 K0 else F_ref12_One_l0 F_ref12_behind F_ref12_at F_ref12_Cost R n w33 w34 (IntKind.wrap .i64 (w35 + 1)) h37 K0)) else K0 y8 y9 h) := by kernel_rfl
noncomputable def G_ref12_One (F_ref12_behind : Sl → Int → GH → (List Value → GH → Option β) → Option β) (F_ref12_at : Sl → Int → GH → (Int → GH → Option β) → Option β) (F_ref12_Cost : List Value → Sl → GH → (Int → GH → Option β) → Option β) (R : Nat) (a1 : Sl) (a2 : Int) (h : GH) (K : Sl → GH → Option β) : Option β := gfun Try.prog (CF_ref12_One F_ref12_behind F_ref12_at F_ref12_Cost) HF_ref12_One R Try.f17 [Value.slice a1.a a1.n a1.c, Value.int .u8 a2] h (fun v h' => exS (some v) fun u78 => K u78 h')
set_option maxRecDepth 100000 in
theorem F_ref12_One_gen (F_ref12_behind : Sl → Int → GH → (List Value → GH → Option β) → Option β) (F_ref12_at : Sl → Int → GH → (Int → GH → Option β) → Option β) (F_ref12_Cost : List Value → Sl → GH → (Int → GH → Option β) → Option β) (R : Nat) (a1 : Sl) (a2 : Int) (h : GH) (K : Sl → GH → Option β) : G_ref12_One F_ref12_behind F_ref12_at F_ref12_Cost R a1 a2 h K =
    F_ref12_behind a1 a2 h fun r3 h4 => gnew Z40 0 h4 fun g5 h6 => (bif Nat.beq (r3).length 256 then gput g5 (0) r3 h6 fun h7 => F_ref12_One_l0 F_ref12_behind F_ref12_at F_ref12_Cost R R (some ⟨g5, 0, none⟩) ⟨none, 0, 0⟩ 0 h7 (fun w42 w43 h44 => F_ref12_One_l2 F_ref12_behind F_ref12_at F_ref12_Cost R R w42 w43 0 1 h44 (fun w65 w66 h67 => bnd w66 w65.c fun m68 => K ⟨addO w65.a (0 * 1), m68 - 0, w65.c - 0⟩ h67)) else none) := by kernel_rfl
noncomputable def F_ref12_One (R : Nat) (a1 : Sl) (a2 : Int) (h : GH) (K : Sl → GH → Option β) : Option β := G_ref12_One (F_ref12_behind R) (F_ref12_at R) (F_ref12_Cost R) R a1 a2 h K
set_option maxRecDepth 100000 in
theorem CF_ref12_One_sim {R : Nat} : SimOrc Try.prog (CF_ref12_One (F_ref12_behind R) (F_ref12_at R) (F_ref12_Cost R) (β := β)) := by
  intro f args h K r hc
  unfold CF_ref12_One at hc
  cases hb : Nat.beq f 23 with
  | true =>
    rw [hb] at hc
    simp only [cond_true] at hc
    obtain rfl := Nat.eq_of_beq_eq_true hb
    split at hc
    · exact any_call (F_ref12_behind_sim (K := K) hc)
    · cases hc
  | false =>
  rw [hb] at hc
  simp only [cond_false] at hc
  cases hb : Nat.beq f 24 with
  | true =>
    rw [hb] at hc
    simp only [cond_true] at hc
    obtain rfl := Nat.eq_of_beq_eq_true hb
    split at hc
    · exact any_call (F_ref12_at_sim (K := K) hc)
    · cases hc
  | false =>
  rw [hb] at hc
  simp only [cond_false] at hc
  cases hb : Nat.beq f 25 with
  | true =>
    rw [hb] at hc
    simp only [cond_true] at hc
    obtain rfl := Nat.eq_of_beq_eq_true hb
    split at hc
    · exact any_call (F_ref12_Cost_sim (K := K) hc)
    · cases hc
  | false =>
  rw [hb] at hc
  simp only [cond_false] at hc
  cases hc
set_option maxRecDepth 100000 in
theorem F_ref12_One_sim {R : Nat} {r : β} {a1 : Sl} {a2 : Int} {h : GH} {K : Value → GH → Option β} (hc : F_ref12_One R a1 a2 h (fun q0 h' => K (Value.slice q0.a q0.n q0.c) h') = some r) : ∃ v h', K v h' = some r ∧ CallSim Try.prog 17 [Value.slice a1.a a1.n a1.c, Value.int .u8 a2] h v h' := by
  unfold F_ref12_One G_ref12_One at hc
  obtain ⟨v, h', hk, hs⟩ := gfun_sim (CF_ref12_One_sim (R := R)) mixed_ok (fun f h => by cases h) Try.func17 (by kernel_rfl) hc
  obtain ⟨u0, e0, hk⟩ := exS_v hk; cases e0
  exact ⟨_, h', hk, hs⟩
/-! F9 duffel/duffelref12.Best -/
def CF_ref12_Best (F_ref12_One : Sl → Int → GH → (Sl → GH → Option β) → Option β) : Orc β := fun f args h K => bif Nat.beq f 17 then (match args with | [.slice p1a p1n p1c, .int .u8 p2] => F_ref12_One ⟨p1a, p1n, p1c⟩ p2 h (fun q69 h' => K (Value.slice q69.a q69.n q69.c) h') | _ => none) else none
def HF_ref12_Best : Hints := ⟨[(4, [0, 3, 4], [(0, [(3, .ty 25)])], none)], [], []⟩
noncomputable def BF_ref12_Best : Code := match Try.f9.body with | some c => c | none => .skip
noncomputable def F_ref12_Best_l0 (F_ref12_One : Sl → Int → GH → (Sl → GH → Option β) → Option β) (R : Nat) (n : Nat) (y7 : Sl) (y8 : Option Addr) (y9 : Int) (h : GH) (K0 : Option Addr → GH → Option β) : Option β := gloop (gcode Try.prog (CF_ref12_Best F_ref12_One) Try.f9.ntmps HF_ref12_Best R (at_ [true, true, true, false, true, false, false] BF_ref12_Best)) [0, 3, 4] n [(0, Value.slice y7.a y7.n y7.c), (3, Value.pointer y8), (4, Value.int .i64 y9)] h (fun i e' h' => bif Nat.beq i 0 then (exP (some (e'.get 3)) fun u34 => K0 u34 h') else none) (fun e' h' => none)
set_option maxRecDepth 100000 in
theorem F_ref12_Best_l0_succ (F_ref12_One : Sl → Int → GH → (Sl → GH → Option β) → Option β) (R : Nat) (n : Nat) (y7 : Sl) (y8 : Option Addr) (y9 : Int) (h : GH) (K0 : Option Addr → GH → Option β) : F_ref12_Best_l0 F_ref12_One R (n + 1) y7 y8 y9 h K0 =
    (bif decide (y9 < ((y7.n : Nat) : Int)) then exA y7.a fun g11 o12 => within y9 y7.n (exI .u8 (h.cell ⟨g11, o12 + y9.toNat * 1, none⟩) fun x13 => (bif decide (x13 > 0) then exA y7.a fun g14 o15 => within y9 y7.n (exI .u8 (h.cell ⟨g14, o15 + y9.toNat * 1, none⟩) fun x16 => exA y8 fun g17 o18 => within x16 256 (exS (h.cell ⟨g17, o18 + x16.toNat * 1, none⟩) fun x19 => (bif ((x19.n : Nat) : Int) == 0 then exA y7.a fun g20 o21 => within y9 y7.n (exI .u8 (h.cell ⟨g20, o21 + y9.toNat * 1, none⟩) fun x22 => exA y7.a fun g23 o24 => within y9 y7.n (exI .u8 (h.cell ⟨g23, o24 + y9.toNat * 1, none⟩) fun x25 => F_ref12_One y7 x25 h fun r26 h27 => exA y8 fun g28 o29 => within x22 256 (gput g28 (o29 + x22.toNat * 1) [Value.slice r26.a r26.n r26.c] h27 fun h30 => (bif sameAt g20 (o21 + y9.toNat * 1) 1 h h27 then F_ref12_Best_l0 F_ref12_One R n y7 y8 (IntKind.wrap .i64 (y9 + 1)) h30 K0 else none)))) else F_ref12_Best_l0 F_ref12_One R n y7 y8 (IntKind.wrap .i64 (y9 + 1)) h K0))) else F_ref12_Best_l0 F_ref12_One R n y7 y8 (IntKind.wrap .i64 (y9 + 1)) h K0)) else K0 y8 h) := by kernel_rfl
noncomputable def G_ref12_Best (F_ref12_One : Sl → Int → GH → (Sl → GH → Option β) → Option β) (R : Nat) (a1 : Sl) (h : GH) (K : Option Addr → GH → Option β) : Option β := gfun Try.prog (CF_ref12_Best F_ref12_One) HF_ref12_Best R Try.f9 [Value.slice a1.a a1.n a1.c] h (fun v h' => exP (some v) fun u35 => K u35 h')
set_option maxRecDepth 100000 in
theorem F_ref12_Best_gen (F_ref12_One : Sl → Int → GH → (Sl → GH → Option β) → Option β) (R : Nat) (a1 : Sl) (h : GH) (K : Option Addr → GH → Option β) : G_ref12_Best F_ref12_One R a1 h K =
    gnew [Value.slice none 0 0, Value.slice none 0 0, Value.slice none 0 0, Value.slice none 0 0, Value.slice none 0 0, Value.slice none 0 0, Value.slice none 0 0, Value.slice none 0 0, Value.slice none 0 0, Value.slice none 0 0, Value.slice none 0 0, Value.slice none 0 0, Value.slice none 0 0, Value.slice none 0 0, Value.slice none 0 0, Value.slice none 0 0, Value.slice none 0 0, Value.slice none 0 0, Value.slice none 0 0, Value.slice none 0 0, Value.slice none 0 0, Value.slice none 0 0, Value.slice none 0 0, Value.slice none 0 0, Value.slice none 0 0, Value.slice none 0 0, Value.slice none 0 0, Value.slice none 0 0, Value.slice none 0 0, Value.slice none 0 0, Value.slice none 0 0, Value.slice none 0 0, Value.slice none 0 0, Value.slice none 0 0, Value.slice none 0 0, Value.slice none 0 0, Value.slice none 0 0, Value.slice none 0 0, Value.slice none 0 0, Value.slice none 0 0, Value.slice none 0 0, Value.slice none 0 0, Value.slice none 0 0, Value.slice none 0 0, Value.slice none 0 0, Value.slice none 0 0, Value.slice none 0 0, Value.slice none 0 0, Value.slice none 0 0, Value.slice none 0 0, Value.slice none 0 0, Value.slice none 0 0, Value.slice none 0 0, Value.slice none 0 0, Value.slice none 0 0, Value.slice none 0 0, Value.slice none 0 0, Value.slice none 0 0, Value.slice none 0 0, Value.slice none 0 0, Value.slice none 0 0, Value.slice none 0 0, Value.slice none 0 0, Value.slice none 0 0, Value.slice none 0 0, Value.slice none 0 0, Value.slice none 0 0, Value.slice none 0 0, Value.slice none 0 0, Value.slice none 0 0, Value.slice none 0 0, Value.slice none 0 0, Value.slice none 0 0, Value.slice none 0 0, Value.slice none 0 0, Value.slice none 0 0, Value.slice none 0 0, Value.slice none 0 0, Value.slice none 0 0, Value.slice none 0 0, Value.slice none 0 0, Value.slice none 0 0, Value.slice none 0 0, Value.slice none 0 0, Value.slice none 0 0, Value.slice none 0 0, Value.slice none 0 0, Value.slice none 0 0, Value.slice none 0 0, Value.slice none 0 0, Value.slice none 0 0, Value.slice none 0 0, Value.slice none 0 0, Value.slice none 0 0, Value.slice none 0 0, Value.slice none 0 0, Value.slice none 0 0, Value.slice none 0 0, Value.slice none 0 0, Value.slice none 0 0, Value.slice none 0 0, Value.slice none 0 0, Value.slice none 0 0, Value.slice none 0 0, Value.slice none 0 0, Value.slice none 0 0, Value.slice none 0 0, Value.slice none 0 0, Value.slice none 0 0, Value.slice none 0 0, Value.slice none 0 0, Value.slice none 0 0, Value.slice none 0 0, Value.slice none 0 0, Value.slice none 0 0, Value.slice none 0 0, Value.slice none 0 0, Value.slice none 0 0, Value.slice none 0 0, Value.slice none 0 0, Value.slice none 0 0, Value.slice none 0 0, Value.slice none 0 0, Value.slice none 0 0, Value.slice none 0 0, Value.slice none 0 0, Value.slice none 0 0, Value.slice none 0 0, Value.slice none 0 0, Value.slice none 0 0, Value.slice none 0 0, Value.slice none 0 0, Value.slice none 0 0, Value.slice none 0 0, Value.slice none 0 0, Value.slice none 0 0, Value.slice none 0 0, Value.slice none 0 0, Value.slice none 0 0, Value.slice none 0 0, Value.slice none 0 0, Value.slice none 0 0, Value.slice none 0 0, Value.slice none 0 0, Value.slice none 0 0, Value.slice none 0 0, Value.slice none 0 0, Value.slice none 0 0, Value.slice none 0 0, Value.slice none 0 0, Value.slice none 0 0, Value.slice none 0 0, Value.slice none 0 0, Value.slice none 0 0, Value.slice none 0 0, Value.slice none 0 0, Value.slice none 0 0, Value.slice none 0 0, Value.slice none 0 0, Value.slice none 0 0, Value.slice none 0 0, Value.slice none 0 0, Value.slice none 0 0, Value.slice none 0 0, Value.slice none 0 0, Value.slice none 0 0, Value.slice none 0 0, Value.slice none 0 0, Value.slice none 0 0, Value.slice none 0 0, Value.slice none 0 0, Value.slice none 0 0, Value.slice none 0 0, Value.slice none 0 0, Value.slice none 0 0, Value.slice none 0 0, Value.slice none 0 0, Value.slice none 0 0, Value.slice none 0 0, Value.slice none 0 0, Value.slice none 0 0, Value.slice none 0 0, Value.slice none 0 0, Value.slice none 0 0, Value.slice none 0 0, Value.slice none 0 0, Value.slice none 0 0, Value.slice none 0 0, Value.slice none 0 0, Value.slice none 0 0, Value.slice none 0 0, Value.slice none 0 0, Value.slice none 0 0, Value.slice none 0 0, Value.slice none 0 0, Value.slice none 0 0, Value.slice none 0 0, Value.slice none 0 0, Value.slice none 0 0, Value.slice none 0 0, Value.slice none 0 0, Value.slice none 0 0, Value.slice none 0 0, Value.slice none 0 0, Value.slice none 0 0, Value.slice none 0 0, Value.slice none 0 0, Value.slice none 0 0, Value.slice none 0 0, Value.slice none 0 0, Value.slice none 0 0, Value.slice none 0 0, Value.slice none 0 0, Value.slice none 0 0, Value.slice none 0 0, Value.slice none 0 0, Value.slice none 0 0, Value.slice none 0 0, Value.slice none 0 0, Value.slice none 0 0, Value.slice none 0 0, Value.slice none 0 0, Value.slice none 0 0, Value.slice none 0 0, Value.slice none 0 0, Value.slice none 0 0, Value.slice none 0 0, Value.slice none 0 0, Value.slice none 0 0, Value.slice none 0 0, Value.slice none 0 0, Value.slice none 0 0, Value.slice none 0 0, Value.slice none 0 0, Value.slice none 0 0, Value.slice none 0 0, Value.slice none 0 0, Value.slice none 0 0, Value.slice none 0 0, Value.slice none 0 0, Value.slice none 0 0, Value.slice none 0 0, Value.slice none 0 0, Value.slice none 0 0, Value.slice none 0 0, Value.slice none 0 0, Value.slice none 0 0, Value.slice none 0 0, Value.slice none 0 0, Value.slice none 0 0, Value.slice none 0 0, Value.slice none 0 0, Value.slice none 0 0, Value.slice none 0 0, Value.slice none 0 0, Value.slice none 0 0] 0 h fun g2 h3 => F_ref12_One a1 0 h3 fun r4 h5 => within 0 256 (gput g2 (0 + (0 : Int).toNat * 1) [Value.slice r4.a r4.n r4.c] h5 fun h6 => F_ref12_Best_l0 F_ref12_One R R a1 (some ⟨g2, 0, none⟩) 0 h6 (fun w31 h32 => K w31 h32)) := by kernel_rfl
noncomputable def F_ref12_Best (R : Nat) (a1 : Sl) (h : GH) (K : Option Addr → GH → Option β) : Option β := G_ref12_Best (F_ref12_One R) R a1 h K
set_option maxRecDepth 100000 in
theorem CF_ref12_Best_sim {R : Nat} : SimOrc Try.prog (CF_ref12_Best (F_ref12_One R) (β := β)) := by
  intro f args h K r hc
  unfold CF_ref12_Best at hc
  cases hb : Nat.beq f 17 with
  | true =>
    rw [hb] at hc
    simp only [cond_true] at hc
    obtain rfl := Nat.eq_of_beq_eq_true hb
    split at hc
    · exact any_call (F_ref12_One_sim (K := K) hc)
    · cases hc
  | false =>
  rw [hb] at hc
  simp only [cond_false] at hc
  cases hc
set_option maxRecDepth 100000 in
theorem F_ref12_Best_sim {R : Nat} {r : β} {a1 : Sl} {h : GH} {K : Value → GH → Option β} (hc : F_ref12_Best R a1 h (fun q0 h' => K (Value.pointer q0) h') = some r) : ∃ v h', K v h' = some r ∧ CallSim Try.prog 9 [Value.slice a1.a a1.n a1.c] h v h' := by
  unfold F_ref12_Best G_ref12_Best at hc
  obtain ⟨v, h', hk, hs⟩ := gfun_sim (CF_ref12_Best_sim (R := R)) mixed_ok (fun f h => by cases h) Try.func9 (by kernel_rfl) hc
  obtain ⟨u0, e0, hk⟩ := exP_v hk; cases e0
  exact ⟨_, h', hk, hs⟩
/-! F15 duffel/duffelref01.Same -/
def CF_ref01_Same  : Orc β := fun f args h K => none
def HF_ref01_Same : Hints := ⟨[(4, [0, 1, 5], [(0, [])], some [(4, .ty 4)])], [], []⟩
noncomputable def BF_ref01_Same : Code := match Try.f15.body with | some c => c | none => .skip
noncomputable def F_ref01_Same_l0  (R : Nat) (n : Nat) (y3 : Sl) (y4 : Sl) (y5 : Int) (h : GH) (K0 : GH → Option β) (Kr : Bool → GH → Option β) : Option β := gloop (gcode Try.prog (CF_ref01_Same ) Try.f15.ntmps HF_ref01_Same R (at_ [true, true, false, true, false, false] BF_ref01_Same)) [0, 1, 5] n [(0, Value.slice y3.a y3.n y3.c), (1, Value.slice y4.a y4.n y4.c), (5, Value.int .i64 y5)] h (fun i e' h' => bif Nat.beq i 0 then (K0 h') else none) (fun e' h' => exB (some (e'.get 4)) fun u17 => Kr u17 h')
set_option maxRecDepth 100000 in
theorem F_ref01_Same_l0_succ  (R : Nat) (n : Nat) (y3 : Sl) (y4 : Sl) (y5 : Int) (h : GH) (K0 : GH → Option β) (Kr : Bool → GH → Option β) : F_ref01_Same_l0  R (n + 1) y3 y4 y5 h K0 Kr =
    (bif decide (y5 < ((y3.n : Nat) : Int)) then exA y3.a fun g7 o8 => within y5 y3.n (exI .u8 (h.cell ⟨g7, o8 + y5.toNat * 1, none⟩) fun x9 => exA y4.a fun g10 o11 => within y5 y4.n (exI .u8 (h.cell ⟨g10, o11 + y5.toNat * 1, none⟩) fun x12 => (bif x9 != x12 then Kr false h else F_ref01_Same_l0 R n y3 y4 (IntKind.wrap .i64 (y5 + 1)) h K0 Kr))) else K0 h) := by kernel_rfl
noncomputable def G_ref01_Same  (R : Nat) (a1 : Sl) (a2 : Sl) (h : GH) (K : Bool → GH → Option β) : Option β := gfun Try.prog (CF_ref01_Same ) HF_ref01_Same R Try.f15 [Value.slice a1.a a1.n a1.c, Value.slice a2.a a2.n a2.c] h (fun v h' => exB (some v) fun u18 => K u18 h')
set_option maxRecDepth 100000 in
theorem F_ref01_Same_gen  (R : Nat) (a1 : Sl) (a2 : Sl) (h : GH) (K : Bool → GH → Option β) : G_ref01_Same  R a1 a2 h K =
    (bif ((a1.n : Nat) : Int) != ((a2.n : Nat) : Int) then K false h else F_ref01_Same_l0 R R a1 a2 0 h (fun h13 => K true h13) (fun w14 h15 => K w14 h15)) := by kernel_rfl
noncomputable def F_ref01_Same (R : Nat) (a1 : Sl) (a2 : Sl) (h : GH) (K : Bool → GH → Option β) : Option β := G_ref01_Same  R a1 a2 h K
theorem CF_ref01_Same_sim : SimOrc Try.prog (CF_ref01_Same (β := β)) := by
  intro f args h K r hc
  cases hc
set_option maxRecDepth 100000 in
theorem F_ref01_Same_sim {R : Nat} {r : β} {a1 : Sl} {a2 : Sl} {h : GH} {K : Value → GH → Option β} (hc : F_ref01_Same R a1 a2 h (fun q0 h' => K (Value.bool q0) h') = some r) : ∃ v h', K v h' = some r ∧ CallSim Try.prog 15 [Value.slice a1.a a1.n a1.c, Value.slice a2.a a2.n a2.c] h v h' := by
  unfold F_ref01_Same G_ref01_Same at hc
  obtain ⟨v, h', hk, hs⟩ := gfun_sim CF_ref01_Same_sim mixed_ok (fun f h => by cases h) Try.func15 (by kernel_rfl) hc
  obtain ⟨u0, e0, hk⟩ := exB_v hk; cases e0
  exact ⟨_, h', hk, hs⟩
/-! F6 duffel/duffelref12.Same -/
def CF_ref12_Same (F_ref01_Same : Sl → Sl → GH → (Bool → GH → Option β) → Option β) : Orc β := fun f args h K => bif Nat.beq f 15 then (match args with | [.slice p1a p1n p1c, .slice p2a p2n p2c] => F_ref01_Same ⟨p1a, p1n, p1c⟩ ⟨p2a, p2n, p2c⟩ h (fun q16 h' => K (Value.bool q16) h') | _ => none) else none
def HF_ref12_Same : Hints := ⟨[(2, [0, 1, 5], [(0, [])], some [(4, .ty 4)])], [], []⟩
noncomputable def BF_ref12_Same : Code := match Try.f6.body with | some c => c | none => .skip
noncomputable def F_ref12_Same_l0 (F_ref01_Same : Sl → Sl → GH → (Bool → GH → Option β) → Option β) (R : Nat) (n : Nat) (y3 : Option Addr) (y4 : Option Addr) (y5 : Int) (h : GH) (K0 : GH → Option β) (Kr : Bool → GH → Option β) : Option β := gloop (gcode Try.prog (CF_ref12_Same F_ref01_Same) Try.f6.ntmps HF_ref12_Same R (at_ [true, false, true, false, false] BF_ref12_Same)) [0, 1, 5] n [(0, Value.pointer y3), (1, Value.pointer y4), (5, Value.int .i64 y5)] h (fun i e' h' => bif Nat.beq i 0 then (K0 h') else none) (fun e' h' => exB (some (e'.get 4)) fun u19 => Kr u19 h')
set_option maxRecDepth 100000 in
theorem F_ref12_Same_l0_succ (F_ref01_Same : Sl → Sl → GH → (Bool → GH → Option β) → Option β) (R : Nat) (n : Nat) (y3 : Option Addr) (y4 : Option Addr) (y5 : Int) (h : GH) (K0 : GH → Option β) (Kr : Bool → GH → Option β) : F_ref12_Same_l0 F_ref01_Same R (n + 1) y3 y4 y5 h K0 Kr =
    (bif decide (y5 < 256) then exA y3 fun g7 o8 => within y5 256 (exS (h.cell ⟨g7, o8 + y5.toNat * 1, none⟩) fun x9 => exA y4 fun g10 o11 => within y5 256 (exS (h.cell ⟨g10, o11 + y5.toNat * 1, none⟩) fun x12 => F_ref01_Same x9 x12 h fun r13 h14 => (bif !r13 then Kr false h14 else F_ref12_Same_l0 F_ref01_Same R n y3 y4 (IntKind.wrap .i64 (y5 + 1)) h14 K0 Kr))) else K0 h) := by kernel_rfl
noncomputable def G_ref12_Same (F_ref01_Same : Sl → Sl → GH → (Bool → GH → Option β) → Option β) (R : Nat) (a1 : Option Addr) (a2 : Option Addr) (h : GH) (K : Bool → GH → Option β) : Option β := gfun Try.prog (CF_ref12_Same F_ref01_Same) HF_ref12_Same R Try.f6 [Value.pointer a1, Value.pointer a2] h (fun v h' => exB (some v) fun u20 => K u20 h')
set_option maxRecDepth 100000 in
theorem F_ref12_Same_gen (F_ref01_Same : Sl → Sl → GH → (Bool → GH → Option β) → Option β) (R : Nat) (a1 : Option Addr) (a2 : Option Addr) (h : GH) (K : Bool → GH → Option β) : G_ref12_Same F_ref01_Same R a1 a2 h K =
    F_ref12_Same_l0 F_ref01_Same R R a1 a2 0 h (fun h15 => K true h15) (fun w16 h17 => K w16 h17) := by kernel_rfl
noncomputable def F_ref12_Same (R : Nat) (a1 : Option Addr) (a2 : Option Addr) (h : GH) (K : Bool → GH → Option β) : Option β := G_ref12_Same (F_ref01_Same R) R a1 a2 h K
set_option maxRecDepth 100000 in
theorem CF_ref12_Same_sim {R : Nat} : SimOrc Try.prog (CF_ref12_Same (F_ref01_Same R) (β := β)) := by
  intro f args h K r hc
  unfold CF_ref12_Same at hc
  cases hb : Nat.beq f 15 with
  | true =>
    rw [hb] at hc
    simp only [cond_true] at hc
    obtain rfl := Nat.eq_of_beq_eq_true hb
    split at hc
    · exact any_call (F_ref01_Same_sim (K := K) hc)
    · cases hc
  | false =>
  rw [hb] at hc
  simp only [cond_false] at hc
  cases hc
set_option maxRecDepth 100000 in
theorem F_ref12_Same_sim {R : Nat} {r : β} {a1 : Option Addr} {a2 : Option Addr} {h : GH} {K : Value → GH → Option β} (hc : F_ref12_Same R a1 a2 h (fun q0 h' => K (Value.bool q0) h') = some r) : ∃ v h', K v h' = some r ∧ CallSim Try.prog 6 [Value.pointer a1, Value.pointer a2] h v h' := by
  unfold F_ref12_Same G_ref12_Same at hc
  obtain ⟨v, h', hk, hs⟩ := gfun_sim (CF_ref12_Same_sim (R := R)) mixed_ok (fun f h => by cases h) Try.func6 (by kernel_rfl) hc
  obtain ⟨u0, e0, hk⟩ := exB_v hk; cases e0
  exact ⟨_, h', hk, hs⟩
/-! F3 duffel/duffellaw12.FollowBest -/
def CF_law12_FollowBest (F_ref01_Cut : Sl → Int → GH → (Sl → GH → Option β) → Option β) (F_follow_Best : Sl → GH → (List Value → GH → Option β) → Option β) (F_law12_plain : List Value → GH → (Option Addr → GH → Option β) → Option β) (F_ref12_Best : Sl → GH → (Option Addr → GH → Option β) → Option β) (F_ref12_Same : Option Addr → Option Addr → GH → (Bool → GH → Option β) → Option β) (F_law12_lives : GH → (Bool → GH → Option β) → Option β) : Orc β := fun f args h K => bif Nat.beq f 5 then (match args with | [.slice p1a p1n p1c, .int .i64 p2] => F_ref01_Cut ⟨p1a, p1n, p1c⟩ p2 h (fun q4 h' => K (Value.slice q4.a q4.n q4.c) h') | _ => none) else (bif Nat.beq f 8 then (match args with | [.slice p1a p1n p1c] => F_follow_Best ⟨p1a, p1n, p1c⟩ h (fun q53 h' => K (Value.agg (q53).toArray) h') | _ => none) else (bif Nat.beq f 7 then (match args with | [.agg ⟨p1⟩] => F_law12_plain p1 h (fun q18 h' => K (Value.pointer q18) h') | _ => none) else (bif Nat.beq f 9 then (match args with | [.slice p1a p1n p1c] => F_ref12_Best ⟨p1a, p1n, p1c⟩ h (fun q33 h' => K (Value.pointer q33) h') | _ => none) else (bif Nat.beq f 6 then (match args with | [.pointer p1, .pointer p2] => F_ref12_Same p1 p2 h (fun q18 h' => K (Value.bool q18) h') | _ => none) else (bif Nat.beq f 10 then (match args with | [] => F_law12_lives  h (fun q1 h' => K (Value.bool q1) h') | _ => none) else none)))))
def HF_law12_FollowBest : Hints := ⟨[], [], []⟩
noncomputable def G_law12_FollowBest (F_ref01_Cut : Sl → Int → GH → (Sl → GH → Option β) → Option β) (F_follow_Best : Sl → GH → (List Value → GH → Option β) → Option β) (F_law12_plain : List Value → GH → (Option Addr → GH → Option β) → Option β) (F_ref12_Best : Sl → GH → (Option Addr → GH → Option β) → Option β) (F_ref12_Same : Option Addr → Option Addr → GH → (Bool → GH → Option β) → Option β) (F_law12_lives : GH → (Bool → GH → Option β) → Option β) (R : Nat) (a1 : Sl) (h : GH) (K : Bool → GH → Option β) : Option β := gfun Try.prog (CF_law12_FollowBest F_ref01_Cut F_follow_Best F_law12_plain F_ref12_Best F_ref12_Same F_law12_lives) HF_law12_FollowBest R Try.f3 [Value.slice a1.a a1.n a1.c] h (fun v h' => exB (some v) fun u15 => K u15 h')
set_option maxRecDepth 100000 in
theorem F_law12_FollowBest_gen (F_ref01_Cut : Sl → Int → GH → (Sl → GH → Option β) → Option β) (F_follow_Best : Sl → GH → (List Value → GH → Option β) → Option β) (F_law12_plain : List Value → GH → (Option Addr → GH → Option β) → Option β) (F_ref12_Best : Sl → GH → (Option Addr → GH → Option β) → Option β) (F_ref12_Same : Option Addr → Option Addr → GH → (Bool → GH → Option β) → Option β) (F_law12_lives : GH → (Bool → GH → Option β) → Option β) (R : Nat) (a1 : Sl) (h : GH) (K : Bool → GH → Option β) : G_law12_FollowBest F_ref01_Cut F_follow_Best F_law12_plain F_ref12_Best F_ref12_Same F_law12_lives R a1 h K =
    F_ref01_Cut a1 200 h fun r2 h3 => F_follow_Best r2 h3 fun r4 h5 => F_law12_plain r4 h5 fun r6 h7 => F_ref12_Best r2 h7 fun r8 h9 => F_ref12_Same r6 r8 h9 fun r10 h11 => (bif r10 then F_law12_lives h11 fun r12 h13 => K r12 h13 else K false h11) := by kernel_rfl
noncomputable def F_law12_FollowBest (R : Nat) (a1 : Sl) (h : GH) (K : Bool → GH → Option β) : Option β := G_law12_FollowBest (F_ref01_Cut R) (F_follow_Best R) (F_law12_plain R) (F_ref12_Best R) (F_ref12_Same R) F_law12_lives R a1 h K
set_option maxRecDepth 100000 in
theorem CF_law12_FollowBest_sim {R : Nat} : SimOrc Try.prog (CF_law12_FollowBest (F_ref01_Cut R) (F_follow_Best R) (F_law12_plain R) (F_ref12_Best R) (F_ref12_Same R) F_law12_lives (β := β)) := by
  intro f args h K r hc
  unfold CF_law12_FollowBest at hc
  cases hb : Nat.beq f 5 with
  | true =>
    rw [hb] at hc
    simp only [cond_true] at hc
    obtain rfl := Nat.eq_of_beq_eq_true hb
    split at hc
    · exact any_call (F_ref01_Cut_sim (K := K) hc)
    · cases hc
  | false =>
  rw [hb] at hc
  simp only [cond_false] at hc
  cases hb : Nat.beq f 8 with
  | true =>
    rw [hb] at hc
    simp only [cond_true] at hc
    obtain rfl := Nat.eq_of_beq_eq_true hb
    split at hc
    · exact any_call (F_follow_Best_sim (K := K) hc)
    · cases hc
  | false =>
  rw [hb] at hc
  simp only [cond_false] at hc
  cases hb : Nat.beq f 7 with
  | true =>
    rw [hb] at hc
    simp only [cond_true] at hc
    obtain rfl := Nat.eq_of_beq_eq_true hb
    split at hc
    · exact any_call (F_law12_plain_sim (K := K) hc)
    · cases hc
  | false =>
  rw [hb] at hc
  simp only [cond_false] at hc
  cases hb : Nat.beq f 9 with
  | true =>
    rw [hb] at hc
    simp only [cond_true] at hc
    obtain rfl := Nat.eq_of_beq_eq_true hb
    split at hc
    · exact any_call (F_ref12_Best_sim (K := K) hc)
    · cases hc
  | false =>
  rw [hb] at hc
  simp only [cond_false] at hc
  cases hb : Nat.beq f 6 with
  | true =>
    rw [hb] at hc
    simp only [cond_true] at hc
    obtain rfl := Nat.eq_of_beq_eq_true hb
    split at hc
    · exact any_call (F_ref12_Same_sim (K := K) hc)
    · cases hc
  | false =>
  rw [hb] at hc
  simp only [cond_false] at hc
  cases hb : Nat.beq f 10 with
  | true =>
    rw [hb] at hc
    simp only [cond_true] at hc
    obtain rfl := Nat.eq_of_beq_eq_true hb
    split at hc
    · exact any_call (F_law12_lives_sim (K := K) hc)
    · cases hc
  | false =>
  rw [hb] at hc
  simp only [cond_false] at hc
  cases hc
set_option maxRecDepth 100000 in
theorem F_law12_FollowBest_sim {R : Nat} {r : β} {a1 : Sl} {h : GH} {K : Value → GH → Option β} (hc : F_law12_FollowBest R a1 h (fun q0 h' => K (Value.bool q0) h') = some r) : ∃ v h', K v h' = some r ∧ CallSim Try.prog 3 [Value.slice a1.a a1.n a1.c] h v h' := by
  unfold F_law12_FollowBest G_law12_FollowBest at hc
  obtain ⟨v, h', hk, hs⟩ := gfun_sim (CF_law12_FollowBest_sim (R := R)) mixed_ok (fun f h => by cases h) Try.func3 (by kernel_rfl) hc
  obtain ⟨u0, e0, hk⟩ := exB_v hk; cases e0
  exact ⟨_, h', hk, hs⟩
/-! F11 duffel/bitio.New -/
def CF_bitio_New  : Orc β := fun f args h K => none
def HF_bitio_New : Hints := ⟨[], [], []⟩
noncomputable def G_bitio_New  (R : Nat)  (h : GH) (K : Option Addr → GH → Option β) : Option β := gfun Try.prog (CF_bitio_New ) HF_bitio_New R Try.f11 [] h (fun v h' => exP (some v) fun u4 => K u4 h')
set_option maxRecDepth 100000 in
theorem F_bitio_New_gen  (R : Nat)  (h : GH) (K : Option Addr → GH → Option β) : G_bitio_New  R  h K =
    gnew [Value.slice none 0 0, Value.int .u64 0, Value.int .i64 0] 0 h fun g1 h2 => K (some ⟨g1, 0, none⟩) h2 := by kernel_rfl
noncomputable def F_bitio_New (R : Nat)  (h : GH) (K : Option Addr → GH → Option β) : Option β := G_bitio_New  R  h K
theorem CF_bitio_New_sim : SimOrc Try.prog (CF_bitio_New (β := β)) := by
  intro f args h K r hc
  cases hc
set_option maxRecDepth 100000 in
theorem F_bitio_New_sim {R : Nat} {r : β}  {h : GH} {K : Value → GH → Option β} (hc : F_bitio_New R  h (fun q0 h' => K (Value.pointer q0) h') = some r) : ∃ v h', K v h' = some r ∧ CallSim Try.prog 11 [] h v h' := by
  unfold F_bitio_New G_bitio_New at hc
  obtain ⟨v, h', hk, hs⟩ := gfun_sim CF_bitio_New_sim mixed_ok (fun f h => by cases h) Try.func11 (by kernel_rfl) hc
  obtain ⟨u0, e0, hk⟩ := exP_v hk; cases e0
  exact ⟨_, h', hk, hs⟩
/-! F20 (*duffel/bitio.Writer).Put -/
def CF_bitio_Writer_Put  : Orc β := fun f args h K => none
def HF_bitio_Writer_Put : Hints := ⟨[(4, [0], [(0, [])], none)], [], []⟩
noncomputable def BF_bitio_Writer_Put : Code := match Try.f20.body with | some c => c | none => .skip
noncomputable def F_bitio_Writer_Put_l0  (R : Nat) (n : Nat) (y19 : Option Addr) (h : GH) (K0 : GH → Option β) : Option β := gloop (gcode Try.prog (CF_bitio_Writer_Put ) Try.f20.ntmps HF_bitio_Writer_Put R (at_ [true, true, true, true, false, false] BF_bitio_Writer_Put)) [0] n [(0, Value.pointer y19)] h (fun i e' h' => bif Nat.beq i 0 then (K0 h') else none) (fun e' h' => none)
set_option maxRecDepth 100000 in
theorem F_bitio_Writer_Put_l0_succ  (R : Nat) (n : Nat) (y19 : Option Addr) (h : GH) (K0 : GH → Option β) : F_bitio_Writer_Put_l0  R (n + 1) y19 h K0 =
    exA y19 fun g20 o21 => exI .i64 (h.cell ⟨g20, o21 + 2, none⟩) fun x22 => (bif decide (x22 ≥ 8) then exA y19 fun g23 o24 => exS (h.cell ⟨g23, o24 + 0, none⟩) fun x25 => exA y19 fun g26 o27 => exI .u64 (h.cell ⟨g26, o27 + 1, none⟩) fun x28 => gnew [Value.int .u8 (IntKind.wrap .u8 x28)] 1 h fun g29 h30 => gappS 1 1 x25 ⟨(some ⟨g29, 0, none⟩), 1, 1⟩ h30 fun s31 h32 => exA y19 fun g33 o34 => gput g33 (o34 + 0) [Value.slice s31.a s31.n s31.c] h32 fun h35 => exA y19 fun g36 o37 => exI .u64 (h35.cell ⟨g36, o37 + 1, none⟩) fun x38 => exA y19 fun g39 o40 => gput g39 (o40 + 1) [Value.int .u64 (shrI .u64 x38 8)] h35 fun h41 => exA y19 fun g42 o43 => exI .i64 (h41.cell ⟨g42, o43 + 2, none⟩) fun x44 => exA y19 fun g45 o46 => gput g45 (o46 + 2) [Value.int .i64 (IntKind.wrap .i64 (x44 - 8))] h41 fun h47 => F_bitio_Writer_Put_l0 R n y19 h47 K0 else K0 h) := by kernel_rfl
noncomputable def G_bitio_Writer_Put  (R : Nat) (a1 : Option Addr) (a2 : Int) (a3 : Int) (h : GH) (K : GH → Option β) : Option β := gfun Try.prog (CF_bitio_Writer_Put ) HF_bitio_Writer_Put R Try.f20 [Value.pointer a1, Value.int .u32 a2, Value.int .i64 a3] h (fun _ h' => K h')
set_option maxRecDepth 100000 in
theorem F_bitio_Writer_Put_gen  (R : Nat) (a1 : Option Addr) (a2 : Int) (a3 : Int) (h : GH) (K : GH → Option β) : G_bitio_Writer_Put  R a1 a2 a3 h K =
    (bif a1.isNone then K h else exA a1 fun g4 o5 => exI .u64 (h.cell ⟨g4, o5 + 1, none⟩) fun x6 => (bif decide ((if 32 < (if 0 > a3 then 0 else a3) then 32 else if 0 > a3 then 0 else a3) < 0) then none else exA a1 fun g7 o8 => exI .i64 (h.cell ⟨g7, o8 + 2, none⟩) fun x9 => (bif decide (x9 < 0) then none else exA a1 fun g10 o11 => gput g10 (o11 + 1) [Value.int .u64 (IntKind.wrap .u64 (BitVec.ofInt (IntKind.bits .u64) x6 ||| BitVec.ofInt (IntKind.bits .u64) (shlI .u64 (IntKind.wrap .u64 (BitVec.ofInt (IntKind.bits .u64) (IntKind.wrap .u64 a2) &&& BitVec.ofInt (IntKind.bits .u64) (IntKind.wrap .u64 ((shlI .u64 1 (if 32 < (if 0 > a3 then 0 else a3) then 32 else if 0 > a3 then 0 else a3)) - 1))).toNat) x9)).toNat)] h fun h12 => exA a1 fun g13 o14 => exI .i64 (h12.cell ⟨g13, o14 + 2, none⟩) fun x15 => exA a1 fun g16 o17 => gput g16 (o17 + 2) [Value.int .i64 (IntKind.wrap .i64 (x15 + (if 32 < (if 0 > a3 then 0 else a3) then 32 else if 0 > a3 then 0 else a3)))] h12 fun h18 => F_bitio_Writer_Put_l0 R R a1 h18 (fun h48 => K h48)))) := by kernel_rfl
noncomputable def F_bitio_Writer_Put (R : Nat) (a1 : Option Addr) (a2 : Int) (a3 : Int) (h : GH) (K : GH → Option β) : Option β := G_bitio_Writer_Put  R a1 a2 a3 h K
theorem CF_bitio_Writer_Put_sim : SimOrc Try.prog (CF_bitio_Writer_Put (β := β)) := by
  intro f args h K r hc
  cases hc
set_option maxRecDepth 100000 in
theorem F_bitio_Writer_Put_sim {R : Nat} {r : β} {a1 : Option Addr} {a2 : Int} {a3 : Int} {h : GH} {K : Value → GH → Option β} (hc : F_bitio_Writer_Put R a1 a2 a3 h (fun h' => K (Value.tuple #[]) h') = some r) : ∃ v h', K v h' = some r ∧ CallSim Try.prog 20 [Value.pointer a1, Value.int .u32 a2, Value.int .i64 a3] h v h' := by
  unfold F_bitio_Writer_Put G_bitio_Writer_Put at hc
  obtain ⟨v, h', hk, hs⟩ := gfun_sim CF_bitio_Writer_Put_sim mixed_ok (fun f h => by cases h) Try.func20 (by kernel_rfl) hc
  exact ⟨_, h', hk, hs.unit⟩
/-! F12 duffel/follow.PutSets -/
def CF_follow_PutSets (F_follow_first : Sl → GH → (Sl → GH → Option β) → Option β) (F_bitio_Writer_Put : Option Addr → Int → Int → GH → (GH → Option β) → Option β) : Orc β := fun f args h K => bif Nat.beq f 19 then (match args with | [.slice p1a p1n p1c] => F_follow_first ⟨p1a, p1n, p1c⟩ h (fun q3 h' => K (Value.slice q3.a q3.n q3.c) h') | _ => none) else (bif Nat.beq f 20 then (match args with | [.pointer p1, .int .u32 p2, .int .i64 p3] => F_bitio_Writer_Put p1 p2 p3 h (fun h' => K (Value.tuple #[]) h') | _ => none) else none)
def HF_follow_PutSets : Hints := ⟨[(2, [0, 3, 4], [(0, [])], none), (7, [0, 3, 4, 21, 22, 23], [(2, [(0, .ty 33), (3, .ty 15), (4, .ty 3)])], none)], [], []⟩
noncomputable def BF_follow_PutSets : Code := match Try.f12.body with | some c => c | none => .skip
noncomputable def F_follow_PutSets_l0 (F_follow_first : Sl → GH → (Sl → GH → Option β) → Option β) (F_bitio_Writer_Put : Option Addr → Int → Int → GH → (GH → Option β) → Option β) (R : Nat) (n : Nat) (y5 : Option Addr) (y6 : Option Addr) (y7 : Int) (h : GH) (K0 : GH → Option β) : Option β := gloop (gcode Try.prog (CF_follow_PutSets F_follow_first F_bitio_Writer_Put) Try.f12.ntmps HF_follow_PutSets R (at_ [true, true, false, false] BF_follow_PutSets)) [0, 3, 4] n [(0, Value.pointer y5), (3, Value.pointer y6), (4, Value.int .i64 y7)] h (fun i e' h' => bif Nat.beq i 0 then (K0 h') else none) (fun e' h' => none)
noncomputable def F_follow_PutSets_l1 (F_follow_first : Sl → GH → (Sl → GH → Option β) → Option β) (F_bitio_Writer_Put : Option Addr → Int → Int → GH → (GH → Option β) → Option β) (R : Nat) (n : Nat) (y14 : Option Addr) (y15 : Option Addr) (y16 : Int) (y17 : Sl) (y18 : Int) (y19 : Int) (h : GH) (K2 : Option Addr → Option Addr → Int → GH → Option β) : Option β := gloop (gcode Try.prog (CF_follow_PutSets F_follow_first F_bitio_Writer_Put) Try.f12.ntmps HF_follow_PutSets R (at_ [true, true, false, false, true, false, false, true, true, true, false, false] BF_follow_PutSets)) [0, 3, 4, 21, 22, 23] n [(0, Value.pointer y14), (3, Value.pointer y15), (4, Value.int .i64 y16), (21, Value.slice y17.a y17.n y17.c), (22, Value.int .i64 y18), (23, Value.int .i64 y19)] h (fun i e' h' => bif Nat.beq i 2 then (exP (some (e'.get 0)) fun u32 => exP (some (e'.get 3)) fun u33 => exI .i64 (some (e'.get 4)) fun u34 => K2 u32 u33 u34 h') else none) (fun e' h' => none)
set_option maxRecDepth 100000 in
theorem F_follow_PutSets_l1_succ (F_follow_first : Sl → GH → (Sl → GH → Option β) → Option β) (F_bitio_Writer_Put : Option Addr → Int → Int → GH → (GH → Option β) → Option β) (R : Nat) (n : Nat) (y14 : Option Addr) (y15 : Option Addr) (y16 : Int) (y17 : Sl) (y18 : Int) (y19 : Int) (h : GH) (K2 : Option Addr → Option Addr → Int → GH → Option β) : F_follow_PutSets_l1 F_follow_first F_bitio_Writer_Put R (n + 1) y14 y15 y16 y17 y18 y19 h K2 =
    (bif decide (y19 < y18) then exA y17.a fun g23 o24 => within y19 y17.n (exI .u8 (h.cell ⟨g23, o24 + y19.toNat * 1, none⟩) fun x25 => F_bitio_Writer_Put y14 (IntKind.wrap .u32 x25) 8 h fun h26 => F_follow_PutSets_l1 F_follow_first F_bitio_Writer_Put R n y14 y15 y16 y17 y18 (IntKind.wrap .i64 (y19 + 1)) h26 K2) else K2 y14 y15 y16 h) := by kernel_rfl
set_option maxRecDepth 100000 in
theorem F_follow_PutSets_l0_succ (F_follow_first : Sl → GH → (Sl → GH → Option β) → Option β) (F_bitio_Writer_Put : Option Addr → Int → Int → GH → (GH → Option β) → Option β) (R : Nat) (n : Nat) (y5 : Option Addr) (y6 : Option Addr) (y7 : Int) (h : GH) (K0 : GH → Option β) : F_follow_PutSets_l0 F_follow_first F_bitio_Writer_Put R (n + 1) y5 y6 y7 h K0 =
    (bif decide (y7 ≥ 0) then exA y6 fun g8 o9 => within y7 256 (exS (h.cell ⟨g8, o9 + y7.toNat * 1, none⟩) fun x10 => F_follow_first x10 h fun r11 h12 => F_bitio_Writer_Put y5 (IntKind.wrap .u32 ((r11.n : Nat) : Int)) 6 h12 fun h13 => F_follow_PutSets_l1 F_follow_first F_bitio_Writer_Put R R y5 y6 y7 r11 ((r11.n : Nat) : Int) 0 h13 (fun w27 w28 w29 h30 => F_follow_PutSets_l0 F_follow_first F_bitio_Writer_Put R n w27 w28 (IntKind.wrap .i64 (w29 - 1)) h30 K0)) else K0 h) := by kernel_rfl
noncomputable def G_follow_PutSets (F_follow_first : Sl → GH → (Sl → GH → Option β) → Option β) (F_bitio_Writer_Put : Option Addr → Int → Int → GH → (GH → Option β) → Option β) (R : Nat) (a1 : Option Addr) (a2 : List Value) (h : GH) (K : GH → Option β) : Option β := gfun Try.prog (CF_follow_PutSets F_follow_first F_bitio_Writer_Put) HF_follow_PutSets R Try.f12 [Value.pointer a1, Value.agg (a2).toArray] h (fun _ h' => K h')
set_option maxRecDepth 100000 in
theorem F_follow_PutSets_gen (F_follow_first : Sl → GH → (Sl → GH → Option β) → Option β) (F_bitio_Writer_Put : Option Addr → Int → Int → GH → (GH → Option β) → Option β) (R : Nat) (a1 : Option Addr) (a2 : List Value) (h : GH) (K : GH → Option β) : G_follow_PutSets F_follow_first F_bitio_Writer_Put R a1 a2 h K =
    gnew a2 0 h fun g3 h4 => F_follow_PutSets_l0 F_follow_first F_bitio_Writer_Put R R a1 (some ⟨g3, 0, none⟩) 255 h4 (fun h31 => K h31) := by kernel_rfl
noncomputable def F_follow_PutSets (R : Nat) (a1 : Option Addr) (a2 : List Value) (h : GH) (K : GH → Option β) : Option β := G_follow_PutSets (F_follow_first R) (F_bitio_Writer_Put R) R a1 a2 h K
set_option maxRecDepth 100000 in
theorem CF_follow_PutSets_sim {R : Nat} : SimOrc Try.prog (CF_follow_PutSets (F_follow_first R) (F_bitio_Writer_Put R) (β := β)) := by
  intro f args h K r hc
  unfold CF_follow_PutSets at hc
  cases hb : Nat.beq f 19 with
  | true =>
    rw [hb] at hc
    simp only [cond_true] at hc
    obtain rfl := Nat.eq_of_beq_eq_true hb
    split at hc
    · exact any_call (F_follow_first_sim (K := K) hc)
    · cases hc
  | false =>
  rw [hb] at hc
  simp only [cond_false] at hc
  cases hb : Nat.beq f 20 with
  | true =>
    rw [hb] at hc
    simp only [cond_true] at hc
    obtain rfl := Nat.eq_of_beq_eq_true hb
    split at hc
    · exact any_call (F_bitio_Writer_Put_sim (K := K) hc)
    · cases hc
  | false =>
  rw [hb] at hc
  simp only [cond_false] at hc
  cases hc
set_option maxRecDepth 100000 in
theorem F_follow_PutSets_sim {R : Nat} {r : β} {a1 : Option Addr} {a2 : List Value} {h : GH} {K : Value → GH → Option β} (hc : F_follow_PutSets R a1 a2 h (fun h' => K (Value.tuple #[]) h') = some r) : ∃ v h', K v h' = some r ∧ CallSim Try.prog 12 [Value.pointer a1, Value.agg (a2).toArray] h v h' := by
  unfold F_follow_PutSets G_follow_PutSets at hc
  obtain ⟨v, h', hk, hs⟩ := gfun_sim (CF_follow_PutSets_sim (R := R)) mixed_ok (fun f h => by cases h) Try.func12 (by kernel_rfl) hc
  exact ⟨_, h', hk, hs.unit⟩
/-! F21 bytes.IndexByte -/
def CF_bytes_IndexByte (F_internal_bytealg_IndexByte : Sl → Int → GH → (Int → GH → Option β) → Option β) : Orc β := fun f args h K => bif Nat.beq f 27 then (match args with | [.slice p1a p1n p1c, .int .u8 p2] => F_internal_bytealg_IndexByte ⟨p1a, p1n, p1c⟩ p2 h (fun q1 h' => K (Value.int .i64 q1) h') | _ => none) else none
def HF_bytes_IndexByte : Hints := ⟨[], [], []⟩
noncomputable def G_bytes_IndexByte (F_internal_bytealg_IndexByte : Sl → Int → GH → (Int → GH → Option β) → Option β) (R : Nat) (a1 : Sl) (a2 : Int) (h : GH) (K : Int → GH → Option β) : Option β := gfun Try.prog (CF_bytes_IndexByte F_internal_bytealg_IndexByte) HF_bytes_IndexByte R Try.f21 [Value.slice a1.a a1.n a1.c, Value.int .u8 a2] h (fun v h' => exI .i64 (some v) fun u6 => K u6 h')
set_option maxRecDepth 100000 in
theorem F_bytes_IndexByte_gen (F_internal_bytealg_IndexByte : Sl → Int → GH → (Int → GH → Option β) → Option β) (R : Nat) (a1 : Sl) (a2 : Int) (h : GH) (K : Int → GH → Option β) : G_bytes_IndexByte F_internal_bytealg_IndexByte R a1 a2 h K =
    F_internal_bytealg_IndexByte a1 a2 h fun r3 h4 => K r3 h4 := by kernel_rfl
noncomputable def F_bytes_IndexByte (R : Nat) (a1 : Sl) (a2 : Int) (h : GH) (K : Int → GH → Option β) : Option β := G_bytes_IndexByte F_internal_bytealg_IndexByte R a1 a2 h K
set_option maxRecDepth 100000 in
theorem CF_bytes_IndexByte_sim {R : Nat} : SimOrc Try.prog (CF_bytes_IndexByte F_internal_bytealg_IndexByte (β := β)) := by
  intro f args h K r hc
  unfold CF_bytes_IndexByte at hc
  cases hb : Nat.beq f 27 with
  | true =>
    rw [hb] at hc
    simp only [cond_true] at hc
    obtain rfl := Nat.eq_of_beq_eq_true hb
    split at hc
    · exact any_ext (F_internal_bytealg_IndexByte_sim (K := K) hc)
    · cases hc
  | false =>
  rw [hb] at hc
  simp only [cond_false] at hc
  cases hc
set_option maxRecDepth 100000 in
theorem F_bytes_IndexByte_sim {R : Nat} {r : β} {a1 : Sl} {a2 : Int} {h : GH} {K : Value → GH → Option β} (hc : F_bytes_IndexByte R a1 a2 h (fun q0 h' => K (Value.int .i64 q0) h') = some r) : ∃ v h', K v h' = some r ∧ CallSim Try.prog 21 [Value.slice a1.a a1.n a1.c, Value.int .u8 a2] h v h' := by
  unfold F_bytes_IndexByte G_bytes_IndexByte at hc
  obtain ⟨v, h', hk, hs⟩ := gfun_sim (CF_bytes_IndexByte_sim (R := R)) mixed_ok (fun f h => by cases h) Try.func21 (by kernel_rfl) hc
  obtain ⟨u0, e0, hk⟩ := exI_v hk; cases e0
  exact ⟨_, h', hk, hs⟩
/-! F13 duffel/follow.Put -/
def CF_follow_Put (F_follow_first : Sl → GH → (Sl → GH → Option β) → Option β) (F_bitio_Writer_Put : Option Addr → Int → Int → GH → (GH → Option β) → Option β) (F_bytes_IndexByte : Sl → Int → GH → (Int → GH → Option β) → Option β) (F_follow_Width : Int → GH → (Int → GH → Option β) → Option β) : Orc β := fun f args h K => bif Nat.beq f 19 then (match args with | [.slice p1a p1n p1c] => F_follow_first ⟨p1a, p1n, p1c⟩ h (fun q3 h' => K (Value.slice q3.a q3.n q3.c) h') | _ => none) else (bif Nat.beq f 20 then (match args with | [.pointer p1, .int .u32 p2, .int .i64 p3] => F_bitio_Writer_Put p1 p2 p3 h (fun h' => K (Value.tuple #[]) h') | _ => none) else (bif Nat.beq f 21 then (match args with | [.slice p1a p1n p1c, .int .u8 p2] => F_bytes_IndexByte ⟨p1a, p1n, p1c⟩ p2 h (fun q5 h' => K (Value.int .i64 q5) h') | _ => none) else (bif Nat.beq f 18 then (match args with | [.int .i64 p1] => F_follow_Width p1 h (fun q4 h' => K (Value.int .i64 q4) h') | _ => none) else none)))
def HF_follow_Put : Hints := ⟨[], [], []⟩
noncomputable def G_follow_Put (F_follow_first : Sl → GH → (Sl → GH → Option β) → Option β) (F_bitio_Writer_Put : Option Addr → Int → Int → GH → (GH → Option β) → Option β) (F_bytes_IndexByte : Sl → Int → GH → (Int → GH → Option β) → Option β) (F_follow_Width : Int → GH → (Int → GH → Option β) → Option β) (R : Nat) (a1 : Option Addr) (a2 : List Value) (a3 : Int) (a4 : Int) (h : GH) (K : GH → Option β) : Option β := gfun Try.prog (CF_follow_Put F_follow_first F_bitio_Writer_Put F_bytes_IndexByte F_follow_Width) HF_follow_Put R Try.f13 [Value.pointer a1, Value.agg (a2).toArray, Value.int .u8 a3, Value.int .u8 a4] h (fun _ h' => K h')
set_option maxRecDepth 100000 in
theorem F_follow_Put_gen (F_follow_first : Sl → GH → (Sl → GH → Option β) → Option β) (F_bitio_Writer_Put : Option Addr → Int → Int → GH → (GH → Option β) → Option β) (F_bytes_IndexByte : Sl → Int → GH → (Int → GH → Option β) → Option β) (F_follow_Width : Int → GH → (Int → GH → Option β) → Option β) (R : Nat) (a1 : Option Addr) (a2 : List Value) (a3 : Int) (a4 : Int) (h : GH) (K : GH → Option β) : G_follow_Put F_follow_first F_bitio_Writer_Put F_bytes_IndexByte F_follow_Width R a1 a2 a3 a4 h K =
    gnew a2 0 h fun g5 h6 => within a3 256 (exS (h6.cell ⟨g5, 0 + a3.toNat * 1, none⟩) fun x7 => F_follow_first x7 h6 fun r8 h9 => (bif ((r8.n : Nat) : Int) == 0 then F_bitio_Writer_Put a1 (IntKind.wrap .u32 a4) 8 h9 fun h10 => K h10 else F_bytes_IndexByte r8 a4 h9 fun r11 h12 => (bif decide (r11 ≥ 0) then F_bitio_Writer_Put a1 0 1 h12 fun h13 => F_follow_Width ((r8.n : Nat) : Int) h13 fun r14 h15 => F_bitio_Writer_Put a1 (IntKind.wrap .u32 r11) r14 h15 fun h16 => K h16 else F_bitio_Writer_Put a1 1 1 h12 fun h17 => F_bitio_Writer_Put a1 (IntKind.wrap .u32 a4) 8 h17 fun h18 => K h18))) := by kernel_rfl
noncomputable def F_follow_Put (R : Nat) (a1 : Option Addr) (a2 : List Value) (a3 : Int) (a4 : Int) (h : GH) (K : GH → Option β) : Option β := G_follow_Put (F_follow_first R) (F_bitio_Writer_Put R) (F_bytes_IndexByte R) (F_follow_Width R) R a1 a2 a3 a4 h K
set_option maxRecDepth 100000 in
theorem CF_follow_Put_sim {R : Nat} : SimOrc Try.prog (CF_follow_Put (F_follow_first R) (F_bitio_Writer_Put R) (F_bytes_IndexByte R) (F_follow_Width R) (β := β)) := by
  intro f args h K r hc
  unfold CF_follow_Put at hc
  cases hb : Nat.beq f 19 with
  | true =>
    rw [hb] at hc
    simp only [cond_true] at hc
    obtain rfl := Nat.eq_of_beq_eq_true hb
    split at hc
    · exact any_call (F_follow_first_sim (K := K) hc)
    · cases hc
  | false =>
  rw [hb] at hc
  simp only [cond_false] at hc
  cases hb : Nat.beq f 20 with
  | true =>
    rw [hb] at hc
    simp only [cond_true] at hc
    obtain rfl := Nat.eq_of_beq_eq_true hb
    split at hc
    · exact any_call (F_bitio_Writer_Put_sim (K := K) hc)
    · cases hc
  | false =>
  rw [hb] at hc
  simp only [cond_false] at hc
  cases hb : Nat.beq f 21 with
  | true =>
    rw [hb] at hc
    simp only [cond_true] at hc
    obtain rfl := Nat.eq_of_beq_eq_true hb
    split at hc
    · exact any_call (F_bytes_IndexByte_sim (K := K) hc)
    · cases hc
  | false =>
  rw [hb] at hc
  simp only [cond_false] at hc
  cases hb : Nat.beq f 18 with
  | true =>
    rw [hb] at hc
    simp only [cond_true] at hc
    obtain rfl := Nat.eq_of_beq_eq_true hb
    split at hc
    · exact any_call (F_follow_Width_sim (K := K) hc)
    · cases hc
  | false =>
  rw [hb] at hc
  simp only [cond_false] at hc
  cases hc
set_option maxRecDepth 100000 in
theorem F_follow_Put_sim {R : Nat} {r : β} {a1 : Option Addr} {a2 : List Value} {a3 : Int} {a4 : Int} {h : GH} {K : Value → GH → Option β} (hc : F_follow_Put R a1 a2 a3 a4 h (fun h' => K (Value.tuple #[]) h') = some r) : ∃ v h', K v h' = some r ∧ CallSim Try.prog 13 [Value.pointer a1, Value.agg (a2).toArray, Value.int .u8 a3, Value.int .u8 a4] h v h' := by
  unfold F_follow_Put G_follow_Put at hc
  obtain ⟨v, h', hk, hs⟩ := gfun_sim (CF_follow_Put_sim (R := R)) mixed_ok (fun f h => by cases h) Try.func13 (by kernel_rfl) hc
  exact ⟨_, h', hk, hs.unit⟩
/-! F14 (*duffel/bitio.Writer).Len -/
def CF_bitio_Writer_Len  : Orc β := fun f args h K => none
def HF_bitio_Writer_Len : Hints := ⟨[], [], []⟩
noncomputable def G_bitio_Writer_Len  (R : Nat) (a1 : Option Addr) (h : GH) (K : Int → GH → Option β) : Option β := gfun Try.prog (CF_bitio_Writer_Len ) HF_bitio_Writer_Len R Try.f14 [Value.pointer a1] h (fun v h' => exI .i64 (some v) fun u9 => K u9 h')
set_option maxRecDepth 100000 in
theorem F_bitio_Writer_Len_gen  (R : Nat) (a1 : Option Addr) (h : GH) (K : Int → GH → Option β) : G_bitio_Writer_Len  R a1 h K =
    (bif a1.isNone then K 0 h else exA a1 fun g2 o3 => exS (h.cell ⟨g2, o3 + 0, none⟩) fun x4 => exA a1 fun g5 o6 => exI .i64 (h.cell ⟨g5, o6 + 2, none⟩) fun x7 => K (IntKind.wrap .i64 ((IntKind.wrap .i64 (8 * ((x4.n : Nat) : Int))) + x7)) h) := by kernel_rfl
noncomputable def F_bitio_Writer_Len (R : Nat) (a1 : Option Addr) (h : GH) (K : Int → GH → Option β) : Option β := G_bitio_Writer_Len  R a1 h K
theorem CF_bitio_Writer_Len_sim : SimOrc Try.prog (CF_bitio_Writer_Len (β := β)) := by
  intro f args h K r hc
  cases hc
set_option maxRecDepth 100000 in
theorem F_bitio_Writer_Len_sim {R : Nat} {r : β} {a1 : Option Addr} {h : GH} {K : Value → GH → Option β} (hc : F_bitio_Writer_Len R a1 h (fun q0 h' => K (Value.int .i64 q0) h') = some r) : ∃ v h', K v h' = some r ∧ CallSim Try.prog 14 [Value.pointer a1] h v h' := by
  unfold F_bitio_Writer_Len G_bitio_Writer_Len at hc
  obtain ⟨v, h', hk, hs⟩ := gfun_sim CF_bitio_Writer_Len_sim mixed_ok (fun f h => by cases h) Try.func14 (by kernel_rfl) hc
  obtain ⟨u0, e0, hk⟩ := exI_v hk; cases e0
  exact ⟨_, h', hk, hs⟩
/-! F4 duffel/duffellaw12.FollowFewer -/
def CF_law12_FollowFewer (F_ref01_Cut : Sl → Int → GH → (Sl → GH → Option β) → Option β) (F_follow_Best : Sl → GH → (List Value → GH → Option β) → Option β) (F_bitio_New : GH → (Option Addr → GH → Option β) → Option β) (F_follow_PutSets : Option Addr → List Value → GH → (GH → Option β) → Option β) (F_follow_Put : Option Addr → List Value → Int → Int → GH → (GH → Option β) → Option β) (F_bitio_Writer_Len : Option Addr → GH → (Int → GH → Option β) → Option β) (F_law12_lives : GH → (Bool → GH → Option β) → Option β) : Orc β := fun f args h K => bif Nat.beq f 5 then (match args with | [.slice p1a p1n p1c, .int .i64 p2] => F_ref01_Cut ⟨p1a, p1n, p1c⟩ p2 h (fun q4 h' => K (Value.slice q4.a q4.n q4.c) h') | _ => none) else (bif Nat.beq f 8 then (match args with | [.slice p1a p1n p1c] => F_follow_Best ⟨p1a, p1n, p1c⟩ h (fun q53 h' => K (Value.agg (q53).toArray) h') | _ => none) else (bif Nat.beq f 11 then (match args with | [] => F_bitio_New  h (fun q3 h' => K (Value.pointer q3) h') | _ => none) else (bif Nat.beq f 12 then (match args with | [.pointer p1, .agg ⟨p2⟩] => F_follow_PutSets p1 p2 h (fun h' => K (Value.tuple #[]) h') | _ => none) else (bif Nat.beq f 13 then (match args with | [.pointer p1, .agg ⟨p2⟩, .int .u8 p3, .int .u8 p4] => F_follow_Put p1 p2 p3 p4 h (fun h' => K (Value.tuple #[]) h') | _ => none) else (bif Nat.beq f 14 then (match args with | [.pointer p1] => F_bitio_Writer_Len p1 h (fun q8 h' => K (Value.int .i64 q8) h') | _ => none) else (bif Nat.beq f 10 then (match args with | [] => F_law12_lives  h (fun q1 h' => K (Value.bool q1) h') | _ => none) else none))))))
def HF_law12_FollowFewer : Hints := ⟨[(8, [0, 3, 4, 5, 6, 7], [(0, [(0, .ty 22), (4, .ty 33), (5, .ty 33)])], none)], [], []⟩
noncomputable def BF_law12_FollowFewer : Code := match Try.f4.body with | some c => c | none => .skip
noncomputable def F_law12_FollowFewer_l0 (F_ref01_Cut : Sl → Int → GH → (Sl → GH → Option β) → Option β) (F_follow_Best : Sl → GH → (List Value → GH → Option β) → Option β) (F_bitio_New : GH → (Option Addr → GH → Option β) → Option β) (F_follow_PutSets : Option Addr → List Value → GH → (GH → Option β) → Option β) (F_follow_Put : Option Addr → List Value → Int → Int → GH → (GH → Option β) → Option β) (F_bitio_Writer_Len : Option Addr → GH → (Int → GH → Option β) → Option β) (F_law12_lives : GH → (Bool → GH → Option β) → Option β) (R : Nat) (n : Nat) (y16 : Sl) (y17 : Option Addr) (y18 : Option Addr) (y19 : Option Addr) (y20 : Int) (y21 : Int) (h : GH) (K0 : Sl → Option Addr → Option Addr → GH → Option β) : Option β := gloop (gcode Try.prog (CF_law12_FollowFewer F_ref01_Cut F_follow_Best F_bitio_New F_follow_PutSets F_follow_Put F_bitio_Writer_Len F_law12_lives) Try.f4.ntmps HF_law12_FollowFewer R (at_ [true, true, true, true, true, true, true, false, true, false, false] BF_law12_FollowFewer)) [0, 3, 4, 5, 6, 7] n [(0, Value.slice y16.a y16.n y16.c), (3, Value.pointer y17), (4, Value.pointer y18), (5, Value.pointer y19), (6, Value.int .u8 y20), (7, Value.int .i64 y21)] h (fun i e' h' => bif Nat.beq i 0 then (exS (some (e'.get 0)) fun u52 => exP (some (e'.get 4)) fun u53 => exP (some (e'.get 5)) fun u54 => K0 u52 u53 u54 h') else none) (fun e' h' => none)
set_option maxRecDepth 100000 in
theorem F_law12_FollowFewer_l0_succ (F_ref01_Cut : Sl → Int → GH → (Sl → GH → Option β) → Option β) (F_follow_Best : Sl → GH → (List Value → GH → Option β) → Option β) (F_bitio_New : GH → (Option Addr → GH → Option β) → Option β) (F_follow_PutSets : Option Addr → List Value → GH → (GH → Option β) → Option β) (F_follow_Put : Option Addr → List Value → Int → Int → GH → (GH → Option β) → Option β) (F_bitio_Writer_Len : Option Addr → GH → (Int → GH → Option β) → Option β) (F_law12_lives : GH → (Bool → GH → Option β) → Option β) (R : Nat) (n : Nat) (y16 : Sl) (y17 : Option Addr) (y18 : Option Addr) (y19 : Option Addr) (y20 : Int) (y21 : Int) (h : GH) (K0 : Sl → Option Addr → Option Addr → GH → Option β) : F_law12_FollowFewer_l0 F_ref01_Cut F_follow_Best F_bitio_New F_follow_PutSets F_follow_Put F_bitio_Writer_Len F_law12_lives R (n + 1) y16 y17 y18 y19 y20 y21 h K0 =
    (bif decide (y21 < ((y16.n : Nat) : Int)) then exA y16.a fun g25 o26 => within y21 y16.n (exI .u8 (h.cell ⟨g25, o26 + y21.toNat * 1, none⟩) fun x27 => F_follow_Put y18 [Value.slice none 0 0, Value.slice none 0 0, Value.slice none 0 0, Value.slice none 0 0, Value.slice none 0 0, Value.slice none 0 0, Value.slice none 0 0, Value.slice none 0 0, Value.slice none 0 0, Value.slice none 0 0, Value.slice none 0 0, Value.slice none 0 0, Value.slice none 0 0, Value.slice none 0 0, Value.slice none 0 0, Value.slice none 0 0, Value.slice none 0 0, Value.slice none 0 0, Value.slice none 0 0, Value.slice none 0 0, Value.slice none 0 0, Value.slice none 0 0, Value.slice none 0 0, Value.slice none 0 0, Value.slice none 0 0, Value.slice none 0 0, Value.slice none 0 0, Value.slice none 0 0, Value.slice none 0 0, Value.slice none 0 0, Value.slice none 0 0, Value.slice none 0 0, Value.slice none 0 0, Value.slice none 0 0, Value.slice none 0 0, Value.slice none 0 0, Value.slice none 0 0, Value.slice none 0 0, Value.slice none 0 0, Value.slice none 0 0, Value.slice none 0 0, Value.slice none 0 0, Value.slice none 0 0, Value.slice none 0 0, Value.slice none 0 0, Value.slice none 0 0, Value.slice none 0 0, Value.slice none 0 0, Value.slice none 0 0, Value.slice none 0 0, Value.slice none 0 0, Value.slice none 0 0, Value.slice none 0 0, Value.slice none 0 0, Value.slice none 0 0, Value.slice none 0 0, Value.slice none 0 0, Value.slice none 0 0, Value.slice none 0 0, Value.slice none 0 0, Value.slice none 0 0, Value.slice none 0 0, Value.slice none 0 0, Value.slice none 0 0, Value.slice none 0 0, Value.slice none 0 0, Value.slice none 0 0, Value.slice none 0 0, Value.slice none 0 0, Value.slice none 0 0, Value.slice none 0 0, Value.slice none 0 0, Value.slice none 0 0, Value.slice none 0 0, Value.slice none 0 0, Value.slice none 0 0, Value.slice none 0 0, Value.slice none 0 0, Value.slice none 0 0, Value.slice none 0 0, Value.slice none 0 0, Value.slice none 0 0, Value.slice none 0 0, Value.slice none 0 0, Value.slice none 0 0, Value.slice none 0 0, Value.slice none 0 0, Value.slice none 0 0, Value.slice none 0 0, Value.slice none 0 0, Value.slice none 0 0, Value.slice none 0 0, Value.slice none 0 0, Value.slice none 0 0, Value.slice none 0 0, Value.slice none 0 0, Value.slice none 0 0, Value.slice none 0 0, Value.slice none 0 0, Value.slice none 0 0, Value.slice none 0 0, Value.slice none 0 0, Value.slice none 0 0, Value.slice none 0 0, Value.slice none 0 0, Value.slice none 0 0, Value.slice none 0 0, Value.slice none 0 0, Value.slice none 0 0, Value.slice none 0 0, Value.slice none 0 0, Value.slice none 0 0, Value.slice none 0 0, Value.slice none 0 0, Value.slice none 0 0, Value.slice none 0 0, Value.slice none 0 0, Value.slice none 0 0, Value.slice none 0 0, Value.slice none 0 0, Value.slice none 0 0, Value.slice none 0 0, Value.slice none 0 0, Value.slice none 0 0, Value.slice none 0 0, Value.slice none 0 0, Value.slice none 0 0, Value.slice none 0 0, Value.slice none 0 0, Value.slice none 0 0, Value.slice none 0 0, Value.slice none 0 0, Value.slice none 0 0, Value.slice none 0 0, Value.slice none 0 0, Value.slice none 0 0, Value.slice none 0 0, Value.slice none 0 0, Value.slice none 0 0, Value.slice none 0 0, Value.slice none 0 0, Value.slice none 0 0, Value.slice none 0 0, Value.slice none 0 0, Value.slice none 0 0, Value.slice none 0 0, Value.slice none 0 0, Value.slice none 0 0, Value.slice none 0 0, Value.slice none 0 0, Value.slice none 0 0, Value.slice none 0 0, Value.slice none 0 0, Value.slice none 0 0, Value.slice none 0 0, Value.slice none 0 0, Value.slice none 0 0, Value.slice none 0 0, Value.slice none 0 0, Value.slice none 0 0, Value.slice none 0 0, Value.slice none 0 0, Value.slice none 0 0, Value.slice none 0 0, Value.slice none 0 0, Value.slice none 0 0, Value.slice none 0 0, Value.slice none 0 0, Value.slice none 0 0, Value.slice none 0 0, Value.slice none 0 0, Value.slice none 0 0, Value.slice none 0 0, Value.slice none 0 0, Value.slice none 0 0, Value.slice none 0 0, Value.slice none 0 0, Value.slice none 0 0, Value.slice none 0 0, Value.slice none 0 0, Value.slice none 0 0, Value.slice none 0 0, Value.slice none 0 0, Value.slice none 0 0, Value.slice none 0 0, Value.slice none 0 0, Value.slice none 0 0, Value.slice none 0 0, Value.slice none 0 0, Value.slice none 0 0, Value.slice none 0 0, Value.slice none 0 0, Value.slice none 0 0, Value.slice none 0 0, Value.slice none 0 0, Value.slice none 0 0, Value.slice none 0 0, Value.slice none 0 0, Value.slice none 0 0, Value.slice none 0 0, Value.slice none 0 0, Value.slice none 0 0, Value.slice none 0 0, Value.slice none 0 0, Value.slice none 0 0, Value.slice none 0 0, Value.slice none 0 0, Value.slice none 0 0, Value.slice none 0 0, Value.slice none 0 0, Value.slice none 0 0, Value.slice none 0 0, Value.slice none 0 0, Value.slice none 0 0, Value.slice none 0 0, Value.slice none 0 0, Value.slice none 0 0, Value.slice none 0 0, Value.slice none 0 0, Value.slice none 0 0, Value.slice none 0 0, Value.slice none 0 0, Value.slice none 0 0, Value.slice none 0 0, Value.slice none 0 0, Value.slice none 0 0, Value.slice none 0 0, Value.slice none 0 0, Value.slice none 0 0, Value.slice none 0 0, Value.slice none 0 0, Value.slice none 0 0, Value.slice none 0 0, Value.slice none 0 0, Value.slice none 0 0, Value.slice none 0 0, Value.slice none 0 0, Value.slice none 0 0, Value.slice none 0 0, Value.slice none 0 0, Value.slice none 0 0, Value.slice none 0 0, Value.slice none 0 0, Value.slice none 0 0, Value.slice none 0 0, Value.slice none 0 0, Value.slice none 0 0, Value.slice none 0 0, Value.slice none 0 0, Value.slice none 0 0, Value.slice none 0 0, Value.slice none 0 0, Value.slice none 0 0, Value.slice none 0 0, Value.slice none 0 0, Value.slice none 0 0] y20 x27 h fun h28 => exA y17 fun g29 o30 => exL (nsub (rowCells (h28.look g29)) (o30) 256) fun x31 => exA y16.a fun g32 o33 => within y21 y16.n (exI .u8 (h28.cell ⟨g32, o33 + y21.toNat * 1, none⟩) fun x34 => F_follow_Put y19 x31 y20 x34 h28 fun h35 => exA y16.a fun g36 o37 => within y21 y16.n (exI .u8 (h35.cell ⟨g36, o37 + y21.toNat * 1, none⟩) fun x38 => F_law12_FollowFewer_l0 F_ref01_Cut F_follow_Best F_bitio_New F_follow_PutSets F_follow_Put F_bitio_Writer_Len F_law12_lives R n y16 y17 y18 y19 x38 (IntKind.wrap .i64 (y21 + 1)) h35 K0))) else K0 y16 y18 y19 h) := by kernel_rfl
noncomputable def G_law12_FollowFewer (F_ref01_Cut : Sl → Int → GH → (Sl → GH → Option β) → Option β) (F_follow_Best : Sl → GH → (List Value → GH → Option β) → Option β) (F_bitio_New : GH → (Option Addr → GH → Option β) → Option β) (F_follow_PutSets : Option Addr → List Value → GH → (GH → Option β) → Option β) (F_follow_Put : Option Addr → List Value → Int → Int → GH → (GH → Option β) → Option β) (F_bitio_Writer_Len : Option Addr → GH → (Int → GH → Option β) → Option β) (F_law12_lives : GH → (Bool → GH → Option β) → Option β) (R : Nat) (a1 : Sl) (h : GH) (K : Bool → GH → Option β) : Option β := gfun Try.prog (CF_law12_FollowFewer F_ref01_Cut F_follow_Best F_bitio_New F_follow_PutSets F_follow_Put F_bitio_Writer_Len F_law12_lives) HF_law12_FollowFewer R Try.f4 [Value.slice a1.a a1.n a1.c] h (fun v h' => exB (some v) fun u55 => K u55 h')
set_option maxRecDepth 100000 in
theorem F_law12_FollowFewer_gen (F_ref01_Cut : Sl → Int → GH → (Sl → GH → Option β) → Option β) (F_follow_Best : Sl → GH → (List Value → GH → Option β) → Option β) (F_bitio_New : GH → (Option Addr → GH → Option β) → Option β) (F_follow_PutSets : Option Addr → List Value → GH → (GH → Option β) → Option β) (F_follow_Put : Option Addr → List Value → Int → Int → GH → (GH → Option β) → Option β) (F_bitio_Writer_Len : Option Addr → GH → (Int → GH → Option β) → Option β) (F_law12_lives : GH → (Bool → GH → Option β) → Option β) (R : Nat) (a1 : Sl) (h : GH) (K : Bool → GH → Option β) : G_law12_FollowFewer F_ref01_Cut F_follow_Best F_bitio_New F_follow_PutSets F_follow_Put F_bitio_Writer_Len F_law12_lives R a1 h K =
    F_ref01_Cut a1 300 h fun r2 h3 => F_follow_Best r2 h3 fun r4 h5 => gnew Z28 0 h5 fun g6 h7 => (bif Nat.beq (r4).length 256 then gput g6 (0) r4 h7 fun h8 => F_bitio_New h8 fun r9 h10 => F_bitio_New h10 fun r11 h12 => F_follow_PutSets r9 [Value.slice none 0 0, Value.slice none 0 0, Value.slice none 0 0, Value.slice none 0 0, Value.slice none 0 0, Value.slice none 0 0, Value.slice none 0 0, Value.slice none 0 0, Value.slice none 0 0, Value.slice none 0 0, Value.slice none 0 0, Value.slice none 0 0, Value.slice none 0 0, Value.slice none 0 0, Value.slice none 0 0, Value.slice none 0 0, Value.slice none 0 0, Value.slice none 0 0, Value.slice none 0 0, Value.slice none 0 0, Value.slice none 0 0, Value.slice none 0 0, Value.slice none 0 0, Value.slice none 0 0, Value.slice none 0 0, Value.slice none 0 0, Value.slice none 0 0, Value.slice none 0 0, Value.slice none 0 0, Value.slice none 0 0, Value.slice none 0 0, Value.slice none 0 0, Value.slice none 0 0, Value.slice none 0 0, Value.slice none 0 0, Value.slice none 0 0, Value.slice none 0 0, Value.slice none 0 0, Value.slice none 0 0, Value.slice none 0 0, Value.slice none 0 0, Value.slice none 0 0, Value.slice none 0 0, Value.slice none 0 0, Value.slice none 0 0, Value.slice none 0 0, Value.slice none 0 0, Value.slice none 0 0, Value.slice none 0 0, Value.slice none 0 0, Value.slice none 0 0, Value.slice none 0 0, Value.slice none 0 0, Value.slice none 0 0, Value.slice none 0 0, Value.slice none 0 0, Value.slice none 0 0, Value.slice none 0 0, Value.slice none 0 0, Value.slice none 0 0, Value.slice none 0 0, Value.slice none 0 0, Value.slice none 0 0, Value.slice none 0 0, Value.slice none 0 0, Value.slice none 0 0, Value.slice none 0 0, Value.slice none 0 0, Value.slice none 0 0, Value.slice none 0 0, Value.slice none 0 0, Value.slice none 0 0, Value.slice none 0 0, Value.slice none 0 0, Value.slice none 0 0, Value.slice none 0 0, Value.slice none 0 0, Value.slice none 0 0, Value.slice none 0 0, Value.slice none 0 0, Value.slice none 0 0, Value.slice none 0 0, Value.slice none 0 0, Value.slice none 0 0, Value.slice none 0 0, Value.slice none 0 0, Value.slice none 0 0, Value.slice none 0 0, Value.slice none 0 0, Value.slice none 0 0, Value.slice none 0 0, Value.slice none 0 0, Value.slice none 0 0, Value.slice none 0 0, Value.slice none 0 0, Value.slice none 0 0, Value.slice none 0 0, Value.slice none 0 0, Value.slice none 0 0, Value.slice none 0 0, Value.slice none 0 0, Value.slice none 0 0, Value.slice none 0 0, Value.slice none 0 0, Value.slice none 0 0, Value.slice none 0 0, Value.slice none 0 0, Value.slice none 0 0, Value.slice none 0 0, Value.slice none 0 0, Value.slice none 0 0, Value.slice none 0 0, Value.slice none 0 0, Value.slice none 0 0, Value.slice none 0 0, Value.slice none 0 0, Value.slice none 0 0, Value.slice none 0 0, Value.slice none 0 0, Value.slice none 0 0, Value.slice none 0 0, Value.slice none 0 0, Value.slice none 0 0, Value.slice none 0 0, Value.slice none 0 0, Value.slice none 0 0, Value.slice none 0 0, Value.slice none 0 0, Value.slice none 0 0, Value.slice none 0 0, Value.slice none 0 0, Value.slice none 0 0, Value.slice none 0 0, Value.slice none 0 0, Value.slice none 0 0, Value.slice none 0 0, Value.slice none 0 0, Value.slice none 0 0, Value.slice none 0 0, Value.slice none 0 0, Value.slice none 0 0, Value.slice none 0 0, Value.slice none 0 0, Value.slice none 0 0, Value.slice none 0 0, Value.slice none 0 0, Value.slice none 0 0, Value.slice none 0 0, Value.slice none 0 0, Value.slice none 0 0, Value.slice none 0 0, Value.slice none 0 0, Value.slice none 0 0, Value.slice none 0 0, Value.slice none 0 0, Value.slice none 0 0, Value.slice none 0 0, Value.slice none 0 0, Value.slice none 0 0, Value.slice none 0 0, Value.slice none 0 0, Value.slice none 0 0, Value.slice none 0 0, Value.slice none 0 0, Value.slice none 0 0, Value.slice none 0 0, Value.slice none 0 0, Value.slice none 0 0, Value.slice none 0 0, Value.slice none 0 0, Value.slice none 0 0, Value.slice none 0 0, Value.slice none 0 0, Value.slice none 0 0, Value.slice none 0 0, Value.slice none 0 0, Value.slice none 0 0, Value.slice none 0 0, Value.slice none 0 0, Value.slice none 0 0, Value.slice none 0 0, Value.slice none 0 0, Value.slice none 0 0, Value.slice none 0 0, Value.slice none 0 0, Value.slice none 0 0, Value.slice none 0 0, Value.slice none 0 0, Value.slice none 0 0, Value.slice none 0 0, Value.slice none 0 0, Value.slice none 0 0, Value.slice none 0 0, Value.slice none 0 0, Value.slice none 0 0, Value.slice none 0 0, Value.slice none 0 0, Value.slice none 0 0, Value.slice none 0 0, Value.slice none 0 0, Value.slice none 0 0, Value.slice none 0 0, Value.slice none 0 0, Value.slice none 0 0, Value.slice none 0 0, Value.slice none 0 0, Value.slice none 0 0, Value.slice none 0 0, Value.slice none 0 0, Value.slice none 0 0, Value.slice none 0 0, Value.slice none 0 0, Value.slice none 0 0, Value.slice none 0 0, Value.slice none 0 0, Value.slice none 0 0, Value.slice none 0 0, Value.slice none 0 0, Value.slice none 0 0, Value.slice none 0 0, Value.slice none 0 0, Value.slice none 0 0, Value.slice none 0 0, Value.slice none 0 0, Value.slice none 0 0, Value.slice none 0 0, Value.slice none 0 0, Value.slice none 0 0, Value.slice none 0 0, Value.slice none 0 0, Value.slice none 0 0, Value.slice none 0 0, Value.slice none 0 0, Value.slice none 0 0, Value.slice none 0 0, Value.slice none 0 0, Value.slice none 0 0, Value.slice none 0 0, Value.slice none 0 0, Value.slice none 0 0, Value.slice none 0 0, Value.slice none 0 0, Value.slice none 0 0, Value.slice none 0 0, Value.slice none 0 0, Value.slice none 0 0, Value.slice none 0 0, Value.slice none 0 0, Value.slice none 0 0, Value.slice none 0 0, Value.slice none 0 0, Value.slice none 0 0, Value.slice none 0 0, Value.slice none 0 0, Value.slice none 0 0, Value.slice none 0 0] h12 fun h13 => exL (nsub (rowCells (h13.look g6)) (0) 256) fun x14 => F_follow_PutSets r11 x14 h13 fun h15 => F_law12_FollowFewer_l0 F_ref01_Cut F_follow_Best F_bitio_New F_follow_PutSets F_follow_Put F_bitio_Writer_Len F_law12_lives R R r2 (some ⟨g6, 0, none⟩) r9 r11 0 0 h15 (fun w39 w40 w41 h42 => F_bitio_Writer_Len w41 h42 fun r43 h44 => F_bitio_Writer_Len w40 h44 fun r45 h46 => (bif decide (r43 ≤ r45) then F_bitio_Writer_Len w40 h46 fun r47 h48 => (bif r47 == (IntKind.wrap .i64 (1536 + (IntKind.wrap .i64 (8 * ((w39.n : Nat) : Int))))) then F_law12_lives h48 fun r49 h50 => K r49 h50 else K false h48) else K false h46)) else none) := by kernel_rfl
noncomputable def F_law12_FollowFewer (R : Nat) (a1 : Sl) (h : GH) (K : Bool → GH → Option β) : Option β := G_law12_FollowFewer (F_ref01_Cut R) (F_follow_Best R) (F_bitio_New R) (F_follow_PutSets R) (F_follow_Put R) (F_bitio_Writer_Len R) F_law12_lives R a1 h K
set_option maxRecDepth 100000 in
theorem CF_law12_FollowFewer_sim {R : Nat} : SimOrc Try.prog (CF_law12_FollowFewer (F_ref01_Cut R) (F_follow_Best R) (F_bitio_New R) (F_follow_PutSets R) (F_follow_Put R) (F_bitio_Writer_Len R) F_law12_lives (β := β)) := by
  intro f args h K r hc
  unfold CF_law12_FollowFewer at hc
  cases hb : Nat.beq f 5 with
  | true =>
    rw [hb] at hc
    simp only [cond_true] at hc
    obtain rfl := Nat.eq_of_beq_eq_true hb
    split at hc
    · exact any_call (F_ref01_Cut_sim (K := K) hc)
    · cases hc
  | false =>
  rw [hb] at hc
  simp only [cond_false] at hc
  cases hb : Nat.beq f 8 with
  | true =>
    rw [hb] at hc
    simp only [cond_true] at hc
    obtain rfl := Nat.eq_of_beq_eq_true hb
    split at hc
    · exact any_call (F_follow_Best_sim (K := K) hc)
    · cases hc
  | false =>
  rw [hb] at hc
  simp only [cond_false] at hc
  cases hb : Nat.beq f 11 with
  | true =>
    rw [hb] at hc
    simp only [cond_true] at hc
    obtain rfl := Nat.eq_of_beq_eq_true hb
    split at hc
    · exact any_call (F_bitio_New_sim (K := K) hc)
    · cases hc
  | false =>
  rw [hb] at hc
  simp only [cond_false] at hc
  cases hb : Nat.beq f 12 with
  | true =>
    rw [hb] at hc
    simp only [cond_true] at hc
    obtain rfl := Nat.eq_of_beq_eq_true hb
    split at hc
    · exact any_call (F_follow_PutSets_sim (K := K) hc)
    · cases hc
  | false =>
  rw [hb] at hc
  simp only [cond_false] at hc
  cases hb : Nat.beq f 13 with
  | true =>
    rw [hb] at hc
    simp only [cond_true] at hc
    obtain rfl := Nat.eq_of_beq_eq_true hb
    split at hc
    · exact any_call (F_follow_Put_sim (K := K) hc)
    · cases hc
  | false =>
  rw [hb] at hc
  simp only [cond_false] at hc
  cases hb : Nat.beq f 14 with
  | true =>
    rw [hb] at hc
    simp only [cond_true] at hc
    obtain rfl := Nat.eq_of_beq_eq_true hb
    split at hc
    · exact any_call (F_bitio_Writer_Len_sim (K := K) hc)
    · cases hc
  | false =>
  rw [hb] at hc
  simp only [cond_false] at hc
  cases hb : Nat.beq f 10 with
  | true =>
    rw [hb] at hc
    simp only [cond_true] at hc
    obtain rfl := Nat.eq_of_beq_eq_true hb
    split at hc
    · exact any_call (F_law12_lives_sim (K := K) hc)
    · cases hc
  | false =>
  rw [hb] at hc
  simp only [cond_false] at hc
  cases hc
set_option maxRecDepth 100000 in
theorem F_law12_FollowFewer_sim {R : Nat} {r : β} {a1 : Sl} {h : GH} {K : Value → GH → Option β} (hc : F_law12_FollowFewer R a1 h (fun q0 h' => K (Value.bool q0) h') = some r) : ∃ v h', K v h' = some r ∧ CallSim Try.prog 4 [Value.slice a1.a a1.n a1.c] h v h' := by
  unfold F_law12_FollowFewer G_law12_FollowFewer at hc
  obtain ⟨v, h', hk, hs⟩ := gfun_sim (CF_law12_FollowFewer_sim (R := R)) mixed_ok (fun f h => by cases h) Try.func4 (by kernel_rfl) hc
  obtain ⟨u0, e0, hk⟩ := exB_v hk; cases e0
  exact ⟨_, h', hk, hs⟩
end
end Go.Proofs.Ytcpgnodiphlfhaa.Gx
