/- Functions of the program as the plain machine has them, each with its equation. Printed by a program of this place (wip/gx/gx.py) out of the translation. No condition. -/
import Derived.Test.YtephmpbccajaaaaGxV
import Derived.Test.YtephmpbccajaaaaProg
import Derived.Test.YtephmpbccajaaaaLv
namespace Go.Proofs.Ytephmpbccajaaaa.Gx
open Go
set_option linter.unusedVariables false
theorem mixed_ok : Try.prog.follows .mixedOrders = true := by kernel_rfl
section
variable {β : Type}
/-! F9 duffel/duffelref01.Ints -/
def CF_ref01_Ints  : Orc β := fun f args h K => none
def HF_ref01_Ints : Hints := ⟨[], [], []⟩
noncomputable def G_ref01_Ints  (R : Nat) (a1 : Sl) (a2 : Int) (h : GH) (K : Sl → GH → Option β) : Option β := gfun Try.prog (CF_ref01_Ints ) HF_ref01_Ints R Try.f9 [Value.slice a1.a a1.n a1.c, Value.int .i64 a2] h (fun v h' => exS (some v) fun u5 => K u5 h')
set_option maxRecDepth 100000 in
theorem F_ref01_Ints_gen  (R : Nat) (a1 : Sl) (a2 : Int) (h : GH) (K : Sl → GH → Option β) : G_ref01_Ints  R a1 a2 h K =
    (bif decide (((a1.n : Nat) : Int) > a2) then bnd a2 a1.c fun m3 => K ⟨addO a1.a (0 * 1), m3 - 0, a1.c - 0⟩ h else K a1 h) := by kernel_rfl
noncomputable def F_ref01_Ints (R : Nat) (a1 : Sl) (a2 : Int) (h : GH) (K : Sl → GH → Option β) : Option β := G_ref01_Ints  R a1 a2 h K
theorem CF_ref01_Ints_sim : SimOrc Try.prog (CF_ref01_Ints (β := β)) := by
  intro f args h K r hc
  cases hc
set_option maxRecDepth 100000 in
theorem F_ref01_Ints_sim {R : Nat} {r : β} {a1 : Sl} {a2 : Int} {h : GH} {K : Value → GH → Option β} (hc : F_ref01_Ints R a1 a2 h (fun q0 h' => K (Value.slice q0.a q0.n q0.c) h') = some r) : ∃ v h', K v h' = some r ∧ CallSim Try.prog 9 [Value.slice a1.a a1.n a1.c, Value.int .i64 a2] h v h' := by
  unfold F_ref01_Ints G_ref01_Ints at hc
  obtain ⟨v, h', hk, hs⟩ := gfun_sim CF_ref01_Ints_sim mixed_ok (fun f h => by cases h) Try.func9 (by kernel_rfl) hc
  obtain ⟨u0, e0, hk⟩ := exS_v hk; cases e0
  exact ⟨_, h', hk, hs⟩
/-! F52 duffel/sfano.right$1 -/
def CF_sfano_right_1  : Orc β := fun f args h K => none
def HF_sfano_right_1 : Hints := ⟨[], [], []⟩
noncomputable def G_sfano_right_1  (R : Nat) (a1 : Int) (h : GH) (K : Bool → GH → Option β) : Option β := gfun Try.prog (CF_sfano_right_1 ) HF_sfano_right_1 R Try.f52 [Value.int .i64 a1] h (fun v h' => exB (some v) fun u3 => K u3 h')
set_option maxRecDepth 100000 in
theorem F_sfano_right_1_gen  (R : Nat) (a1 : Int) (h : GH) (K : Bool → GH → Option β) : G_sfano_right_1  R a1 h K =
    (bif decide (a1 < 1) then K true h else K (decide (a1 > 16)) h) := by kernel_rfl
noncomputable def F_sfano_right_1 (R : Nat) (a1 : Int) (h : GH) (K : Bool → GH → Option β) : Option β := G_sfano_right_1  R a1 h K
theorem CF_sfano_right_1_sim : SimOrc Try.prog (CF_sfano_right_1 (β := β)) := by
  intro f args h K r hc
  cases hc
set_option maxRecDepth 100000 in
theorem F_sfano_right_1_sim {R : Nat} {r : β} {a1 : Int} {h : GH} {K : Value → GH → Option β} (hc : F_sfano_right_1 R a1 h (fun q0 h' => K (Value.bool q0) h') = some r) : ∃ v h', K v h' = some r ∧ CallSim Try.prog 52 [Value.int .i64 a1] h v h' := by
  unfold F_sfano_right_1 G_sfano_right_1 at hc
  obtain ⟨v, h', hk, hs⟩ := gfun_sim CF_sfano_right_1_sim mixed_ok (fun f h => by cases h) Try.func52 (by kernel_rfl) hc
  obtain ⟨u0, e0, hk⟩ := exB_v hk; cases e0
  exact ⟨_, h', hk, hs⟩
/-! F62 slices.IndexFunc[[]int,int] -/
def CF_slices_IndexFunc_int_s1 (F_sfano_right_1 : Int → GH → (Bool → GH → Option β) → Option β) : Orc β := fun f args h K => bif Nat.beq f 52 then (match args with | [.int .i64 p1] => F_sfano_right_1 p1 h (fun q2 h' => K (Value.bool q2) h') | _ => none) else none
def HF_slices_IndexFunc_int_s1 : Hints := ⟨[(2, [0, 1, 7, 8], [(0, [])], some [(4, .ty 3)])], [], []⟩
noncomputable def BF_slices_IndexFunc_int_s1 : Code := match Try.f62.body with | some c => c | none => .skip
noncomputable def F_slices_IndexFunc_int_s1_l0 (F_sfano_right_1 : Int → GH → (Bool → GH → Option β) → Option β) (R : Nat) (n : Nat) (y2 : Sl) (y3 : Int) (y4 : Int) (h : GH) (K0 : GH → Option β) (Kr : Int → GH → Option β) : Option β := gloop (gcode Try.prog (CF_slices_IndexFunc_int_s1 F_sfano_right_1) Try.f62.ntmps HF_slices_IndexFunc_int_s1 R (at_ [true, false, true, false, false] BF_slices_IndexFunc_int_s1)) [0, 1, 7, 8] n [(0, Value.slice y2.a y2.n y2.c), (1, Value.func (.func 52) #[] #[]), (7, Value.int .i64 y3), (8, Value.int .i64 y4)] h (fun i e' h' => bif Nat.beq i 0 then (K0 h') else none) (fun e' h' => exI .i64 (some (e'.get 4)) fun u15 => Kr u15 h')
set_option maxRecDepth 100000 in
theorem F_slices_IndexFunc_int_s1_l0_succ (F_sfano_right_1 : Int → GH → (Bool → GH → Option β) → Option β) (R : Nat) (n : Nat) (y2 : Sl) (y3 : Int) (y4 : Int) (h : GH) (K0 : GH → Option β) (Kr : Int → GH → Option β) : F_slices_IndexFunc_int_s1_l0 F_sfano_right_1 R (n + 1) y2 y3 y4 h K0 Kr =
    (bif decide (y4 < y3) then exA y2.a fun g6 o7 => within y4 y2.n (exI .i64 (h.cell ⟨g6, o7 + y4.toNat * 1, none⟩) fun x8 => F_sfano_right_1 x8 h fun r9 h10 => (bif r9 then Kr y4 h10 else F_slices_IndexFunc_int_s1_l0 F_sfano_right_1 R n y2 y3 (IntKind.wrap .i64 (y4 + 1)) h10 K0 Kr)) else K0 h) := by kernel_rfl
noncomputable def G_slices_IndexFunc_int_s1 (F_sfano_right_1 : Int → GH → (Bool → GH → Option β) → Option β) (R : Nat) (a1 : Sl) (h : GH) (K : Int → GH → Option β) : Option β := gfun Try.prog (CF_slices_IndexFunc_int_s1 F_sfano_right_1) HF_slices_IndexFunc_int_s1 R Try.f62 [Value.slice a1.a a1.n a1.c, Value.func (.func 52) #[] #[]] h (fun v h' => exI .i64 (some v) fun u16 => K u16 h')
set_option maxRecDepth 100000 in
theorem F_slices_IndexFunc_int_s1_gen (F_sfano_right_1 : Int → GH → (Bool → GH → Option β) → Option β) (R : Nat) (a1 : Sl) (h : GH) (K : Int → GH → Option β) : G_slices_IndexFunc_int_s1 F_sfano_right_1 R a1 h K =
    F_slices_IndexFunc_int_s1_l0 F_sfano_right_1 R R a1 ((a1.n : Nat) : Int) 0 h (fun h11 => K (-1) h11) (fun w12 h13 => K w12 h13) := by kernel_rfl
noncomputable def F_slices_IndexFunc_int_s1 (R : Nat) (a1 : Sl) (h : GH) (K : Int → GH → Option β) : Option β := G_slices_IndexFunc_int_s1 (F_sfano_right_1 R) R a1 h K
set_option maxRecDepth 100000 in
theorem CF_slices_IndexFunc_int_s1_sim {R : Nat} : SimOrc Try.prog (CF_slices_IndexFunc_int_s1 (F_sfano_right_1 R) (β := β)) := by
  intro f args h K r hc
  unfold CF_slices_IndexFunc_int_s1 at hc
  cases hb : Nat.beq f 52 with
  | true =>
    rw [hb] at hc
    simp only [cond_true] at hc
    obtain rfl := Nat.eq_of_beq_eq_true hb
    split at hc
    · exact any_call (F_sfano_right_1_sim (K := K) hc)
    · cases hc
  | false =>
  rw [hb] at hc
  simp only [cond_false] at hc
  cases hc
set_option maxRecDepth 100000 in
theorem F_slices_IndexFunc_int_s1_sim {R : Nat} {r : β} {a1 : Sl} {h : GH} {K : Value → GH → Option β} (hc : F_slices_IndexFunc_int_s1 R a1 h (fun q0 h' => K (Value.int .i64 q0) h') = some r) : ∃ v h', K v h' = some r ∧ CallSim Try.prog 62 [Value.slice a1.a a1.n a1.c, Value.func (.func 52) #[] #[]] h v h' := by
  unfold F_slices_IndexFunc_int_s1 G_slices_IndexFunc_int_s1 at hc
  obtain ⟨v, h', hk, hs⟩ := gfun_sim CF_slices_IndexFunc_int_s1_sim mixed_ok (fun f h => by cases h) Try.func62 (by kernel_rfl) hc
  obtain ⟨u0, e0, hk⟩ := exI_v hk; cases e0
  exact ⟨_, h', hk, hs⟩
/-! F51 slices.ContainsFunc[[]int,int] -/
def CF_slices_ContainsFunc_int_s1 (F_slices_IndexFunc_int_s1 : Sl → GH → (Int → GH → Option β) → Option β) : Orc β := fun f args h K => bif Nat.beq f 62 then (match args with | [.slice p1a p1n p1c, .func (.func 52) ⟨[]⟩ ⟨[]⟩] => F_slices_IndexFunc_int_s1 ⟨p1a, p1n, p1c⟩ h (fun q14 h' => K (Value.int .i64 q14) h') | _ => none) else none
def HF_slices_ContainsFunc_int_s1 : Hints := ⟨[], [], []⟩
noncomputable def G_slices_ContainsFunc_int_s1 (F_slices_IndexFunc_int_s1 : Sl → GH → (Int → GH → Option β) → Option β) (R : Nat) (a1 : Sl) (h : GH) (K : Bool → GH → Option β) : Option β := gfun Try.prog (CF_slices_ContainsFunc_int_s1 F_slices_IndexFunc_int_s1) HF_slices_ContainsFunc_int_s1 R Try.f51 [Value.slice a1.a a1.n a1.c, Value.func (.func 52) #[] #[]] h (fun v h' => exB (some v) fun u5 => K u5 h')
set_option maxRecDepth 100000 in
theorem F_slices_ContainsFunc_int_s1_gen (F_slices_IndexFunc_int_s1 : Sl → GH → (Int → GH → Option β) → Option β) (R : Nat) (a1 : Sl) (h : GH) (K : Bool → GH → Option β) : G_slices_ContainsFunc_int_s1 F_slices_IndexFunc_int_s1 R a1 h K =
    F_slices_IndexFunc_int_s1 a1 h fun r2 h3 => K (decide (r2 ≥ 0)) h3 := by kernel_rfl
noncomputable def F_slices_ContainsFunc_int_s1 (R : Nat) (a1 : Sl) (h : GH) (K : Bool → GH → Option β) : Option β := G_slices_ContainsFunc_int_s1 (F_slices_IndexFunc_int_s1 R) R a1 h K
set_option maxRecDepth 100000 in
theorem CF_slices_ContainsFunc_int_s1_sim {R : Nat} : SimOrc Try.prog (CF_slices_ContainsFunc_int_s1 (F_slices_IndexFunc_int_s1 R) (β := β)) := by
  intro f args h K r hc
  unfold CF_slices_ContainsFunc_int_s1 at hc
  cases hb : Nat.beq f 62 with
  | true =>
    rw [hb] at hc
    simp only [cond_true] at hc
    obtain rfl := Nat.eq_of_beq_eq_true hb
    split at hc
    · exact any_call (F_slices_IndexFunc_int_s1_sim (K := K) hc)
    · cases hc
  | false =>
  rw [hb] at hc
  simp only [cond_false] at hc
  cases hc
set_option maxRecDepth 100000 in
theorem F_slices_ContainsFunc_int_s1_sim {R : Nat} {r : β} {a1 : Sl} {h : GH} {K : Value → GH → Option β} (hc : F_slices_ContainsFunc_int_s1 R a1 h (fun q0 h' => K (Value.bool q0) h') = some r) : ∃ v h', K v h' = some r ∧ CallSim Try.prog 51 [Value.slice a1.a a1.n a1.c, Value.func (.func 52) #[] #[]] h v h' := by
  unfold F_slices_ContainsFunc_int_s1 G_slices_ContainsFunc_int_s1 at hc
  obtain ⟨v, h', hk, hs⟩ := gfun_sim CF_slices_ContainsFunc_int_s1_sim mixed_ok (fun f h => by cases h) Try.func51 (by kernel_rfl) hc
  obtain ⟨u0, e0, hk⟩ := exB_v hk; cases e0
  exact ⟨_, h', hk, hs⟩
/-! F37 duffel/sfano.right -/
def CF_sfano_right (F_slices_ContainsFunc_int_s1 : Sl → GH → (Bool → GH → Option β) → Option β) : Orc β := fun f args h K => bif Nat.beq f 51 then (match args with | [.slice p1a p1n p1c, .func (.func 52) ⟨[]⟩ ⟨[]⟩] => F_slices_ContainsFunc_int_s1 ⟨p1a, p1n, p1c⟩ h (fun q4 h' => K (Value.bool q4) h') | _ => none) else none
def HF_sfano_right : Hints := ⟨[], [], []⟩
noncomputable def G_sfano_right (F_slices_ContainsFunc_int_s1 : Sl → GH → (Bool → GH → Option β) → Option β) (R : Nat) (a1 : Sl) (h : GH) (K : Bool → GH → Option β) : Option β := gfun Try.prog (CF_sfano_right F_slices_ContainsFunc_int_s1) HF_sfano_right R Try.f37 [Value.slice a1.a a1.n a1.c] h (fun v h' => exB (some v) fun u5 => K u5 h')
set_option maxRecDepth 100000 in
theorem F_sfano_right_gen (F_slices_ContainsFunc_int_s1 : Sl → GH → (Bool → GH → Option β) → Option β) (R : Nat) (a1 : Sl) (h : GH) (K : Bool → GH → Option β) : G_sfano_right F_slices_ContainsFunc_int_s1 R a1 h K =
    (bif decide (((a1.n : Nat) : Int) ≥ 1) then (bif decide (((a1.n : Nat) : Int) ≤ 256) then F_slices_ContainsFunc_int_s1 a1 h fun r2 h3 => K (!r2) h3 else K false h) else K false h) := by kernel_rfl
noncomputable def F_sfano_right (R : Nat) (a1 : Sl) (h : GH) (K : Bool → GH → Option β) : Option β := G_sfano_right (F_slices_ContainsFunc_int_s1 R) R a1 h K
set_option maxRecDepth 100000 in
theorem CF_sfano_right_sim {R : Nat} : SimOrc Try.prog (CF_sfano_right (F_slices_ContainsFunc_int_s1 R) (β := β)) := by
  intro f args h K r hc
  unfold CF_sfano_right at hc
  cases hb : Nat.beq f 51 with
  | true =>
    rw [hb] at hc
    simp only [cond_true] at hc
    obtain rfl := Nat.eq_of_beq_eq_true hb
    split at hc
    · exact any_call (F_slices_ContainsFunc_int_s1_sim (K := K) hc)
    · cases hc
  | false =>
  rw [hb] at hc
  simp only [cond_false] at hc
  cases hc
set_option maxRecDepth 100000 in
theorem F_sfano_right_sim {R : Nat} {r : β} {a1 : Sl} {h : GH} {K : Value → GH → Option β} (hc : F_sfano_right R a1 h (fun q0 h' => K (Value.bool q0) h') = some r) : ∃ v h', K v h' = some r ∧ CallSim Try.prog 37 [Value.slice a1.a a1.n a1.c] h v h' := by
  unfold F_sfano_right G_sfano_right at hc
  obtain ⟨v, h', hk, hs⟩ := gfun_sim CF_sfano_right_sim mixed_ok (fun f h => by cases h) Try.func37 (by kernel_rfl) hc
  obtain ⟨u0, e0, hk⟩ := exB_v hk; cases e0
  exact ⟨_, h', hk, hs⟩
/-! F13 duffel/sfano.Pack -/
def CF_sfano_Pack (F_sfano_right : Sl → GH → (Bool → GH → Option β) → Option β) : Orc β := fun f args h K => bif Nat.beq f 37 then (match args with | [.slice p1a p1n p1c] => F_sfano_right ⟨p1a, p1n, p1c⟩ h (fun q4 h' => K (Value.bool q4) h') | _ => none) else none
def HF_sfano_Pack : Hints := ⟨[(5, [0, 4, 5], [(0, [(4, .ty 35)])], none), (7, [0, 4, 5, 6], [(2, [(0, .ty 22), (4, .ty 35), (5, .ty 3), (6, .ty 3)])], none)], [], []⟩
noncomputable def BF_sfano_Pack : Code := match Try.f13.body with | some c => c | none => .skip
noncomputable def F_sfano_Pack_l0 (F_sfano_right : Sl → GH → (Bool → GH → Option β) → Option β) (R : Nat) (n : Nat) (y6 : Sl) (y7 : Sl) (y8 : Int) (h : GH) (K0 : Sl → GH → Option β) : Option β := gloop (gcode Try.prog (CF_sfano_Pack F_sfano_right) Try.f13.ntmps HF_sfano_Pack R (at_ [true, true, true, false, true, false, false] BF_sfano_Pack)) [0, 4, 5] n [(0, Value.slice y6.a y6.n y6.c), (4, Value.slice y7.a y7.n y7.c), (5, Value.int .i64 y8)] h (fun i e' h' => bif Nat.beq i 0 then (exS (some (e'.get 4)) fun u43 => K0 u43 h') else none) (fun e' h' => none)
noncomputable def F_sfano_Pack_l1 (F_sfano_right : Sl → GH → (Bool → GH → Option β) → Option β) (R : Nat) (n : Nat) (y10 : Sl) (y11 : Sl) (y12 : Int) (y13 : Int) (h : GH) (K2 : Sl → Sl → Int → Int → GH → Option β) : Option β := gloop (gcode Try.prog (CF_sfano_Pack F_sfano_right) Try.f13.ntmps HF_sfano_Pack R (at_ [true, true, true, false, true, false, false, true, false, true, false, false, false] BF_sfano_Pack)) [0, 4, 5, 6] n [(0, Value.slice y10.a y10.n y10.c), (4, Value.slice y11.a y11.n y11.c), (5, Value.int .i64 y12), (6, Value.int .i64 y13)] h (fun i e' h' => bif Nat.beq i 2 then (exS (some (e'.get 0)) fun u44 => exS (some (e'.get 4)) fun u45 => exI .i64 (some (e'.get 5)) fun u46 => exI .i64 (some (e'.get 6)) fun u47 => K2 u44 u45 u46 u47 h') else none) (fun e' h' => none)
set_option maxRecDepth 100000 in
theorem F_sfano_Pack_l1_succ (F_sfano_right : Sl → GH → (Bool → GH → Option β) → Option β) (R : Nat) (n : Nat) (y10 : Sl) (y11 : Sl) (y12 : Int) (y13 : Int) (h : GH) (K2 : Sl → Sl → Int → Int → GH → Option β) : F_sfano_Pack_l1 F_sfano_right R (n + 1) y10 y11 y12 y13 h K2 =
    (bif decide (y13 < 16) then (bif decide ((IntKind.wrap .i64 (y12 + y13)) < ((y10.n : Nat) : Int)) then exA y10.a fun g18 o19 => within (IntKind.wrap .i64 (y12 + y13)) y10.n (exI .i64 (h.cell ⟨g18, o19 + (IntKind.wrap .i64 (y12 + y13)).toNat * 1, none⟩) fun x20 => exA y10.a fun g21 o22 => within y12 y10.n (exI .i64 (h.cell ⟨g21, o22 + y12.toNat * 1, none⟩) fun x23 => (bif x20 == x23 then F_sfano_Pack_l1 F_sfano_right R n y10 y11 y12 (IntKind.wrap .i64 (y13 + 1)) h K2 else K2 y10 y11 y12 y13 h))) else K2 y10 y11 y12 y13 h) else K2 y10 y11 y12 y13 h) := by kernel_rfl
set_option maxRecDepth 100000 in
theorem F_sfano_Pack_l0_succ (F_sfano_right : Sl → GH → (Bool → GH → Option β) → Option β) (R : Nat) (n : Nat) (y6 : Sl) (y7 : Sl) (y8 : Int) (h : GH) (K0 : Sl → GH → Option β) : F_sfano_Pack_l0 F_sfano_right R (n + 1) y6 y7 y8 h K0 =
    (bif decide (y8 < ((y6.n : Nat) : Int)) then F_sfano_Pack_l1 F_sfano_right R R y6 y7 y8 1 h (fun w24 w25 w26 w27 h28 => exA w24.a fun g29 o30 => within w26 w24.n (exI .i64 (h28.cell ⟨g29, o30 + w26.toNat * 1, none⟩) fun x31 => gnew [Value.int .u8 (IntKind.wrap .u8 (IntKind.wrap .i64 (BitVec.ofInt (IntKind.bits .i64) (shlI .i64 (IntKind.wrap .i64 (w27 - 1)) 4) ||| BitVec.ofInt (IntKind.bits .i64) (IntKind.wrap .i64 (x31 - 1))).toNat))] 1 h28 fun g32 h33 => gappS 1 1 w25 ⟨(some ⟨g32, 0, none⟩), 1, 1⟩ h33 fun s34 h35 => F_sfano_Pack_l0 F_sfano_right R n w24 s34 (IntKind.wrap .i64 (w26 + w27)) h35 K0)) else K0 y7 h) := by kernel_rfl
noncomputable def G_sfano_Pack (F_sfano_right : Sl → GH → (Bool → GH → Option β) → Option β) (R : Nat) (a1 : Sl) (h : GH) (K : Sl → Int → GH → Option β) : Option β := gfun Try.prog (CF_sfano_Pack F_sfano_right) HF_sfano_Pack R Try.f13 [Value.slice a1.a a1.n a1.c] h (fun v h' => exTup 2 v fun vs => exV (nth vs 0) fun v0 => exS (some v0) fun u48 => exV (nth vs 1) fun v1 => exI .i64 (some v1) fun u49 => K u48 u49 h')
set_option maxRecDepth 100000 in
theorem F_sfano_Pack_gen (F_sfano_right : Sl → GH → (Bool → GH → Option β) → Option β) (R : Nat) (a1 : Sl) (h : GH) (K : Sl → Int → GH → Option β) : G_sfano_Pack F_sfano_right R a1 h K =
    F_sfano_right a1 h fun r2 h3 => (bif !r2 then K ⟨none, 0, 0⟩ 2 h3 else gnew [Value.int .u8 0] 1 h3 fun g4 h5 => F_sfano_Pack_l0 F_sfano_right R R a1 ⟨(some ⟨g4, 0, none⟩), 1, 1⟩ 0 h5 (fun w36 h37 => exA w36.a fun g38 o39 => within 0 w36.n (gput g38 (o39 + (0 : Int).toNat * 1) [Value.int .u8 (IntKind.wrap .u8 (IntKind.wrap .i64 (((w36.n : Nat) : Int) - 2)))] h37 fun h40 => K w36 0 h40))) := by kernel_rfl
noncomputable def F_sfano_Pack (R : Nat) (a1 : Sl) (h : GH) (K : Sl → Int → GH → Option β) : Option β := G_sfano_Pack (F_sfano_right R) R a1 h K
set_option maxRecDepth 100000 in
theorem CF_sfano_Pack_sim {R : Nat} : SimOrc Try.prog (CF_sfano_Pack (F_sfano_right R) (β := β)) := by
  intro f args h K r hc
  unfold CF_sfano_Pack at hc
  cases hb : Nat.beq f 37 with
  | true =>
    rw [hb] at hc
    simp only [cond_true] at hc
    obtain rfl := Nat.eq_of_beq_eq_true hb
    split at hc
    · exact any_call (F_sfano_right_sim (K := K) hc)
    · cases hc
  | false =>
  rw [hb] at hc
  simp only [cond_false] at hc
  cases hc
set_option maxRecDepth 100000 in
theorem F_sfano_Pack_sim {R : Nat} {r : β} {a1 : Sl} {h : GH} {K : Value → GH → Option β} (hc : F_sfano_Pack R a1 h (fun q0 q1 h' => K (Value.tuple #[Value.slice q0.a q0.n q0.c, Value.int .i64 q1]) h') = some r) : ∃ v h', K v h' = some r ∧ CallSim Try.prog 13 [Value.slice a1.a a1.n a1.c] h v h' := by
  unfold F_sfano_Pack G_sfano_Pack at hc
  obtain ⟨v, h', hk, hs⟩ := gfun_sim CF_sfano_Pack_sim mixed_ok (fun f h => by cases h) Try.func13 (by kernel_rfl) hc
  obtain ⟨vs, rfl, hl, hk⟩ := exTup_v hk
  obtain ⟨v0, t0, hk⟩ := exV_v hk
  obtain ⟨u0, e0, hk⟩ := exS_v hk; cases e0
  obtain ⟨v1, t1, hk⟩ := exV_v hk
  obtain ⟨u1, e1, hk⟩ := exI_v hk; cases e1
  obtain rfl := arr2 hl t0 t1
  exact ⟨_, h', hk, hs⟩
/-! F38 duffel/duffelref06.May -/
def CF_ref06_May  : Orc β := fun f args h K => none
def HF_ref06_May : Hints := ⟨[(2, [0, 3], [(0, [(0, .ty 22)])], some [(2, .ty 4)])], [], []⟩
noncomputable def BF_ref06_May : Code := match Try.f38.body with | some c => c | none => .skip
noncomputable def F_ref06_May_l0  (R : Nat) (n : Nat) (y2 : Sl) (y3 : Int) (h : GH) (K0 : Sl → GH → Option β) (Kr : Bool → GH → Option β) : Option β := gloop (gcode Try.prog (CF_ref06_May ) Try.f38.ntmps HF_ref06_May R (at_ [true, false, true, false, false] BF_ref06_May)) [0, 3] n [(0, Value.slice y2.a y2.n y2.c), (3, Value.int .i64 y3)] h (fun i e' h' => bif Nat.beq i 0 then (exS (some (e'.get 0)) fun u17 => K0 u17 h') else none) (fun e' h' => exB (some (e'.get 2)) fun u18 => Kr u18 h')
set_option maxRecDepth 100000 in
theorem F_ref06_May_l0_succ  (R : Nat) (n : Nat) (y2 : Sl) (y3 : Int) (h : GH) (K0 : Sl → GH → Option β) (Kr : Bool → GH → Option β) : F_ref06_May_l0  R (n + 1) y2 y3 h K0 Kr =
    (bif decide (y3 < ((y2.n : Nat) : Int)) then exA y2.a fun g6 o7 => within y3 y2.n (exI .i64 (h.cell ⟨g6, o7 + y3.toNat * 1, none⟩) fun x8 => (bif decide (x8 < 1) then Kr false h else exA y2.a fun g9 o10 => within y3 y2.n (exI .i64 (h.cell ⟨g9, o10 + y3.toNat * 1, none⟩) fun x11 => (bif decide (x11 > 16) then Kr false h else F_ref06_May_l0 R n y2 (IntKind.wrap .i64 (y3 + 1)) h K0 Kr)))) else K0 y2 h) := by kernel_rfl
noncomputable def G_ref06_May  (R : Nat) (a1 : Sl) (h : GH) (K : Bool → GH → Option β) : Option β := gfun Try.prog (CF_ref06_May ) HF_ref06_May R Try.f38 [Value.slice a1.a a1.n a1.c] h (fun v h' => exB (some v) fun u19 => K u19 h')
set_option maxRecDepth 100000 in
theorem F_ref06_May_gen  (R : Nat) (a1 : Sl) (h : GH) (K : Bool → GH → Option β) : G_ref06_May  R a1 h K =
    F_ref06_May_l0 R R a1 0 h (fun w12 h13 => (bif decide (((w12.n : Nat) : Int) > 0) then K (decide (((w12.n : Nat) : Int) ≤ 256)) h13 else K false h13)) (fun w14 h15 => K w14 h15) := by kernel_rfl
noncomputable def F_ref06_May (R : Nat) (a1 : Sl) (h : GH) (K : Bool → GH → Option β) : Option β := G_ref06_May  R a1 h K
theorem CF_ref06_May_sim : SimOrc Try.prog (CF_ref06_May (β := β)) := by
  intro f args h K r hc
  cases hc
set_option maxRecDepth 100000 in
theorem F_ref06_May_sim {R : Nat} {r : β} {a1 : Sl} {h : GH} {K : Value → GH → Option β} (hc : F_ref06_May R a1 h (fun q0 h' => K (Value.bool q0) h') = some r) : ∃ v h', K v h' = some r ∧ CallSim Try.prog 38 [Value.slice a1.a a1.n a1.c] h v h' := by
  unfold F_ref06_May G_ref06_May at hc
  obtain ⟨v, h', hk, hs⟩ := gfun_sim CF_ref06_May_sim mixed_ok (fun f h => by cases h) Try.func38 (by kernel_rfl) hc
  obtain ⟨u0, e0, hk⟩ := exB_v hk; cases e0
  exact ⟨_, h', hk, hs⟩
/-! F14 duffel/duffelref06.Pack -/
def CF_ref06_Pack (F_ref06_May : Sl → GH → (Bool → GH → Option β) → Option β) : Orc β := fun f args h K => bif Nat.beq f 38 then (match args with | [.slice p1a p1n p1c] => F_ref06_May ⟨p1a, p1n, p1c⟩ h (fun q16 h' => K (Value.bool q16) h') | _ => none) else none
def HF_ref06_Pack : Hints := ⟨[(6, [0, 4, 5, 6], [(0, [(4, .ty 35)])], none)], [], []⟩
noncomputable def BF_ref06_Pack : Code := match Try.f14.body with | some c => c | none => .skip
noncomputable def F_ref06_Pack_l0 (F_ref06_May : Sl → GH → (Bool → GH → Option β) → Option β) (R : Nat) (n : Nat) (y4 : Sl) (y5 : Sl) (y6 : Int) (y7 : Int) (h : GH) (K0 : Sl → GH → Option β) : Option β := gloop (gcode Try.prog (CF_ref06_Pack F_ref06_May) Try.f14.ntmps HF_ref06_Pack R (at_ [true, true, true, true, false, true, false, false] BF_ref06_Pack)) [0, 4, 5, 6] n [(0, Value.slice y4.a y4.n y4.c), (4, Value.slice y5.a y5.n y5.c), (5, Value.int .i64 y6), (6, Value.int .i64 y7)] h (fun i e' h' => bif Nat.beq i 0 then (exS (some (e'.get 4)) fun u44 => K0 u44 h') else none) (fun e' h' => none)
set_option maxRecDepth 100000 in
theorem F_ref06_Pack_l0_succ (F_ref06_May : Sl → GH → (Bool → GH → Option β) → Option β) (R : Nat) (n : Nat) (y4 : Sl) (y5 : Sl) (y6 : Int) (y7 : Int) (h : GH) (K0 : Sl → GH → Option β) : F_ref06_Pack_l0 F_ref06_May R (n + 1) y4 y5 y6 y7 h K0 =
    (bif decide (y7 < ((y4.n : Nat) : Int)) then (bif decide ((IntKind.wrap .i64 (y7 + 1)) < ((y4.n : Nat) : Int)) then exA y4.a fun g9 o10 => within (IntKind.wrap .i64 (y7 + 1)) y4.n (exI .i64 (h.cell ⟨g9, o10 + (IntKind.wrap .i64 (y7 + 1)).toNat * 1, none⟩) fun x11 => exA y4.a fun g12 o13 => within y7 y4.n (exI .i64 (h.cell ⟨g12, o13 + y7.toNat * 1, none⟩) fun x14 => (bif x11 == x14 then (bif decide (y6 < 16) then F_ref06_Pack_l0 F_ref06_May R n y4 y5 (IntKind.wrap .i64 (y6 + 1)) (IntKind.wrap .i64 (y7 + 1)) h K0 else exA y4.a fun g15 o16 => within y7 y4.n (exI .i64 (h.cell ⟨g15, o16 + y7.toNat * 1, none⟩) fun x17 => gnew [Value.int .u8 (IntKind.wrap .u8 (IntKind.wrap .i64 ((IntKind.wrap .i64 ((IntKind.wrap .i64 ((IntKind.wrap .i64 (y6 - 1)) * 16)) + x17)) - 1)))] 1 h fun g18 h19 => gappS 1 1 y5 ⟨(some ⟨g18, 0, none⟩), 1, 1⟩ h19 fun s20 h21 => F_ref06_Pack_l0 F_ref06_May R n y4 s20 1 (IntKind.wrap .i64 (y7 + 1)) h21 K0)) else exA y4.a fun g22 o23 => within y7 y4.n (exI .i64 (h.cell ⟨g22, o23 + y7.toNat * 1, none⟩) fun x24 => gnew [Value.int .u8 (IntKind.wrap .u8 (IntKind.wrap .i64 ((IntKind.wrap .i64 ((IntKind.wrap .i64 ((IntKind.wrap .i64 (y6 - 1)) * 16)) + x24)) - 1)))] 1 h fun g25 h26 => gappS 1 1 y5 ⟨(some ⟨g25, 0, none⟩), 1, 1⟩ h26 fun s27 h28 => F_ref06_Pack_l0 F_ref06_May R n y4 s27 1 (IntKind.wrap .i64 (y7 + 1)) h28 K0)))) else exA y4.a fun g29 o30 => within y7 y4.n (exI .i64 (h.cell ⟨g29, o30 + y7.toNat * 1, none⟩) fun x31 => gnew [Value.int .u8 (IntKind.wrap .u8 (IntKind.wrap .i64 ((IntKind.wrap .i64 ((IntKind.wrap .i64 ((IntKind.wrap .i64 (y6 - 1)) * 16)) + x31)) - 1)))] 1 h fun g32 h33 => gappS 1 1 y5 ⟨(some ⟨g32, 0, none⟩), 1, 1⟩ h33 fun s34 h35 => F_ref06_Pack_l0 F_ref06_May R n y4 s34 1 (IntKind.wrap .i64 (y7 + 1)) h35 K0)) else K0 y5 h) := by kernel_rfl
noncomputable def G_ref06_Pack (F_ref06_May : Sl → GH → (Bool → GH → Option β) → Option β) (R : Nat) (a1 : Sl) (h : GH) (K : Sl → Int → GH → Option β) : Option β := gfun Try.prog (CF_ref06_Pack F_ref06_May) HF_ref06_Pack R Try.f14 [Value.slice a1.a a1.n a1.c] h (fun v h' => exTup 2 v fun vs => exV (nth vs 0) fun v0 => exS (some v0) fun u45 => exV (nth vs 1) fun v1 => exI .i64 (some v1) fun u46 => K u45 u46 h')
set_option maxRecDepth 100000 in
theorem F_ref06_Pack_gen (F_ref06_May : Sl → GH → (Bool → GH → Option β) → Option β) (R : Nat) (a1 : Sl) (h : GH) (K : Sl → Int → GH → Option β) : G_ref06_Pack F_ref06_May R a1 h K =
    F_ref06_May a1 h fun r2 h3 => (bif !r2 then K ⟨none, 0, 0⟩ 2 h3 else F_ref06_Pack_l0 F_ref06_May R R a1 ⟨none, 0, 0⟩ 1 0 h3 (fun w36 h37 => gnew [Value.int .u8 (IntKind.wrap .u8 (IntKind.wrap .i64 (((w36.n : Nat) : Int) - 1)))] 1 h37 fun g38 h39 => gappS 1 1 ⟨(some ⟨g38, 0, none⟩), 1, 1⟩ w36 h39 fun s40 h41 => K s40 0 h41)) := by kernel_rfl
noncomputable def F_ref06_Pack (R : Nat) (a1 : Sl) (h : GH) (K : Sl → Int → GH → Option β) : Option β := G_ref06_Pack (F_ref06_May R) R a1 h K
set_option maxRecDepth 100000 in
theorem CF_ref06_Pack_sim {R : Nat} : SimOrc Try.prog (CF_ref06_Pack (F_ref06_May R) (β := β)) := by
  intro f args h K r hc
  unfold CF_ref06_Pack at hc
  cases hb : Nat.beq f 38 with
  | true =>
    rw [hb] at hc
    simp only [cond_true] at hc
    obtain rfl := Nat.eq_of_beq_eq_true hb
    split at hc
    · exact any_call (F_ref06_May_sim (K := K) hc)
    · cases hc
  | false =>
  rw [hb] at hc
  simp only [cond_false] at hc
  cases hc
set_option maxRecDepth 100000 in
theorem F_ref06_Pack_sim {R : Nat} {r : β} {a1 : Sl} {h : GH} {K : Value → GH → Option β} (hc : F_ref06_Pack R a1 h (fun q0 q1 h' => K (Value.tuple #[Value.slice q0.a q0.n q0.c, Value.int .i64 q1]) h') = some r) : ∃ v h', K v h' = some r ∧ CallSim Try.prog 14 [Value.slice a1.a a1.n a1.c] h v h' := by
  unfold F_ref06_Pack G_ref06_Pack at hc
  obtain ⟨v, h', hk, hs⟩ := gfun_sim CF_ref06_Pack_sim mixed_ok (fun f h => by cases h) Try.func14 (by kernel_rfl) hc
  obtain ⟨vs, rfl, hl, hk⟩ := exTup_v hk
  obtain ⟨v0, t0, hk⟩ := exV_v hk
  obtain ⟨u0, e0, hk⟩ := exS_v hk; cases e0
  obtain ⟨v1, t1, hk⟩ := exV_v hk
  obtain ⟨u1, e1, hk⟩ := exI_v hk; cases e1
  obtain rfl := arr2 hl t0 t1
  exact ⟨_, h', hk, hs⟩
/-! F15 duffel/duffelref01.Same -/
def CF_ref01_Same  : Orc β := fun f args h K => none
def HF_ref01_Same : Hints := ⟨[(4, [0, 1, 5], [(0, [])], some [(4, .ty 4)])], [], []⟩
noncomputable def BF_ref01_Same : Code := match Try.f15.body with | some c => c | none => .skip
noncomputable def F_ref01_Same_l0  (R : Nat) (n : Nat) (y3 : Sl) (y4 : Sl) (y5 : Int) (h : GH) (K0 : GH → Option β) (Kr : Bool → GH → Option β) : Option β := gloop (gcode Try.prog (CF_ref01_Same ) Try.f15.ntmps HF_ref01_Same R (at_ [true, true, false, true, false, false] BF_ref01_Same)) [0, 1, 5] n [(0, Value.slice y3.a y3.n y3.c), (1, Value.slice y4.a y4.n y4.c), (5, Value.int .i64 y5)] h (fun i e' h' => bif Nat.beq i 0 then (K0 h') else none) (fun e' h' => exB (some (e'.get 4)) fun u17 => Kr u17 h')
set_option maxRecDepth 100000 in
theorem F_ref01_Same_l0_succ  (R : Nat) (n : Nat) (y3 : Sl) (y4 : Sl) (y5 : Int) (h : GH) (K0 : GH → Option β) (Kr : Bool → GH → Option β) : F_ref01_Same_l0  R (n + 1) y3 y4 y5 h K0 Kr =
    (bif decide (y5 < ((y3.n : Nat) : Int)) then exA y3.a fun g7 o8 => within y5 y3.n (exI .u8 (h.cell ⟨g7, o8 + y5.toNat * 1, none⟩) fun x9 => exA y4.a fun g10 o11 => within y5 y4.n (exI .u8 (h.cell ⟨g10, o11 + y5.toNat * 1, none⟩) fun x12 => (bif x9 != x12 then Kr false h else F_ref01_Same_l0 R n y3 y4 (IntKind.wrap .i64 (y5 + 1)) h K0 Kr))) else K0 h) := by kernel_rfl
noncomputable def G_ref01_Same  (R : Nat) (a1 : Sl) (a2 : Sl) (h : GH) (K : Bool → GH → Option β) : Option β := gfun Try.prog (CF_ref01_Same ) HF_ref01_Same R Try.f15 [Value.slice a1.a a1.n a1.c, Value.slice a2.a a2.n a2.c] h (fun v h' => exB (some v) fun u18 => K u18 h')
set_option maxRecDepth 100000 in
theorem F_ref01_Same_gen  (R : Nat) (a1 : Sl) (a2 : Sl) (h : GH) (K : Bool → GH → Option β) : G_ref01_Same  R a1 a2 h K =
    (bif ((a1.n : Nat) : Int) != ((a2.n : Nat) : Int) then K false h else F_ref01_Same_l0 R R a1 a2 0 h (fun h13 => K true h13) (fun w14 h15 => K w14 h15)) := by kernel_rfl
noncomputable def F_ref01_Same (R : Nat) (a1 : Sl) (a2 : Sl) (h : GH) (K : Bool → GH → Option β) : Option β := G_ref01_Same  R a1 a2 h K
theorem CF_ref01_Same_sim : SimOrc Try.prog (CF_ref01_Same (β := β)) := by
  intro f args h K r hc
  cases hc
set_option maxRecDepth 100000 in
theorem F_ref01_Same_sim {R : Nat} {r : β} {a1 : Sl} {a2 : Sl} {h : GH} {K : Value → GH → Option β} (hc : F_ref01_Same R a1 a2 h (fun q0 h' => K (Value.bool q0) h') = some r) : ∃ v h', K v h' = some r ∧ CallSim Try.prog 15 [Value.slice a1.a a1.n a1.c, Value.slice a2.a a2.n a2.c] h v h' := by
  unfold F_ref01_Same G_ref01_Same at hc
  obtain ⟨v, h', hk, hs⟩ := gfun_sim CF_ref01_Same_sim mixed_ok (fun f h => by cases h) Try.func15 (by kernel_rfl) hc
  obtain ⟨u0, e0, hk⟩ := exB_v hk; cases e0
  exact ⟨_, h', hk, hs⟩
/-! F4 duffel/duffellaw06.SfanoPacks -/
def CF_law06_SfanoPacks (F_ref01_Ints : Sl → Int → GH → (Sl → GH → Option β) → Option β) (F_sfano_Pack : Sl → GH → (Sl → Int → GH → Option β) → Option β) (F_ref06_Pack : Sl → GH → (Sl → Int → GH → Option β) → Option β) (F_ref01_Same : Sl → Sl → GH → (Bool → GH → Option β) → Option β) (F_law06_lives : GH → (Bool → GH → Option β) → Option β) : Orc β := fun f args h K => bif Nat.beq f 9 then (match args with | [.slice p1a p1n p1c, .int .i64 p2] => F_ref01_Ints ⟨p1a, p1n, p1c⟩ p2 h (fun q4 h' => K (Value.slice q4.a q4.n q4.c) h') | _ => none) else (bif Nat.beq f 13 then (match args with | [.slice p1a p1n p1c] => F_sfano_Pack ⟨p1a, p1n, p1c⟩ h (fun q41 q42 h' => K (Value.tuple #[Value.slice q41.a q41.n q41.c, Value.int .i64 q42]) h') | _ => none) else (bif Nat.beq f 14 then (match args with | [.slice p1a p1n p1c] => F_ref06_Pack ⟨p1a, p1n, p1c⟩ h (fun q42 q43 h' => K (Value.tuple #[Value.slice q42.a q42.n q42.c, Value.int .i64 q43]) h') | _ => none) else (bif Nat.beq f 15 then (match args with | [.slice p1a p1n p1c, .slice p2a p2n p2c] => F_ref01_Same ⟨p1a, p1n, p1c⟩ ⟨p2a, p2n, p2c⟩ h (fun q16 h' => K (Value.bool q16) h') | _ => none) else (bif Nat.beq f 11 then (match args with | [] => F_law06_lives  h (fun q1 h' => K (Value.bool q1) h') | _ => none) else none))))
def HF_law06_SfanoPacks : Hints := ⟨[], [], []⟩
noncomputable def G_law06_SfanoPacks (F_ref01_Ints : Sl → Int → GH → (Sl → GH → Option β) → Option β) (F_sfano_Pack : Sl → GH → (Sl → Int → GH → Option β) → Option β) (F_ref06_Pack : Sl → GH → (Sl → Int → GH → Option β) → Option β) (F_ref01_Same : Sl → Sl → GH → (Bool → GH → Option β) → Option β) (F_law06_lives : GH → (Bool → GH → Option β) → Option β) (R : Nat) (a1 : Sl) (h : GH) (K : Bool → GH → Option β) : Option β := gfun Try.prog (CF_law06_SfanoPacks F_ref01_Ints F_sfano_Pack F_ref06_Pack F_ref01_Same F_law06_lives) HF_law06_SfanoPacks R Try.f4 [Value.slice a1.a a1.n a1.c] h (fun v h' => exB (some v) fun u15 => K u15 h')
set_option maxRecDepth 100000 in
theorem F_law06_SfanoPacks_gen (F_ref01_Ints : Sl → Int → GH → (Sl → GH → Option β) → Option β) (F_sfano_Pack : Sl → GH → (Sl → Int → GH → Option β) → Option β) (F_ref06_Pack : Sl → GH → (Sl → Int → GH → Option β) → Option β) (F_ref01_Same : Sl → Sl → GH → (Bool → GH → Option β) → Option β) (F_law06_lives : GH → (Bool → GH → Option β) → Option β) (R : Nat) (a1 : Sl) (h : GH) (K : Bool → GH → Option β) : G_law06_SfanoPacks F_ref01_Ints F_sfano_Pack F_ref06_Pack F_ref01_Same F_law06_lives R a1 h K =
    F_ref01_Ints a1 260 h fun r2 h3 => F_sfano_Pack r2 h3 fun r4 r5 h6 => F_ref06_Pack r2 h6 fun r7 r8 h9 => F_ref01_Same r4 r7 h9 fun r10 h11 => (bif r10 then (bif r5 == r8 then F_law06_lives h11 fun r12 h13 => K r12 h13 else K false h11) else K false h11) := by kernel_rfl
noncomputable def F_law06_SfanoPacks (R : Nat) (a1 : Sl) (h : GH) (K : Bool → GH → Option β) : Option β := G_law06_SfanoPacks (F_ref01_Ints R) (F_sfano_Pack R) (F_ref06_Pack R) (F_ref01_Same R) F_law06_lives R a1 h K
set_option maxRecDepth 100000 in
theorem CF_law06_SfanoPacks_sim {R : Nat} : SimOrc Try.prog (CF_law06_SfanoPacks (F_ref01_Ints R) (F_sfano_Pack R) (F_ref06_Pack R) (F_ref01_Same R) F_law06_lives (β := β)) := by
  intro f args h K r hc
  unfold CF_law06_SfanoPacks at hc
  cases hb : Nat.beq f 9 with
  | true =>
    rw [hb] at hc
    simp only [cond_true] at hc
    obtain rfl := Nat.eq_of_beq_eq_true hb
    split at hc
    · exact any_call (F_ref01_Ints_sim (K := K) hc)
    · cases hc
  | false =>
  rw [hb] at hc
  simp only [cond_false] at hc
  cases hb : Nat.beq f 13 with
  | true =>
    rw [hb] at hc
    simp only [cond_true] at hc
    obtain rfl := Nat.eq_of_beq_eq_true hb
    split at hc
    · exact any_call (F_sfano_Pack_sim (K := K) hc)
    · cases hc
  | false =>
  rw [hb] at hc
  simp only [cond_false] at hc
  cases hb : Nat.beq f 14 with
  | true =>
    rw [hb] at hc
    simp only [cond_true] at hc
    obtain rfl := Nat.eq_of_beq_eq_true hb
    split at hc
    · exact any_call (F_ref06_Pack_sim (K := K) hc)
    · cases hc
  | false =>
  rw [hb] at hc
  simp only [cond_false] at hc
  cases hb : Nat.beq f 15 with
  | true =>
    rw [hb] at hc
    simp only [cond_true] at hc
    obtain rfl := Nat.eq_of_beq_eq_true hb
    split at hc
    · exact any_call (F_ref01_Same_sim (K := K) hc)
    · cases hc
  | false =>
  rw [hb] at hc
  simp only [cond_false] at hc
  cases hb : Nat.beq f 11 with
  | true =>
    rw [hb] at hc
    simp only [cond_true] at hc
    obtain rfl := Nat.eq_of_beq_eq_true hb
    split at hc
    · exact any_call (F_law06_lives_sim (K := K) hc)
    · cases hc
  | false =>
  rw [hb] at hc
  simp only [cond_false] at hc
  cases hc
set_option maxRecDepth 100000 in
theorem F_law06_SfanoPacks_sim {R : Nat} {r : β} {a1 : Sl} {h : GH} {K : Value → GH → Option β} (hc : F_law06_SfanoPacks R a1 h (fun q0 h' => K (Value.bool q0) h') = some r) : ∃ v h', K v h' = some r ∧ CallSim Try.prog 4 [Value.slice a1.a a1.n a1.c] h v h' := by
  unfold F_law06_SfanoPacks G_law06_SfanoPacks at hc
  obtain ⟨v, h', hk, hs⟩ := gfun_sim CF_law06_SfanoPacks_sim mixed_ok (fun f h => by cases h) Try.func4 (by kernel_rfl) hc
  obtain ⟨u0, e0, hk⟩ := exB_v hk; cases e0
  exact ⟨_, h', hk, hs⟩
end
end Go.Proofs.Ytephmpbccajaaaa.Gx
