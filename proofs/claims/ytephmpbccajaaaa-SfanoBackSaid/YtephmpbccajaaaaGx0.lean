/- Functions of the program as the plain machine has them, each with its equation. Printed by a program of this place (wip/gx/gx.py) out of the translation. No condition. -/
import Derived.Test.YtephmpbccajaaaaGxQ
import Derived.Test.YtephmpbccajaaaaProg
import Derived.Test.YtephmpbccajaaaaLv
namespace Go.Proofs.Ytephmpbccajaaaa.Gx
open Go
set_option linter.unusedVariables false
theorem mixed_ok : Try.prog.follows .mixedOrders = true := by kernel_rfl
section
variable {β : Type}
/-! F9 duffel/duffelref01.Ints -/
def CF_ref01_Ints  : Orc β := fun f args h K => none
def HF_ref01_Ints : Hints := ⟨[], [], []⟩
noncomputable def G_ref01_Ints  (R : Nat) (a1 : Sl) (a2 : Int) (h : GH) (K : Sl → GH → Option β) : Option β := gfun Try.prog (CF_ref01_Ints ) HF_ref01_Ints R Try.f9 [Value.slice a1.a a1.n a1.c, Value.int .i64 a2] h (fun v h' => exS (some v) fun u5 => K u5 h')
set_option maxRecDepth 100000 in
theorem F_ref01_Ints_gen  (R : Nat) (a1 : Sl) (a2 : Int) (h : GH) (K : Sl → GH → Option β) : G_ref01_Ints  R a1 a2 h K =
    (bif decide (((a1.n : Nat) : Int) > a2) then bnd a2 a1.c fun m3 => K ⟨addO a1.a (0 * 1), m3 - 0, a1.c - 0⟩ h else K a1 h) := by kernel_rfl
noncomputable def F_ref01_Ints (R : Nat) (a1 : Sl) (a2 : Int) (h : GH) (K : Sl → GH → Option β) : Option β := G_ref01_Ints  R a1 a2 h K
theorem CF_ref01_Ints_sim : SimOrc Try.prog (CF_ref01_Ints (β := β)) := by
  intro f args h K r hc
  cases hc
set_option maxRecDepth 100000 in
theorem F_ref01_Ints_sim {R : Nat} {r : β} {a1 : Sl} {a2 : Int} {h : GH} {K : Value → GH → Option β} (hc : F_ref01_Ints R a1 a2 h (fun q0 h' => K (Value.slice q0.a q0.n q0.c) h') = some r) : ∃ v h', K v h' = some r ∧ CallSim Try.prog 9 [Value.slice a1.a a1.n a1.c, Value.int .i64 a2] h v h' := by
  unfold F_ref01_Ints G_ref01_Ints at hc
  obtain ⟨v, h', hk, hs⟩ := gfun_sim CF_ref01_Ints_sim mixed_ok (fun f h => by cases h) Try.func9 (by kernel_rfl) hc
  obtain ⟨u0, e0, hk⟩ := exS_v hk; cases e0
  exact ⟨_, h', hk, hs⟩
/-! F52 duffel/sfano.right$1 -/
def CF_sfano_right_1  : Orc β := fun f args h K => none
def HF_sfano_right_1 : Hints := ⟨[], [], []⟩
noncomputable def G_sfano_right_1  (R : Nat) (a1 : Int) (h : GH) (K : Bool → GH → Option β) : Option β := gfun Try.prog (CF_sfano_right_1 ) HF_sfano_right_1 R Try.f52 [Value.int .i64 a1] h (fun v h' => exB (some v) fun u3 => K u3 h')
set_option maxRecDepth 100000 in
theorem F_sfano_right_1_gen  (R : Nat) (a1 : Int) (h : GH) (K : Bool → GH → Option β) : G_sfano_right_1  R a1 h K =
    (bif decide (a1 < 1) then K true h else K (decide (a1 > 16)) h) := by kernel_rfl
noncomputable def F_sfano_right_1 (R : Nat) (a1 : Int) (h : GH) (K : Bool → GH → Option β) : Option β := G_sfano_right_1  R a1 h K
theorem CF_sfano_right_1_sim : SimOrc Try.prog (CF_sfano_right_1 (β := β)) := by
  intro f args h K r hc
  cases hc
set_option maxRecDepth 100000 in
theorem F_sfano_right_1_sim {R : Nat} {r : β} {a1 : Int} {h : GH} {K : Value → GH → Option β} (hc : F_sfano_right_1 R a1 h (fun q0 h' => K (Value.bool q0) h') = some r) : ∃ v h', K v h' = some r ∧ CallSim Try.prog 52 [Value.int .i64 a1] h v h' := by
  unfold F_sfano_right_1 G_sfano_right_1 at hc
  obtain ⟨v, h', hk, hs⟩ := gfun_sim CF_sfano_right_1_sim mixed_ok (fun f h => by cases h) Try.func52 (by kernel_rfl) hc
  obtain ⟨u0, e0, hk⟩ := exB_v hk; cases e0
  exact ⟨_, h', hk, hs⟩
/-! F62 slices.IndexFunc[[]int,int] -/
def CF_slices_IndexFunc_int_s1 (F_sfano_right_1 : Int → GH → (Bool → GH → Option β) → Option β) : Orc β := fun f args h K => bif Nat.beq f 52 then (match args with | [.int .i64 p1] => F_sfano_right_1 p1 h (fun q2 h' => K (Value.bool q2) h') | _ => none) else none
def HF_slices_IndexFunc_int_s1 : Hints := ⟨[(2, [0, 1, 7, 8], [(0, [])], some [(4, .ty 3)])], [], []⟩
noncomputable def BF_slices_IndexFunc_int_s1 : Code := match Try.f62.body with | some c => c | none => .skip
noncomputable def F_slices_IndexFunc_int_s1_l0 (F_sfano_right_1 : Int → GH → (Bool → GH → Option β) → Option β) (R : Nat) (n : Nat) (y2 : Sl) (y3 : Int) (y4 : Int) (h : GH) (K0 : GH → Option β) (Kr : Int → GH → Option β) : Option β := gloop (gcode Try.prog (CF_slices_IndexFunc_int_s1 F_sfano_right_1) Try.f62.ntmps HF_slices_IndexFunc_int_s1 R (at_ [true, false, true, false, false] BF_slices_IndexFunc_int_s1)) [0, 1, 7, 8] n [(0, Value.slice y2.a y2.n y2.c), (1, Value.func (.func 52) #[] #[]), (7, Value.int .i64 y3), (8, Value.int .i64 y4)] h (fun i e' h' => bif Nat.beq i 0 then (K0 h') else none) (fun e' h' => exI .i64 (some (e'.get 4)) fun u15 => Kr u15 h')
set_option maxRecDepth 100000 in
theorem F_slices_IndexFunc_int_s1_l0_succ (F_sfano_right_1 : Int → GH → (Bool → GH → Option β) → Option β) (R : Nat) (n : Nat) (y2 : Sl) (y3 : Int) (y4 : Int) (h : GH) (K0 : GH → Option β) (Kr : Int → GH → Option β) : F_slices_IndexFunc_int_s1_l0 F_sfano_right_1 R (n + 1) y2 y3 y4 h K0 Kr =
    (bif decide (y4 < y3) then exA y2.a fun g6 o7 => within y4 y2.n (exI .i64 (h.cell ⟨g6, o7 + y4.toNat * 1, none⟩) fun x8 => F_sfano_right_1 x8 h fun r9 h10 => (bif r9 then Kr y4 h10 else F_slices_IndexFunc_int_s1_l0 F_sfano_right_1 R n y2 y3 (IntKind.wrap .i64 (y4 + 1)) h10 K0 Kr)) else K0 h) := by kernel_rfl
noncomputable def G_slices_IndexFunc_int_s1 (F_sfano_right_1 : Int → GH → (Bool → GH → Option β) → Option β) (R : Nat) (a1 : Sl) (h : GH) (K : Int → GH → Option β) : Option β := gfun Try.prog (CF_slices_IndexFunc_int_s1 F_sfano_right_1) HF_slices_IndexFunc_int_s1 R Try.f62 [Value.slice a1.a a1.n a1.c, Value.func (.func 52) #[] #[]] h (fun v h' => exI .i64 (some v) fun u16 => K u16 h')
set_option maxRecDepth 100000 in
theorem F_slices_IndexFunc_int_s1_gen (F_sfano_right_1 : Int → GH → (Bool → GH → Option β) → Option β) (R : Nat) (a1 : Sl) (h : GH) (K : Int → GH → Option β) : G_slices_IndexFunc_int_s1 F_sfano_right_1 R a1 h K =
    F_slices_IndexFunc_int_s1_l0 F_sfano_right_1 R R a1 ((a1.n : Nat) : Int) 0 h (fun h11 => K (-1) h11) (fun w12 h13 => K w12 h13) := by kernel_rfl
noncomputable def F_slices_IndexFunc_int_s1 (R : Nat) (a1 : Sl) (h : GH) (K : Int → GH → Option β) : Option β := G_slices_IndexFunc_int_s1 (F_sfano_right_1 R) R a1 h K
set_option maxRecDepth 100000 in
theorem CF_slices_IndexFunc_int_s1_sim {R : Nat} : SimOrc Try.prog (CF_slices_IndexFunc_int_s1 (F_sfano_right_1 R) (β := β)) := by
  intro f args h K r hc
  unfold CF_slices_IndexFunc_int_s1 at hc
  cases hb : Nat.beq f 52 with
  | true =>
    rw [hb] at hc
    simp only [cond_true] at hc
    obtain rfl := Nat.eq_of_beq_eq_true hb
    split at hc
    · exact any_call (F_sfano_right_1_sim (K := K) hc)
    · cases hc
  | false =>
  rw [hb] at hc
  simp only [cond_false] at hc
  cases hc
set_option maxRecDepth 100000 in
theorem F_slices_IndexFunc_int_s1_sim {R : Nat} {r : β} {a1 : Sl} {h : GH} {K : Value → GH → Option β} (hc : F_slices_IndexFunc_int_s1 R a1 h (fun q0 h' => K (Value.int .i64 q0) h') = some r) : ∃ v h', K v h' = some r ∧ CallSim Try.prog 62 [Value.slice a1.a a1.n a1.c, Value.func (.func 52) #[] #[]] h v h' := by
  unfold F_slices_IndexFunc_int_s1 G_slices_IndexFunc_int_s1 at hc
  obtain ⟨v, h', hk, hs⟩ := gfun_sim CF_slices_IndexFunc_int_s1_sim mixed_ok (fun f h => by cases h) Try.func62 (by kernel_rfl) hc
  obtain ⟨u0, e0, hk⟩ := exI_v hk; cases e0
  exact ⟨_, h', hk, hs⟩
/-! F51 slices.ContainsFunc[[]int,int] -/
def CF_slices_ContainsFunc_int_s1 (F_slices_IndexFunc_int_s1 : Sl → GH → (Int → GH → Option β) → Option β) : Orc β := fun f args h K => bif Nat.beq f 62 then (match args with | [.slice p1a p1n p1c, .func (.func 52) ⟨[]⟩ ⟨[]⟩] => F_slices_IndexFunc_int_s1 ⟨p1a, p1n, p1c⟩ h (fun q14 h' => K (Value.int .i64 q14) h') | _ => none) else none
def HF_slices_ContainsFunc_int_s1 : Hints := ⟨[], [], []⟩
noncomputable def G_slices_ContainsFunc_int_s1 (F_slices_IndexFunc_int_s1 : Sl → GH → (Int → GH → Option β) → Option β) (R : Nat) (a1 : Sl) (h : GH) (K : Bool → GH → Option β) : Option β := gfun Try.prog (CF_slices_ContainsFunc_int_s1 F_slices_IndexFunc_int_s1) HF_slices_ContainsFunc_int_s1 R Try.f51 [Value.slice a1.a a1.n a1.c, Value.func (.func 52) #[] #[]] h (fun v h' => exB (some v) fun u5 => K u5 h')
set_option maxRecDepth 100000 in
theorem F_slices_ContainsFunc_int_s1_gen (F_slices_IndexFunc_int_s1 : Sl → GH → (Int → GH → Option β) → Option β) (R : Nat) (a1 : Sl) (h : GH) (K : Bool → GH → Option β) : G_slices_ContainsFunc_int_s1 F_slices_IndexFunc_int_s1 R a1 h K =
    F_slices_IndexFunc_int_s1 a1 h fun r2 h3 => K (decide (r2 ≥ 0)) h3 := by kernel_rfl
noncomputable def F_slices_ContainsFunc_int_s1 (R : Nat) (a1 : Sl) (h : GH) (K : Bool → GH → Option β) : Option β := G_slices_ContainsFunc_int_s1 (F_slices_IndexFunc_int_s1 R) R a1 h K
set_option maxRecDepth 100000 in
theorem CF_slices_ContainsFunc_int_s1_sim {R : Nat} : SimOrc Try.prog (CF_slices_ContainsFunc_int_s1 (F_slices_IndexFunc_int_s1 R) (β := β)) := by
  intro f args h K r hc
  unfold CF_slices_ContainsFunc_int_s1 at hc
  cases hb : Nat.beq f 62 with
  | true =>
    rw [hb] at hc
    simp only [cond_true] at hc
    obtain rfl := Nat.eq_of_beq_eq_true hb
    split at hc
    · exact any_call (F_slices_IndexFunc_int_s1_sim (K := K) hc)
    · cases hc
  | false =>
  rw [hb] at hc
  simp only [cond_false] at hc
  cases hc
set_option maxRecDepth 100000 in
theorem F_slices_ContainsFunc_int_s1_sim {R : Nat} {r : β} {a1 : Sl} {h : GH} {K : Value → GH → Option β} (hc : F_slices_ContainsFunc_int_s1 R a1 h (fun q0 h' => K (Value.bool q0) h') = some r) : ∃ v h', K v h' = some r ∧ CallSim Try.prog 51 [Value.slice a1.a a1.n a1.c, Value.func (.func 52) #[] #[]] h v h' := by
  unfold F_slices_ContainsFunc_int_s1 G_slices_ContainsFunc_int_s1 at hc
  obtain ⟨v, h', hk, hs⟩ := gfun_sim CF_slices_ContainsFunc_int_s1_sim mixed_ok (fun f h => by cases h) Try.func51 (by kernel_rfl) hc
  obtain ⟨u0, e0, hk⟩ := exB_v hk; cases e0
  exact ⟨_, h', hk, hs⟩
/-! F37 duffel/sfano.right -/
def CF_sfano_right (F_slices_ContainsFunc_int_s1 : Sl → GH → (Bool → GH → Option β) → Option β) : Orc β := fun f args h K => bif Nat.beq f 51 then (match args with | [.slice p1a p1n p1c, .func (.func 52) ⟨[]⟩ ⟨[]⟩] => F_slices_ContainsFunc_int_s1 ⟨p1a, p1n, p1c⟩ h (fun q4 h' => K (Value.bool q4) h') | _ => none) else none
def HF_sfano_right : Hints := ⟨[], [], []⟩
noncomputable def G_sfano_right (F_slices_ContainsFunc_int_s1 : Sl → GH → (Bool → GH → Option β) → Option β) (R : Nat) (a1 : Sl) (h : GH) (K : Bool → GH → Option β) : Option β := gfun Try.prog (CF_sfano_right F_slices_ContainsFunc_int_s1) HF_sfano_right R Try.f37 [Value.slice a1.a a1.n a1.c] h (fun v h' => exB (some v) fun u5 => K u5 h')
set_option maxRecDepth 100000 in
theorem F_sfano_right_gen (F_slices_ContainsFunc_int_s1 : Sl → GH → (Bool → GH → Option β) → Option β) (R : Nat) (a1 : Sl) (h : GH) (K : Bool → GH → Option β) : G_sfano_right F_slices_ContainsFunc_int_s1 R a1 h K =
    (bif decide (((a1.n : Nat) : Int) ≥ 1) then (bif decide (((a1.n : Nat) : Int) ≤ 256) then F_slices_ContainsFunc_int_s1 a1 h fun r2 h3 => K (!r2) h3 else K false h) else K false h) := by kernel_rfl
noncomputable def F_sfano_right (R : Nat) (a1 : Sl) (h : GH) (K : Bool → GH → Option β) : Option β := G_sfano_right (F_slices_ContainsFunc_int_s1 R) R a1 h K
set_option maxRecDepth 100000 in
theorem CF_sfano_right_sim {R : Nat} : SimOrc Try.prog (CF_sfano_right (F_slices_ContainsFunc_int_s1 R) (β := β)) := by
  intro f args h K r hc
  unfold CF_sfano_right at hc
  cases hb : Nat.beq f 51 with
  | true =>
    rw [hb] at hc
    simp only [cond_true] at hc
    obtain rfl := Nat.eq_of_beq_eq_true hb
    split at hc
    · exact any_call (F_slices_ContainsFunc_int_s1_sim (K := K) hc)
    · cases hc
  | false =>
  rw [hb] at hc
  simp only [cond_false] at hc
  cases hc
set_option maxRecDepth 100000 in
theorem F_sfano_right_sim {R : Nat} {r : β} {a1 : Sl} {h : GH} {K : Value → GH → Option β} (hc : F_sfano_right R a1 h (fun q0 h' => K (Value.bool q0) h') = some r) : ∃ v h', K v h' = some r ∧ CallSim Try.prog 37 [Value.slice a1.a a1.n a1.c] h v h' := by
  unfold F_sfano_right G_sfano_right at hc
  obtain ⟨v, h', hk, hs⟩ := gfun_sim CF_sfano_right_sim mixed_ok (fun f h => by cases h) Try.func37 (by kernel_rfl) hc
  obtain ⟨u0, e0, hk⟩ := exB_v hk; cases e0
  exact ⟨_, h', hk, hs⟩
/-! F13 duffel/sfano.Pack -/
def CF_sfano_Pack (F_sfano_right : Sl → GH → (Bool → GH → Option β) → Option β) : Orc β := fun f args h K => bif Nat.beq f 37 then (match args with | [.slice p1a p1n p1c] => F_sfano_right ⟨p1a, p1n, p1c⟩ h (fun q4 h' => K (Value.bool q4) h') | _ => none) else none
def HF_sfano_Pack : Hints := ⟨[(5, [0, 4, 5], [(0, [(4, .ty 35)])], none), (7, [0, 4, 5, 6], [(2, [(0, .ty 22), (4, .ty 35), (5, .ty 3), (6, .ty 3)])], none)], [], []⟩
noncomputable def BF_sfano_Pack : Code := match Try.f13.body with | some c => c | none => .skip
noncomputable def F_sfano_Pack_l0 (F_sfano_right : Sl → GH → (Bool → GH → Option β) → Option β) (R : Nat) (n : Nat) (y6 : Sl) (y7 : Sl) (y8 : Int) (h : GH) (K0 : Sl → GH → Option β) : Option β := gloop (gcode Try.prog (CF_sfano_Pack F_sfano_right) Try.f13.ntmps HF_sfano_Pack R (at_ [true, true, true, false, true, false, false] BF_sfano_Pack)) [0, 4, 5] n [(0, Value.slice y6.a y6.n y6.c), (4, Value.slice y7.a y7.n y7.c), (5, Value.int .i64 y8)] h (fun i e' h' => bif Nat.beq i 0 then (exS (some (e'.get 4)) fun u43 => K0 u43 h') else none) (fun e' h' => none)
noncomputable def F_sfano_Pack_l1 (F_sfano_right : Sl → GH → (Bool → GH → Option β) → Option β) (R : Nat) (n : Nat) (y10 : Sl) (y11 : Sl) (y12 : Int) (y13 : Int) (h : GH) (K2 : Sl → Sl → Int → Int → GH → Option β) : Option β := gloop (gcode Try.prog (CF_sfano_Pack F_sfano_right) Try.f13.ntmps HF_sfano_Pack R (at_ [true, true, true, false, true, false, false, true, false, true, false, false, false] BF_sfano_Pack)) [0, 4, 5, 6] n [(0, Value.slice y10.a y10.n y10.c), (4, Value.slice y11.a y11.n y11.c), (5, Value.int .i64 y12), (6, Value.int .i64 y13)] h (fun i e' h' => bif Nat.beq i 2 then (exS (some (e'.get 0)) fun u44 => exS (some (e'.get 4)) fun u45 => exI .i64 (some (e'.get 5)) fun u46 => exI .i64 (some (e'.get 6)) fun u47 => K2 u44 u45 u46 u47 h') else none) (fun e' h' => none)
set_option maxRecDepth 100000 in
theorem F_sfano_Pack_l1_succ (F_sfano_right : Sl → GH → (Bool → GH → Option β) → Option β) (R : Nat) (n : Nat) (y10 : Sl) (y11 : Sl) (y12 : Int) (y13 : Int) (h : GH) (K2 : Sl → Sl → Int → Int → GH → Option β) : F_sfano_Pack_l1 F_sfano_right R (n + 1) y10 y11 y12 y13 h K2 =
    (bif decide (y13 < 16) then (bif decide ((IntKind.wrap .i64 (y12 + y13)) < ((y10.n : Nat) : Int)) then exA y10.a fun g18 o19 => within (IntKind.wrap .i64 (y12 + y13)) y10.n (exI .i64 (h.cell ⟨g18, o19 + (IntKind.wrap .i64 (y12 + y13)).toNat * 1, none⟩) fun x20 => exA y10.a fun g21 o22 => within y12 y10.n (exI .i64 (h.cell ⟨g21, o22 + y12.toNat * 1, none⟩) fun x23 => (bif x20 == x23 then F_sfano_Pack_l1 F_sfano_right R n y10 y11 y12 (IntKind.wrap .i64 (y13 + 1)) h K2 else K2 y10 y11 y12 y13 h))) else K2 y10 y11 y12 y13 h) else K2 y10 y11 y12 y13 h) := by kernel_rfl
set_option maxRecDepth 100000 in
theorem F_sfano_Pack_l0_succ (F_sfano_right : Sl → GH → (Bool → GH → Option β) → Option β) (R : Nat) (n : Nat) (y6 : Sl) (y7 : Sl) (y8 : Int) (h : GH) (K0 : Sl → GH → Option β) : F_sfano_Pack_l0 F_sfano_right R (n + 1) y6 y7 y8 h K0 =
    (bif decide (y8 < ((y6.n : Nat) : Int)) then F_sfano_Pack_l1 F_sfano_right R R y6 y7 y8 1 h (fun w24 w25 w26 w27 h28 => exA w24.a fun g29 o30 => within w26 w24.n (exI .i64 (h28.cell ⟨g29, o30 + w26.toNat * 1, none⟩) fun x31 => gnew [Value.int .u8 (IntKind.wrap .u8 (IntKind.wrap .i64 (BitVec.ofInt (IntKind.bits .i64) (shlI .i64 (IntKind.wrap .i64 (w27 - 1)) 4) ||| BitVec.ofInt (IntKind.bits .i64) (IntKind.wrap .i64 (x31 - 1))).toNat))] 1 h28 fun g32 h33 => gappS 1 1 w25 ⟨(some ⟨g32, 0, none⟩), 1, 1⟩ h33 fun s34 h35 => F_sfano_Pack_l0 F_sfano_right R n w24 s34 (IntKind.wrap .i64 (w26 + w27)) h35 K0)) else K0 y7 h) := by kernel_rfl
noncomputable def G_sfano_Pack (F_sfano_right : Sl → GH → (Bool → GH → Option β) → Option β) (R : Nat) (a1 : Sl) (h : GH) (K : Sl → Int → GH → Option β) : Option β := gfun Try.prog (CF_sfano_Pack F_sfano_right) HF_sfano_Pack R Try.f13 [Value.slice a1.a a1.n a1.c] h (fun v h' => exTup 2 v fun vs => exV (nth vs 0) fun v0 => exS (some v0) fun u48 => exV (nth vs 1) fun v1 => exI .i64 (some v1) fun u49 => K u48 u49 h')
set_option maxRecDepth 100000 in
theorem F_sfano_Pack_gen (F_sfano_right : Sl → GH → (Bool → GH → Option β) → Option β) (R : Nat) (a1 : Sl) (h : GH) (K : Sl → Int → GH → Option β) : G_sfano_Pack F_sfano_right R a1 h K =
    F_sfano_right a1 h fun r2 h3 => (bif !r2 then K ⟨none, 0, 0⟩ 2 h3 else gnew [Value.int .u8 0] 1 h3 fun g4 h5 => F_sfano_Pack_l0 F_sfano_right R R a1 ⟨(some ⟨g4, 0, none⟩), 1, 1⟩ 0 h5 (fun w36 h37 => exA w36.a fun g38 o39 => within 0 w36.n (gput g38 (o39 + (0 : Int).toNat * 1) [Value.int .u8 (IntKind.wrap .u8 (IntKind.wrap .i64 (((w36.n : Nat) : Int) - 2)))] h37 fun h40 => K w36 0 h40))) := by kernel_rfl
noncomputable def F_sfano_Pack (R : Nat) (a1 : Sl) (h : GH) (K : Sl → Int → GH → Option β) : Option β := G_sfano_Pack (F_sfano_right R) R a1 h K
set_option maxRecDepth 100000 in
theorem CF_sfano_Pack_sim {R : Nat} : SimOrc Try.prog (CF_sfano_Pack (F_sfano_right R) (β := β)) := by
  intro f args h K r hc
  unfold CF_sfano_Pack at hc
  cases hb : Nat.beq f 37 with
  | true =>
    rw [hb] at hc
    simp only [cond_true] at hc
    obtain rfl := Nat.eq_of_beq_eq_true hb
    split at hc
    · exact any_call (F_sfano_right_sim (K := K) hc)
    · cases hc
  | false =>
  rw [hb] at hc
  simp only [cond_false] at hc
  cases hc
set_option maxRecDepth 100000 in
theorem F_sfano_Pack_sim {R : Nat} {r : β} {a1 : Sl} {h : GH} {K : Value → GH → Option β} (hc : F_sfano_Pack R a1 h (fun q0 q1 h' => K (Value.tuple #[Value.slice q0.a q0.n q0.c, Value.int .i64 q1]) h') = some r) : ∃ v h', K v h' = some r ∧ CallSim Try.prog 13 [Value.slice a1.a a1.n a1.c] h v h' := by
  unfold F_sfano_Pack G_sfano_Pack at hc
  obtain ⟨v, h', hk, hs⟩ := gfun_sim CF_sfano_Pack_sim mixed_ok (fun f h => by cases h) Try.func13 (by kernel_rfl) hc
  obtain ⟨vs, rfl, hl, hk⟩ := exTup_v hk
  obtain ⟨v0, t0, hk⟩ := exV_v hk
  obtain ⟨u0, e0, hk⟩ := exS_v hk; cases e0
  obtain ⟨v1, t1, hk⟩ := exV_v hk
  obtain ⟨u1, e1, hk⟩ := exI_v hk; cases e1
  obtain rfl := arr2 hl t0 t1
  exact ⟨_, h', hk, hs⟩
/-! F38 duffel/duffelref06.May -/
def CF_ref06_May  : Orc β := fun f args h K => none
def HF_ref06_May : Hints := ⟨[(2, [0, 3], [(0, [(0, .ty 22)])], some [(2, .ty 4)])], [], []⟩
noncomputable def BF_ref06_May : Code := match Try.f38.body with | some c => c | none => .skip
noncomputable def F_ref06_May_l0  (R : Nat) (n : Nat) (y2 : Sl) (y3 : Int) (h : GH) (K0 : Sl → GH → Option β) (Kr : Bool → GH → Option β) : Option β := gloop (gcode Try.prog (CF_ref06_May ) Try.f38.ntmps HF_ref06_May R (at_ [true, false, true, false, false] BF_ref06_May)) [0, 3] n [(0, Value.slice y2.a y2.n y2.c), (3, Value.int .i64 y3)] h (fun i e' h' => bif Nat.beq i 0 then (exS (some (e'.get 0)) fun u17 => K0 u17 h') else none) (fun e' h' => exB (some (e'.get 2)) fun u18 => Kr u18 h')
set_option maxRecDepth 100000 in
theorem F_ref06_May_l0_succ  (R : Nat) (n : Nat) (y2 : Sl) (y3 : Int) (h : GH) (K0 : Sl → GH → Option β) (Kr : Bool → GH → Option β) : F_ref06_May_l0  R (n + 1) y2 y3 h K0 Kr =
    (bif decide (y3 < ((y2.n : Nat) : Int)) then exA y2.a fun g6 o7 => within y3 y2.n (exI .i64 (h.cell ⟨g6, o7 + y3.toNat * 1, none⟩) fun x8 => (bif decide (x8 < 1) then Kr false h else exA y2.a fun g9 o10 => within y3 y2.n (exI .i64 (h.cell ⟨g9, o10 + y3.toNat * 1, none⟩) fun x11 => (bif decide (x11 > 16) then Kr false h else F_ref06_May_l0 R n y2 (IntKind.wrap .i64 (y3 + 1)) h K0 Kr)))) else K0 y2 h) := by kernel_rfl
noncomputable def G_ref06_May  (R : Nat) (a1 : Sl) (h : GH) (K : Bool → GH → Option β) : Option β := gfun Try.prog (CF_ref06_May ) HF_ref06_May R Try.f38 [Value.slice a1.a a1.n a1.c] h (fun v h' => exB (some v) fun u19 => K u19 h')
set_option maxRecDepth 100000 in
theorem F_ref06_May_gen  (R : Nat) (a1 : Sl) (h : GH) (K : Bool → GH → Option β) : G_ref06_May  R a1 h K =
    F_ref06_May_l0 R R a1 0 h (fun w12 h13 => (bif decide (((w12.n : Nat) : Int) > 0) then K (decide (((w12.n : Nat) : Int) ≤ 256)) h13 else K false h13)) (fun w14 h15 => K w14 h15) := by kernel_rfl
noncomputable def F_ref06_May (R : Nat) (a1 : Sl) (h : GH) (K : Bool → GH → Option β) : Option β := G_ref06_May  R a1 h K
theorem CF_ref06_May_sim : SimOrc Try.prog (CF_ref06_May (β := β)) := by
  intro f args h K r hc
  cases hc
set_option maxRecDepth 100000 in
theorem F_ref06_May_sim {R : Nat} {r : β} {a1 : Sl} {h : GH} {K : Value → GH → Option β} (hc : F_ref06_May R a1 h (fun q0 h' => K (Value.bool q0) h') = some r) : ∃ v h', K v h' = some r ∧ CallSim Try.prog 38 [Value.slice a1.a a1.n a1.c] h v h' := by
  unfold F_ref06_May G_ref06_May at hc
  obtain ⟨v, h', hk, hs⟩ := gfun_sim CF_ref06_May_sim mixed_ok (fun f h => by cases h) Try.func38 (by kernel_rfl) hc
  obtain ⟨u0, e0, hk⟩ := exB_v hk; cases e0
  exact ⟨_, h', hk, hs⟩
/-! F14 duffel/duffelref06.Pack -/
def CF_ref06_Pack (F_ref06_May : Sl → GH → (Bool → GH → Option β) → Option β) : Orc β := fun f args h K => bif Nat.beq f 38 then (match args with | [.slice p1a p1n p1c] => F_ref06_May ⟨p1a, p1n, p1c⟩ h (fun q16 h' => K (Value.bool q16) h') | _ => none) else none
def HF_ref06_Pack : Hints := ⟨[(6, [0, 4, 5, 6], [(0, [(4, .ty 35)])], none)], [], []⟩
noncomputable def BF_ref06_Pack : Code := match Try.f14.body with | some c => c | none => .skip
noncomputable def F_ref06_Pack_l0 (F_ref06_May : Sl → GH → (Bool → GH → Option β) → Option β) (R : Nat) (n : Nat) (y4 : Sl) (y5 : Sl) (y6 : Int) (y7 : Int) (h : GH) (K0 : Sl → GH → Option β) : Option β := gloop (gcode Try.prog (CF_ref06_Pack F_ref06_May) Try.f14.ntmps HF_ref06_Pack R (at_ [true, true, true, true, false, true, false, false] BF_ref06_Pack)) [0, 4, 5, 6] n [(0, Value.slice y4.a y4.n y4.c), (4, Value.slice y5.a y5.n y5.c), (5, Value.int .i64 y6), (6, Value.int .i64 y7)] h (fun i e' h' => bif Nat.beq i 0 then (exS (some (e'.get 4)) fun u44 => K0 u44 h') else none) (fun e' h' => none)
set_option maxRecDepth 100000 in
theorem F_ref06_Pack_l0_succ (F_ref06_May : Sl → GH → (Bool → GH → Option β) → Option β) (R : Nat) (n : Nat) (y4 : Sl) (y5 : Sl) (y6 : Int) (y7 : Int) (h : GH) (K0 : Sl → GH → Option β) : F_ref06_Pack_l0 F_ref06_May R (n + 1) y4 y5 y6 y7 h K0 =
    (bif decide (y7 < ((y4.n : Nat) : Int)) then (bif decide ((IntKind.wrap .i64 (y7 + 1)) < ((y4.n : Nat) : Int)) then exA y4.a fun g9 o10 => within (IntKind.wrap .i64 (y7 + 1)) y4.n (exI .i64 (h.cell ⟨g9, o10 + (IntKind.wrap .i64 (y7 + 1)).toNat * 1, none⟩) fun x11 => exA y4.a fun g12 o13 => within y7 y4.n (exI .i64 (h.cell ⟨g12, o13 + y7.toNat * 1, none⟩) fun x14 => (bif x11 == x14 then (bif decide (y6 < 16) then F_ref06_Pack_l0 F_ref06_May R n y4 y5 (IntKind.wrap .i64 (y6 + 1)) (IntKind.wrap .i64 (y7 + 1)) h K0 else exA y4.a fun g15 o16 => within y7 y4.n (exI .i64 (h.cell ⟨g15, o16 + y7.toNat * 1, none⟩) fun x17 => gnew [Value.int .u8 (IntKind.wrap .u8 (IntKind.wrap .i64 ((IntKind.wrap .i64 ((IntKind.wrap .i64 ((IntKind.wrap .i64 (y6 - 1)) * 16)) + x17)) - 1)))] 1 h fun g18 h19 => gappS 1 1 y5 ⟨(some ⟨g18, 0, none⟩), 1, 1⟩ h19 fun s20 h21 => F_ref06_Pack_l0 F_ref06_May R n y4 s20 1 (IntKind.wrap .i64 (y7 + 1)) h21 K0)) else exA y4.a fun g22 o23 => within y7 y4.n (exI .i64 (h.cell ⟨g22, o23 + y7.toNat * 1, none⟩) fun x24 => gnew [Value.int .u8 (IntKind.wrap .u8 (IntKind.wrap .i64 ((IntKind.wrap .i64 ((IntKind.wrap .i64 ((IntKind.wrap .i64 (y6 - 1)) * 16)) + x24)) - 1)))] 1 h fun g25 h26 => gappS 1 1 y5 ⟨(some ⟨g25, 0, none⟩), 1, 1⟩ h26 fun s27 h28 => F_ref06_Pack_l0 F_ref06_May R n y4 s27 1 (IntKind.wrap .i64 (y7 + 1)) h28 K0)))) else exA y4.a fun g29 o30 => within y7 y4.n (exI .i64 (h.cell ⟨g29, o30 + y7.toNat * 1, none⟩) fun x31 => gnew [Value.int .u8 (IntKind.wrap .u8 (IntKind.wrap .i64 ((IntKind.wrap .i64 ((IntKind.wrap .i64 ((IntKind.wrap .i64 (y6 - 1)) * 16)) + x31)) - 1)))] 1 h fun g32 h33 => gappS 1 1 y5 ⟨(some ⟨g32, 0, none⟩), 1, 1⟩ h33 fun s34 h35 => F_ref06_Pack_l0 F_ref06_May R n y4 s34 1 (IntKind.wrap .i64 (y7 + 1)) h35 K0)) else K0 y5 h) := by kernel_rfl
noncomputable def G_ref06_Pack (F_ref06_May : Sl → GH → (Bool → GH → Option β) → Option β) (R : Nat) (a1 : Sl) (h : GH) (K : Sl → Int → GH → Option β) : Option β := gfun Try.prog (CF_ref06_Pack F_ref06_May) HF_ref06_Pack R Try.f14 [Value.slice a1.a a1.n a1.c] h (fun v h' => exTup 2 v fun vs => exV (nth vs 0) fun v0 => exS (some v0) fun u45 => exV (nth vs 1) fun v1 => exI .i64 (some v1) fun u46 => K u45 u46 h')
set_option maxRecDepth 100000 in
theorem F_ref06_Pack_gen (F_ref06_May : Sl → GH → (Bool → GH → Option β) → Option β) (R : Nat) (a1 : Sl) (h : GH) (K : Sl → Int → GH → Option β) : G_ref06_Pack F_ref06_May R a1 h K =
    F_ref06_May a1 h fun r2 h3 => (bif !r2 then K ⟨none, 0, 0⟩ 2 h3 else F_ref06_Pack_l0 F_ref06_May R R a1 ⟨none, 0, 0⟩ 1 0 h3 (fun w36 h37 => gnew [Value.int .u8 (IntKind.wrap .u8 (IntKind.wrap .i64 (((w36.n : Nat) : Int) - 1)))] 1 h37 fun g38 h39 => gappS 1 1 ⟨(some ⟨g38, 0, none⟩), 1, 1⟩ w36 h39 fun s40 h41 => K s40 0 h41)) := by kernel_rfl
noncomputable def F_ref06_Pack (R : Nat) (a1 : Sl) (h : GH) (K : Sl → Int → GH → Option β) : Option β := G_ref06_Pack (F_ref06_May R) R a1 h K
set_option maxRecDepth 100000 in
theorem CF_ref06_Pack_sim {R : Nat} : SimOrc Try.prog (CF_ref06_Pack (F_ref06_May R) (β := β)) := by
  intro f args h K r hc
  unfold CF_ref06_Pack at hc
  cases hb : Nat.beq f 38 with
  | true =>
    rw [hb] at hc
    simp only [cond_true] at hc
    obtain rfl := Nat.eq_of_beq_eq_true hb
    split at hc
    · exact any_call (F_ref06_May_sim (K := K) hc)
    · cases hc
  | false =>
  rw [hb] at hc
  simp only [cond_false] at hc
  cases hc
set_option maxRecDepth 100000 in
theorem F_ref06_Pack_sim {R : Nat} {r : β} {a1 : Sl} {h : GH} {K : Value → GH → Option β} (hc : F_ref06_Pack R a1 h (fun q0 q1 h' => K (Value.tuple #[Value.slice q0.a q0.n q0.c, Value.int .i64 q1]) h') = some r) : ∃ v h', K v h' = some r ∧ CallSim Try.prog 14 [Value.slice a1.a a1.n a1.c] h v h' := by
  unfold F_ref06_Pack G_ref06_Pack at hc
  obtain ⟨v, h', hk, hs⟩ := gfun_sim CF_ref06_Pack_sim mixed_ok (fun f h => by cases h) Try.func14 (by kernel_rfl) hc
  obtain ⟨vs, rfl, hl, hk⟩ := exTup_v hk
  obtain ⟨v0, t0, hk⟩ := exV_v hk
  obtain ⟨u0, e0, hk⟩ := exS_v hk; cases e0
  obtain ⟨v1, t1, hk⟩ := exV_v hk
  obtain ⟨u1, e1, hk⟩ := exI_v hk; cases e1
  obtain rfl := arr2 hl t0 t1
  exact ⟨_, h', hk, hs⟩
/-! F15 duffel/duffelref01.Same -/
def CF_ref01_Same  : Orc β := fun f args h K => none
def HF_ref01_Same : Hints := ⟨[(4, [0, 1, 5], [(0, [])], some [(4, .ty 4)])], [], []⟩
noncomputable def BF_ref01_Same : Code := match Try.f15.body with | some c => c | none => .skip
noncomputable def F_ref01_Same_l0  (R : Nat) (n : Nat) (y3 : Sl) (y4 : Sl) (y5 : Int) (h : GH) (K0 : GH → Option β) (Kr : Bool → GH → Option β) : Option β := gloop (gcode Try.prog (CF_ref01_Same ) Try.f15.ntmps HF_ref01_Same R (at_ [true, true, false, true, false, false] BF_ref01_Same)) [0, 1, 5] n [(0, Value.slice y3.a y3.n y3.c), (1, Value.slice y4.a y4.n y4.c), (5, Value.int .i64 y5)] h (fun i e' h' => bif Nat.beq i 0 then (K0 h') else none) (fun e' h' => exB (some (e'.get 4)) fun u17 => Kr u17 h')
set_option maxRecDepth 100000 in
theorem F_ref01_Same_l0_succ  (R : Nat) (n : Nat) (y3 : Sl) (y4 : Sl) (y5 : Int) (h : GH) (K0 : GH → Option β) (Kr : Bool → GH → Option β) : F_ref01_Same_l0  R (n + 1) y3 y4 y5 h K0 Kr =
    (bif decide (y5 < ((y3.n : Nat) : Int)) then exA y3.a fun g7 o8 => within y5 y3.n (exI .u8 (h.cell ⟨g7, o8 + y5.toNat * 1, none⟩) fun x9 => exA y4.a fun g10 o11 => within y5 y4.n (exI .u8 (h.cell ⟨g10, o11 + y5.toNat * 1, none⟩) fun x12 => (bif x9 != x12 then Kr false h else F_ref01_Same_l0 R n y3 y4 (IntKind.wrap .i64 (y5 + 1)) h K0 Kr))) else K0 h) := by kernel_rfl
noncomputable def G_ref01_Same  (R : Nat) (a1 : Sl) (a2 : Sl) (h : GH) (K : Bool → GH → Option β) : Option β := gfun Try.prog (CF_ref01_Same ) HF_ref01_Same R Try.f15 [Value.slice a1.a a1.n a1.c, Value.slice a2.a a2.n a2.c] h (fun v h' => exB (some v) fun u18 => K u18 h')
set_option maxRecDepth 100000 in
theorem F_ref01_Same_gen  (R : Nat) (a1 : Sl) (a2 : Sl) (h : GH) (K : Bool → GH → Option β) : G_ref01_Same  R a1 a2 h K =
    (bif ((a1.n : Nat) : Int) != ((a2.n : Nat) : Int) then K false h else F_ref01_Same_l0 R R a1 a2 0 h (fun h13 => K true h13) (fun w14 h15 => K w14 h15)) := by kernel_rfl
noncomputable def F_ref01_Same (R : Nat) (a1 : Sl) (a2 : Sl) (h : GH) (K : Bool → GH → Option β) : Option β := G_ref01_Same  R a1 a2 h K
theorem CF_ref01_Same_sim : SimOrc Try.prog (CF_ref01_Same (β := β)) := by
  intro f args h K r hc
  cases hc
set_option maxRecDepth 100000 in
theorem F_ref01_Same_sim {R : Nat} {r : β} {a1 : Sl} {a2 : Sl} {h : GH} {K : Value → GH → Option β} (hc : F_ref01_Same R a1 a2 h (fun q0 h' => K (Value.bool q0) h') = some r) : ∃ v h', K v h' = some r ∧ CallSim Try.prog 15 [Value.slice a1.a a1.n a1.c, Value.slice a2.a a2.n a2.c] h v h' := by
  unfold F_ref01_Same G_ref01_Same at hc
  obtain ⟨v, h', hk, hs⟩ := gfun_sim CF_ref01_Same_sim mixed_ok (fun f h => by cases h) Try.func15 (by kernel_rfl) hc
  obtain ⟨u0, e0, hk⟩ := exB_v hk; cases e0
  exact ⟨_, h', hk, hs⟩
/-! F4 duffel/duffellaw06.SfanoPacks -/
def CF_law06_SfanoPacks (F_ref01_Ints : Sl → Int → GH → (Sl → GH → Option β) → Option β) (F_sfano_Pack : Sl → GH → (Sl → Int → GH → Option β) → Option β) (F_ref06_Pack : Sl → GH → (Sl → Int → GH → Option β) → Option β) (F_ref01_Same : Sl → Sl → GH → (Bool → GH → Option β) → Option β) (F_law06_lives : GH → (Bool → GH → Option β) → Option β) : Orc β := fun f args h K => bif Nat.beq f 9 then (match args with | [.slice p1a p1n p1c, .int .i64 p2] => F_ref01_Ints ⟨p1a, p1n, p1c⟩ p2 h (fun q4 h' => K (Value.slice q4.a q4.n q4.c) h') | _ => none) else (bif Nat.beq f 13 then (match args with | [.slice p1a p1n p1c] => F_sfano_Pack ⟨p1a, p1n, p1c⟩ h (fun q41 q42 h' => K (Value.tuple #[Value.slice q41.a q41.n q41.c, Value.int .i64 q42]) h') | _ => none) else (bif Nat.beq f 14 then (match args with | [.slice p1a p1n p1c] => F_ref06_Pack ⟨p1a, p1n, p1c⟩ h (fun q42 q43 h' => K (Value.tuple #[Value.slice q42.a q42.n q42.c, Value.int .i64 q43]) h') | _ => none) else (bif Nat.beq f 15 then (match args with | [.slice p1a p1n p1c, .slice p2a p2n p2c] => F_ref01_Same ⟨p1a, p1n, p1c⟩ ⟨p2a, p2n, p2c⟩ h (fun q16 h' => K (Value.bool q16) h') | _ => none) else (bif Nat.beq f 11 then (match args with | [] => F_law06_lives  h (fun q1 h' => K (Value.bool q1) h') | _ => none) else none))))
def HF_law06_SfanoPacks : Hints := ⟨[], [], []⟩
noncomputable def G_law06_SfanoPacks (F_ref01_Ints : Sl → Int → GH → (Sl → GH → Option β) → Option β) (F_sfano_Pack : Sl → GH → (Sl → Int → GH → Option β) → Option β) (F_ref06_Pack : Sl → GH → (Sl → Int → GH → Option β) → Option β) (F_ref01_Same : Sl → Sl → GH → (Bool → GH → Option β) → Option β) (F_law06_lives : GH → (Bool → GH → Option β) → Option β) (R : Nat) (a1 : Sl) (h : GH) (K : Bool → GH → Option β) : Option β := gfun Try.prog (CF_law06_SfanoPacks F_ref01_Ints F_sfano_Pack F_ref06_Pack F_ref01_Same F_law06_lives) HF_law06_SfanoPacks R Try.f4 [Value.slice a1.a a1.n a1.c] h (fun v h' => exB (some v) fun u15 => K u15 h')
set_option maxRecDepth 100000 in
theorem F_law06_SfanoPacks_gen (F_ref01_Ints : Sl → Int → GH → (Sl → GH → Option β) → Option β) (F_sfano_Pack : Sl → GH → (Sl → Int → GH → Option β) → Option β) (F_ref06_Pack : Sl → GH → (Sl → Int → GH → Option β) → Option β) (F_ref01_Same : Sl → Sl → GH → (Bool → GH → Option β) → Option β) (F_law06_lives : GH → (Bool → GH → Option β) → Option β) (R : Nat) (a1 : Sl) (h : GH) (K : Bool → GH → Option β) : G_law06_SfanoPacks F_ref01_Ints F_sfano_Pack F_ref06_Pack F_ref01_Same F_law06_lives R a1 h K =
    F_ref01_Ints a1 260 h fun r2 h3 => F_sfano_Pack r2 h3 fun r4 r5 h6 => F_ref06_Pack r2 h6 fun r7 r8 h9 => F_ref01_Same r4 r7 h9 fun r10 h11 => (bif r10 then (bif r5 == r8 then F_law06_lives h11 fun r12 h13 => K r12 h13 else K false h11) else K false h11) := by kernel_rfl
noncomputable def F_law06_SfanoPacks (R : Nat) (a1 : Sl) (h : GH) (K : Bool → GH → Option β) : Option β := G_law06_SfanoPacks (F_ref01_Ints R) (F_sfano_Pack R) (F_ref06_Pack R) (F_ref01_Same R) F_law06_lives R a1 h K
set_option maxRecDepth 100000 in
theorem CF_law06_SfanoPacks_sim {R : Nat} : SimOrc Try.prog (CF_law06_SfanoPacks (F_ref01_Ints R) (F_sfano_Pack R) (F_ref06_Pack R) (F_ref01_Same R) F_law06_lives (β := β)) := by
  intro f args h K r hc
  unfold CF_law06_SfanoPacks at hc
  cases hb : Nat.beq f 9 with
  | true =>
    rw [hb] at hc
    simp only [cond_true] at hc
    obtain rfl := Nat.eq_of_beq_eq_true hb
    split at hc
    · exact any_call (F_ref01_Ints_sim (K := K) hc)
    · cases hc
  | false =>
  rw [hb] at hc
  simp only [cond_false] at hc
  cases hb : Nat.beq f 13 with
  | true =>
    rw [hb] at hc
    simp only [cond_true] at hc
    obtain rfl := Nat.eq_of_beq_eq_true hb
    split at hc
    · exact any_call (F_sfano_Pack_sim (K := K) hc)
    · cases hc
  | false =>
  rw [hb] at hc
  simp only [cond_false] at hc
  cases hb : Nat.beq f 14 with
  | true =>
    rw [hb] at hc
    simp only [cond_true] at hc
    obtain rfl := Nat.eq_of_beq_eq_true hb
    split at hc
    · exact any_call (F_ref06_Pack_sim (K := K) hc)
    · cases hc
  | false =>
  rw [hb] at hc
  simp only [cond_false] at hc
  cases hb : Nat.beq f 15 with
  | true =>
    rw [hb] at hc
    simp only [cond_true] at hc
    obtain rfl := Nat.eq_of_beq_eq_true hb
    split at hc
    · exact any_call (F_ref01_Same_sim (K := K) hc)
    · cases hc
  | false =>
  rw [hb] at hc
  simp only [cond_false] at hc
  cases hb : Nat.beq f 11 with
  | true =>
    rw [hb] at hc
    simp only [cond_true] at hc
    obtain rfl := Nat.eq_of_beq_eq_true hb
    split at hc
    · exact any_call (F_law06_lives_sim (K := K) hc)
    · cases hc
  | false =>
  rw [hb] at hc
  simp only [cond_false] at hc
  cases hc
set_option maxRecDepth 100000 in
theorem F_law06_SfanoPacks_sim {R : Nat} {r : β} {a1 : Sl} {h : GH} {K : Value → GH → Option β} (hc : F_law06_SfanoPacks R a1 h (fun q0 h' => K (Value.bool q0) h') = some r) : ∃ v h', K v h' = some r ∧ CallSim Try.prog 4 [Value.slice a1.a a1.n a1.c] h v h' := by
  unfold F_law06_SfanoPacks G_law06_SfanoPacks at hc
  obtain ⟨v, h', hk, hs⟩ := gfun_sim CF_law06_SfanoPacks_sim mixed_ok (fun f h => by cases h) Try.func4 (by kernel_rfl) hc
  obtain ⟨u0, e0, hk⟩ := exB_v hk; cases e0
  exact ⟨_, h', hk, hs⟩
/-! F42 bytes.Clone -/
def CF_bytes_Clone  : Orc β := fun f args h K => none
def HF_bytes_Clone : Hints := ⟨[], [], []⟩
noncomputable def G_bytes_Clone  (R : Nat) (a1 : Sl) (h : GH) (K : Sl → GH → Option β) : Option β := gfun Try.prog (CF_bytes_Clone ) HF_bytes_Clone R Try.f42 [Value.slice a1.a a1.n a1.c] h (fun v h' => exS (some v) fun u7 => K u7 h')
set_option maxRecDepth 100000 in
theorem F_bytes_Clone_gen  (R : Nat) (a1 : Sl) (h : GH) (K : Sl → GH → Option β) : G_bytes_Clone  R a1 h K =
    (bif Option.isNone a1.a then K ⟨none, 0, 0⟩ h else gnew [] 1 h fun g2 h3 => gappS 1 1 ⟨(some ⟨g2, 0, none⟩), 0, 0⟩ a1 h3 fun s4 h5 => K s4 h5) := by kernel_rfl
noncomputable def F_bytes_Clone (R : Nat) (a1 : Sl) (h : GH) (K : Sl → GH → Option β) : Option β := G_bytes_Clone  R a1 h K
theorem CF_bytes_Clone_sim : SimOrc Try.prog (CF_bytes_Clone (β := β)) := by
  intro f args h K r hc
  cases hc
set_option maxRecDepth 100000 in
theorem F_bytes_Clone_sim {R : Nat} {r : β} {a1 : Sl} {h : GH} {K : Value → GH → Option β} (hc : F_bytes_Clone R a1 h (fun q0 h' => K (Value.slice q0.a q0.n q0.c) h') = some r) : ∃ v h', K v h' = some r ∧ CallSim Try.prog 42 [Value.slice a1.a a1.n a1.c] h v h' := by
  unfold F_bytes_Clone G_bytes_Clone at hc
  obtain ⟨v, h', hk, hs⟩ := gfun_sim CF_bytes_Clone_sim mixed_ok (fun f h => by cases h) Try.func42 (by kernel_rfl) hc
  obtain ⟨u0, e0, hk⟩ := exS_v hk; cases e0
  exact ⟨_, h', hk, hs⟩
/-! F21 duffel/bitio.Open -/
def CF_bitio_Open (F_bytes_Clone : Sl → GH → (Sl → GH → Option β) → Option β) : Orc β := fun f args h K => bif Nat.beq f 42 then (match args with | [.slice p1a p1n p1c] => F_bytes_Clone ⟨p1a, p1n, p1c⟩ h (fun q6 h' => K (Value.slice q6.a q6.n q6.c) h') | _ => none) else none
def HF_bitio_Open : Hints := ⟨[], [], []⟩
noncomputable def G_bitio_Open (F_bytes_Clone : Sl → GH → (Sl → GH → Option β) → Option β) (R : Nat) (a1 : Sl) (h : GH) (K : Option Addr → GH → Option β) : Option β := gfun Try.prog (CF_bitio_Open F_bytes_Clone) HF_bitio_Open R Try.f21 [Value.slice a1.a a1.n a1.c] h (fun v h' => exP (some v) fun u7 => K u7 h')
set_option maxRecDepth 100000 in
theorem F_bitio_Open_gen (F_bytes_Clone : Sl → GH → (Sl → GH → Option β) → Option β) (R : Nat) (a1 : Sl) (h : GH) (K : Option Addr → GH → Option β) : G_bitio_Open F_bytes_Clone R a1 h K =
    F_bytes_Clone a1 h fun r2 h3 => gnew [Value.slice r2.a r2.n r2.c, Value.int .i64 0, Value.int .u64 0, Value.int .i64 0, Value.int .i64 0, Value.bool true] 0 h3 fun g4 h5 => K (some ⟨g4, 0, none⟩) h5 := by kernel_rfl
noncomputable def F_bitio_Open (R : Nat) (a1 : Sl) (h : GH) (K : Option Addr → GH → Option β) : Option β := G_bitio_Open (F_bytes_Clone R) R a1 h K
set_option maxRecDepth 100000 in
theorem CF_bitio_Open_sim {R : Nat} : SimOrc Try.prog (CF_bitio_Open (F_bytes_Clone R) (β := β)) := by
  intro f args h K r hc
  unfold CF_bitio_Open at hc
  cases hb : Nat.beq f 42 with
  | true =>
    rw [hb] at hc
    simp only [cond_true] at hc
    obtain rfl := Nat.eq_of_beq_eq_true hb
    split at hc
    · exact any_call (F_bytes_Clone_sim (K := K) hc)
    · cases hc
  | false =>
  rw [hb] at hc
  simp only [cond_false] at hc
  cases hc
set_option maxRecDepth 100000 in
theorem F_bitio_Open_sim {R : Nat} {r : β} {a1 : Sl} {h : GH} {K : Value → GH → Option β} (hc : F_bitio_Open R a1 h (fun q0 h' => K (Value.pointer q0) h') = some r) : ∃ v h', K v h' = some r ∧ CallSim Try.prog 21 [Value.slice a1.a a1.n a1.c] h v h' := by
  unfold F_bitio_Open G_bitio_Open at hc
  obtain ⟨v, h', hk, hs⟩ := gfun_sim CF_bitio_Open_sim mixed_ok (fun f h => by cases h) Try.func21 (by kernel_rfl) hc
  obtain ⟨u0, e0, hk⟩ := exP_v hk; cases e0
  exact ⟨_, h', hk, hs⟩
/-! F44 (*duffel/bitio.Reader).Err -/
def CF_bitio_Reader_Err  : Orc β := fun f args h K => none
def HF_bitio_Reader_Err : Hints := ⟨[], [], []⟩
noncomputable def G_bitio_Reader_Err  (R : Nat) (a1 : Option Addr) (h : GH) (K : Int → GH → Option β) : Option β := gfun Try.prog (CF_bitio_Reader_Err ) HF_bitio_Reader_Err R Try.f44 [Value.pointer a1] h (fun v h' => exI .i64 (some v) fun u9 => K u9 h')
set_option maxRecDepth 100000 in
theorem F_bitio_Reader_Err_gen  (R : Nat) (a1 : Option Addr) (h : GH) (K : Int → GH → Option β) : G_bitio_Reader_Err  R a1 h K =
    (bif a1.isNone then K 1 h else exA a1 fun g2 o3 => exB (h.cell ⟨g2, o3 + 5, none⟩) fun x4 => (bif !x4 then K 1 h else exA a1 fun g5 o6 => exI .i64 (h.cell ⟨g5, o6 + 4, none⟩) fun x7 => K x7 h)) := by kernel_rfl
noncomputable def F_bitio_Reader_Err (R : Nat) (a1 : Option Addr) (h : GH) (K : Int → GH → Option β) : Option β := G_bitio_Reader_Err  R a1 h K
theorem CF_bitio_Reader_Err_sim : SimOrc Try.prog (CF_bitio_Reader_Err (β := β)) := by
  intro f args h K r hc
  cases hc
set_option maxRecDepth 100000 in
theorem F_bitio_Reader_Err_sim {R : Nat} {r : β} {a1 : Option Addr} {h : GH} {K : Value → GH → Option β} (hc : F_bitio_Reader_Err R a1 h (fun q0 h' => K (Value.int .i64 q0) h') = some r) : ∃ v h', K v h' = some r ∧ CallSim Try.prog 44 [Value.pointer a1] h v h' := by
  unfold F_bitio_Reader_Err G_bitio_Reader_Err at hc
  obtain ⟨v, h', hk, hs⟩ := gfun_sim CF_bitio_Reader_Err_sim mixed_ok (fun f h => by cases h) Try.func44 (by kernel_rfl) hc
  obtain ⟨u0, e0, hk⟩ := exI_v hk; cases e0
  exact ⟨_, h', hk, hs⟩
/-! F56 duffel/bitio.right -/
def CF_bitio_right  : Orc β := fun f args h K => none
def HF_bitio_right : Hints := ⟨[], [], []⟩
noncomputable def G_bitio_right  (R : Nat) (a1 : Int) (h : GH) (K : Bool → GH → Option β) : Option β := gfun Try.prog (CF_bitio_right ) HF_bitio_right R Try.f56 [Value.int .i64 a1] h (fun v h' => exB (some v) fun u3 => K u3 h')
set_option maxRecDepth 100000 in
theorem F_bitio_right_gen  (R : Nat) (a1 : Int) (h : GH) (K : Bool → GH → Option β) : G_bitio_right  R a1 h K =
    (bif decide (a1 ≥ 0) then K (decide (a1 ≤ 32)) h else K false h) := by kernel_rfl
noncomputable def F_bitio_right (R : Nat) (a1 : Int) (h : GH) (K : Bool → GH → Option β) : Option β := G_bitio_right  R a1 h K
theorem CF_bitio_right_sim : SimOrc Try.prog (CF_bitio_right (β := β)) := by
  intro f args h K r hc
  cases hc
set_option maxRecDepth 100000 in
theorem F_bitio_right_sim {R : Nat} {r : β} {a1 : Int} {h : GH} {K : Value → GH → Option β} (hc : F_bitio_right R a1 h (fun q0 h' => K (Value.bool q0) h') = some r) : ∃ v h', K v h' = some r ∧ CallSim Try.prog 56 [Value.int .i64 a1] h v h' := by
  unfold F_bitio_right G_bitio_right at hc
  obtain ⟨v, h', hk, hs⟩ := gfun_sim CF_bitio_right_sim mixed_ok (fun f h => by cases h) Try.func56 (by kernel_rfl) hc
  obtain ⟨u0, e0, hk⟩ := exB_v hk; cases e0
  exact ⟨_, h', hk, hs⟩
/-! F57 (*duffel/bitio.Reader).fill -/
def CF_bitio_Reader_fill  : Orc β := fun f args h K => none
def HF_bitio_Reader_fill : Hints := ⟨[(0, [0, 1], [(0, [])], none)], [], []⟩
noncomputable def BF_bitio_Reader_fill : Code := match Try.f57.body with | some c => c | none => .skip
noncomputable def F_bitio_Reader_fill_l0  (R : Nat) (n : Nat) (y3 : Option Addr) (y4 : Int) (h : GH) (K0 : GH → Option β) : Option β := gloop (gcode Try.prog (CF_bitio_Reader_fill ) Try.f57.ntmps HF_bitio_Reader_fill R (at_ [false, false] BF_bitio_Reader_fill)) [0, 1] n [(0, Value.pointer y3), (1, Value.int .i64 y4)] h (fun i e' h' => bif Nat.beq i 0 then (K0 h') else none) (fun e' h' => none)
set_option maxRecDepth 100000 in
theorem F_bitio_Reader_fill_l0_succ  (R : Nat) (n : Nat) (y3 : Option Addr) (y4 : Int) (h : GH) (K0 : GH → Option β) : F_bitio_Reader_fill_l0  R (n + 1) y3 y4 h K0 =
    exA y3 fun g5 o6 => exI .i64 (h.cell ⟨g5, o6 + 3, none⟩) fun x7 => (bif decide (x7 < y4) then exA y3 fun g8 o9 => exI .i64 (h.cell ⟨g8, o9 + 1, none⟩) fun x10 => exA y3 fun g11 o12 => exS (h.cell ⟨g11, o12 + 0, none⟩) fun x13 => (bif decide (x10 < ((x13.n : Nat) : Int)) then exA y3 fun g14 o15 => exI .u64 (h.cell ⟨g14, o15 + 2, none⟩) fun x16 => exA y3 fun g17 o18 => exS (h.cell ⟨g17, o18 + 0, none⟩) fun x19 => exA y3 fun g20 o21 => exI .i64 (h.cell ⟨g20, o21 + 1, none⟩) fun x22 => exA x19.a fun g23 o24 => within x22 x19.n (exI .u8 (h.cell ⟨g23, o24 + x22.toNat * 1, none⟩) fun x25 => exA y3 fun g26 o27 => exI .i64 (h.cell ⟨g26, o27 + 3, none⟩) fun x28 => (bif decide (x28 < 0) then none else exA y3 fun g29 o30 => gput g29 (o30 + 2) [Value.int .u64 (IntKind.wrap .u64 (BitVec.ofInt (IntKind.bits .u64) x16 ||| BitVec.ofInt (IntKind.bits .u64) (shlI .u64 (IntKind.wrap .u64 x25) x28)).toNat)] h fun h31 => exA y3 fun g32 o33 => exI .i64 (h31.cell ⟨g32, o33 + 1, none⟩) fun x34 => exA y3 fun g35 o36 => gput g35 (o36 + 1) [Value.int .i64 (IntKind.wrap .i64 (x34 + 1))] h31 fun h37 => exA y3 fun g38 o39 => exI .i64 (h37.cell ⟨g38, o39 + 3, none⟩) fun x40 => exA y3 fun g41 o42 => gput g41 (o42 + 3) [Value.int .i64 (IntKind.wrap .i64 (x40 + 8))] h37 fun h43 => F_bitio_Reader_fill_l0 R n y3 y4 h43 K0)) else K0 h) else K0 h) := by kernel_rfl
noncomputable def G_bitio_Reader_fill  (R : Nat) (a1 : Option Addr) (a2 : Int) (h : GH) (K : GH → Option β) : Option β := gfun Try.prog (CF_bitio_Reader_fill ) HF_bitio_Reader_fill R Try.f57 [Value.pointer a1, Value.int .i64 a2] h (fun _ h' => K h')
set_option maxRecDepth 100000 in
theorem F_bitio_Reader_fill_gen  (R : Nat) (a1 : Option Addr) (a2 : Int) (h : GH) (K : GH → Option β) : G_bitio_Reader_fill  R a1 a2 h K =
    F_bitio_Reader_fill_l0 R R a1 a2 h (fun h44 => K h44) := by kernel_rfl
noncomputable def F_bitio_Reader_fill (R : Nat) (a1 : Option Addr) (a2 : Int) (h : GH) (K : GH → Option β) : Option β := G_bitio_Reader_fill  R a1 a2 h K
theorem CF_bitio_Reader_fill_sim : SimOrc Try.prog (CF_bitio_Reader_fill (β := β)) := by
  intro f args h K r hc
  cases hc
set_option maxRecDepth 100000 in
theorem F_bitio_Reader_fill_sim {R : Nat} {r : β} {a1 : Option Addr} {a2 : Int} {h : GH} {K : Value → GH → Option β} (hc : F_bitio_Reader_fill R a1 a2 h (fun h' => K (Value.tuple #[]) h') = some r) : ∃ v h', K v h' = some r ∧ CallSim Try.prog 57 [Value.pointer a1, Value.int .i64 a2] h v h' := by
  unfold F_bitio_Reader_fill G_bitio_Reader_fill at hc
  obtain ⟨v, h', hk, hs⟩ := gfun_sim CF_bitio_Reader_fill_sim mixed_ok (fun f h => by cases h) Try.func57 (by kernel_rfl) hc
  exact ⟨_, h', hk, hs.unit⟩
/-! F58 (*duffel/bitio.Reader).drop -/
def CF_bitio_Reader_drop  : Orc β := fun f args h K => none
def HF_bitio_Reader_drop : Hints := ⟨[], [], []⟩
noncomputable def G_bitio_Reader_drop  (R : Nat) (a1 : Option Addr) (a2 : Int) (h : GH) (K : GH → Option β) : Option β := gfun Try.prog (CF_bitio_Reader_drop ) HF_bitio_Reader_drop R Try.f58 [Value.pointer a1, Value.int .i64 a2] h (fun _ h' => K h')
set_option maxRecDepth 100000 in
theorem F_bitio_Reader_drop_gen  (R : Nat) (a1 : Option Addr) (a2 : Int) (h : GH) (K : GH → Option β) : G_bitio_Reader_drop  R a1 a2 h K =
    exA a1 fun g3 o4 => exI .u64 (h.cell ⟨g3, o4 + 2, none⟩) fun x5 => (bif decide (a2 < 0) then none else exA a1 fun g6 o7 => gput g6 (o7 + 2) [Value.int .u64 (shrI .u64 x5 a2)] h fun h8 => exA a1 fun g9 o10 => exI .i64 (h8.cell ⟨g9, o10 + 3, none⟩) fun x11 => exA a1 fun g12 o13 => gput g12 (o13 + 3) [Value.int .i64 (IntKind.wrap .i64 (x11 - a2))] h8 fun h14 => K h14) := by kernel_rfl
noncomputable def F_bitio_Reader_drop (R : Nat) (a1 : Option Addr) (a2 : Int) (h : GH) (K : GH → Option β) : Option β := G_bitio_Reader_drop  R a1 a2 h K
theorem CF_bitio_Reader_drop_sim : SimOrc Try.prog (CF_bitio_Reader_drop (β := β)) := by
  intro f args h K r hc
  cases hc
set_option maxRecDepth 100000 in
theorem F_bitio_Reader_drop_sim {R : Nat} {r : β} {a1 : Option Addr} {a2 : Int} {h : GH} {K : Value → GH → Option β} (hc : F_bitio_Reader_drop R a1 a2 h (fun h' => K (Value.tuple #[]) h') = some r) : ∃ v h', K v h' = some r ∧ CallSim Try.prog 58 [Value.pointer a1, Value.int .i64 a2] h v h' := by
  unfold F_bitio_Reader_drop G_bitio_Reader_drop at hc
  obtain ⟨v, h', hk, hs⟩ := gfun_sim CF_bitio_Reader_drop_sim mixed_ok (fun f h => by cases h) Try.func58 (by kernel_rfl) hc
  exact ⟨_, h', hk, hs.unit⟩
/-! F46 (*duffel/bitio.Reader).Bits -/
def CF_bitio_Reader_Bits (F_bitio_Reader_Err : Option Addr → GH → (Int → GH → Option β) → Option β) (F_bitio_right : Int → GH → (Bool → GH → Option β) → Option β) (F_bitio_Reader_fill : Option Addr → Int → GH → (GH → Option β) → Option β) (F_bitio_Reader_drop : Option Addr → Int → GH → (GH → Option β) → Option β) : Orc β := fun f args h K => bif Nat.beq f 44 then (match args with | [.pointer p1] => F_bitio_Reader_Err p1 h (fun q8 h' => K (Value.int .i64 q8) h') | _ => none) else (bif Nat.beq f 56 then (match args with | [.int .i64 p1] => F_bitio_right p1 h (fun q2 h' => K (Value.bool q2) h') | _ => none) else (bif Nat.beq f 57 then (match args with | [.pointer p1, .int .i64 p2] => F_bitio_Reader_fill p1 p2 h (fun h' => K (Value.tuple #[]) h') | _ => none) else (bif Nat.beq f 58 then (match args with | [.pointer p1, .int .i64 p2] => F_bitio_Reader_drop p1 p2 h (fun h' => K (Value.tuple #[]) h') | _ => none) else none)))
def HF_bitio_Reader_Bits : Hints := ⟨[], [], []⟩
noncomputable def G_bitio_Reader_Bits (F_bitio_Reader_Err : Option Addr → GH → (Int → GH → Option β) → Option β) (F_bitio_right : Int → GH → (Bool → GH → Option β) → Option β) (F_bitio_Reader_fill : Option Addr → Int → GH → (GH → Option β) → Option β) (F_bitio_Reader_drop : Option Addr → Int → GH → (GH → Option β) → Option β) (R : Nat) (a1 : Option Addr) (a2 : Int) (h : GH) (K : Int → GH → Option β) : Option β := gfun Try.prog (CF_bitio_Reader_Bits F_bitio_Reader_Err F_bitio_right F_bitio_Reader_fill F_bitio_Reader_drop) HF_bitio_Reader_Bits R Try.f46 [Value.pointer a1, Value.int .i64 a2] h (fun v h' => exI .u32 (some v) fun u22 => K u22 h')
set_option maxRecDepth 100000 in
theorem F_bitio_Reader_Bits_gen (F_bitio_Reader_Err : Option Addr → GH → (Int → GH → Option β) → Option β) (F_bitio_right : Int → GH → (Bool → GH → Option β) → Option β) (F_bitio_Reader_fill : Option Addr → Int → GH → (GH → Option β) → Option β) (F_bitio_Reader_drop : Option Addr → Int → GH → (GH → Option β) → Option β) (R : Nat) (a1 : Option Addr) (a2 : Int) (h : GH) (K : Int → GH → Option β) : G_bitio_Reader_Bits F_bitio_Reader_Err F_bitio_right F_bitio_Reader_fill F_bitio_Reader_drop R a1 a2 h K =
    F_bitio_Reader_Err a1 h fun r3 h4 => (bif r3 != 0 then K 0 h4 else F_bitio_right a2 h4 fun r5 h6 => (bif !r5 then exA a1 fun g7 o8 => gput g7 (o8 + 4) [Value.int .i64 2] h6 fun h9 => K 0 h9 else F_bitio_Reader_fill a1 a2 h6 fun h10 => exA a1 fun g11 o12 => exI .i64 (h10.cell ⟨g11, o12 + 3, none⟩) fun x13 => (bif decide (x13 < a2) then exA a1 fun g14 o15 => gput g14 (o15 + 4) [Value.int .i64 3] h10 fun h16 => K 0 h16 else exA a1 fun g17 o18 => exI .u64 (h10.cell ⟨g17, o18 + 2, none⟩) fun x19 => (bif decide (a2 < 0) then none else F_bitio_Reader_drop a1 a2 h10 fun h20 => K (IntKind.wrap .u32 (IntKind.wrap .u64 (BitVec.ofInt (IntKind.bits .u64) x19 &&& BitVec.ofInt (IntKind.bits .u64) (IntKind.wrap .u64 ((shlI .u64 1 a2) - 1))).toNat)) h20)))) := by kernel_rfl
noncomputable def F_bitio_Reader_Bits (R : Nat) (a1 : Option Addr) (a2 : Int) (h : GH) (K : Int → GH → Option β) : Option β := G_bitio_Reader_Bits (F_bitio_Reader_Err R) (F_bitio_right R) (F_bitio_Reader_fill R) (F_bitio_Reader_drop R) R a1 a2 h K
set_option maxRecDepth 100000 in
theorem CF_bitio_Reader_Bits_sim {R : Nat} : SimOrc Try.prog (CF_bitio_Reader_Bits (F_bitio_Reader_Err R) (F_bitio_right R) (F_bitio_Reader_fill R) (F_bitio_Reader_drop R) (β := β)) := by
  intro f args h K r hc
  unfold CF_bitio_Reader_Bits at hc
  cases hb : Nat.beq f 44 with
  | true =>
    rw [hb] at hc
    simp only [cond_true] at hc
    obtain rfl := Nat.eq_of_beq_eq_true hb
    split at hc
    · exact any_call (F_bitio_Reader_Err_sim (K := K) hc)
    · cases hc
  | false =>
  rw [hb] at hc
  simp only [cond_false] at hc
  cases hb : Nat.beq f 56 with
  | true =>
    rw [hb] at hc
    simp only [cond_true] at hc
    obtain rfl := Nat.eq_of_beq_eq_true hb
    split at hc
    · exact any_call (F_bitio_right_sim (K := K) hc)
    · cases hc
  | false =>
  rw [hb] at hc
  simp only [cond_false] at hc
  cases hb : Nat.beq f 57 with
  | true =>
    rw [hb] at hc
    simp only [cond_true] at hc
    obtain rfl := Nat.eq_of_beq_eq_true hb
    split at hc
    · exact any_call (F_bitio_Reader_fill_sim (K := K) hc)
    · cases hc
  | false =>
  rw [hb] at hc
  simp only [cond_false] at hc
  cases hb : Nat.beq f 58 with
  | true =>
    rw [hb] at hc
    simp only [cond_true] at hc
    obtain rfl := Nat.eq_of_beq_eq_true hb
    split at hc
    · exact any_call (F_bitio_Reader_drop_sim (K := K) hc)
    · cases hc
  | false =>
  rw [hb] at hc
  simp only [cond_false] at hc
  cases hc
set_option maxRecDepth 100000 in
theorem F_bitio_Reader_Bits_sim {R : Nat} {r : β} {a1 : Option Addr} {a2 : Int} {h : GH} {K : Value → GH → Option β} (hc : F_bitio_Reader_Bits R a1 a2 h (fun q0 h' => K (Value.int .u32 q0) h') = some r) : ∃ v h', K v h' = some r ∧ CallSim Try.prog 46 [Value.pointer a1, Value.int .i64 a2] h v h' := by
  unfold F_bitio_Reader_Bits G_bitio_Reader_Bits at hc
  obtain ⟨v, h', hk, hs⟩ := gfun_sim CF_bitio_Reader_Bits_sim mixed_ok (fun f h => by cases h) Try.func46 (by kernel_rfl) hc
  obtain ⟨u0, e0, hk⟩ := exI_v hk; cases e0
  exact ⟨_, h', hk, hs⟩
/-! F43 (*duffel/bitio.Reader).Bit -/
def CF_bitio_Reader_Bit (F_bitio_Reader_Bits : Option Addr → Int → GH → (Int → GH → Option β) → Option β) : Orc β := fun f args h K => bif Nat.beq f 46 then (match args with | [.pointer p1, .int .i64 p2] => F_bitio_Reader_Bits p1 p2 h (fun q21 h' => K (Value.int .u32 q21) h') | _ => none) else none
def HF_bitio_Reader_Bit : Hints := ⟨[], [], []⟩
noncomputable def G_bitio_Reader_Bit (F_bitio_Reader_Bits : Option Addr → Int → GH → (Int → GH → Option β) → Option β) (R : Nat) (a1 : Option Addr) (h : GH) (K : Int → GH → Option β) : Option β := gfun Try.prog (CF_bitio_Reader_Bit F_bitio_Reader_Bits) HF_bitio_Reader_Bit R Try.f43 [Value.pointer a1] h (fun v h' => exI .u32 (some v) fun u5 => K u5 h')
set_option maxRecDepth 100000 in
theorem F_bitio_Reader_Bit_gen (F_bitio_Reader_Bits : Option Addr → Int → GH → (Int → GH → Option β) → Option β) (R : Nat) (a1 : Option Addr) (h : GH) (K : Int → GH → Option β) : G_bitio_Reader_Bit F_bitio_Reader_Bits R a1 h K =
    F_bitio_Reader_Bits a1 1 h fun r2 h3 => K r2 h3 := by kernel_rfl
noncomputable def F_bitio_Reader_Bit (R : Nat) (a1 : Option Addr) (h : GH) (K : Int → GH → Option β) : Option β := G_bitio_Reader_Bit (F_bitio_Reader_Bits R) R a1 h K
set_option maxRecDepth 100000 in
theorem CF_bitio_Reader_Bit_sim {R : Nat} : SimOrc Try.prog (CF_bitio_Reader_Bit (F_bitio_Reader_Bits R) (β := β)) := by
  intro f args h K r hc
  unfold CF_bitio_Reader_Bit at hc
  cases hb : Nat.beq f 46 with
  | true =>
    rw [hb] at hc
    simp only [cond_true] at hc
    obtain rfl := Nat.eq_of_beq_eq_true hb
    split at hc
    · exact any_call (F_bitio_Reader_Bits_sim (K := K) hc)
    · cases hc
  | false =>
  rw [hb] at hc
  simp only [cond_false] at hc
  cases hc
set_option maxRecDepth 100000 in
theorem F_bitio_Reader_Bit_sim {R : Nat} {r : β} {a1 : Option Addr} {h : GH} {K : Value → GH → Option β} (hc : F_bitio_Reader_Bit R a1 h (fun q0 h' => K (Value.int .u32 q0) h') = some r) : ∃ v h', K v h' = some r ∧ CallSim Try.prog 43 [Value.pointer a1] h v h' := by
  unfold F_bitio_Reader_Bit G_bitio_Reader_Bit at hc
  obtain ⟨v, h', hk, hs⟩ := gfun_sim CF_bitio_Reader_Bit_sim mixed_ok (fun f h => by cases h) Try.func43 (by kernel_rfl) hc
  obtain ⟨u0, e0, hk⟩ := exI_v hk; cases e0
  exact ⟨_, h', hk, hs⟩
/-! F22 (*duffel/sfano.Decoder).Next -/
def CF_sfano_Decoder_Next (F_bitio_Reader_Bit : Option Addr → GH → (Int → GH → Option β) → Option β) (F_bitio_Reader_Err : Option Addr → GH → (Int → GH → Option β) → Option β) : Orc β := fun f args h K => bif Nat.beq f 43 then (match args with | [.pointer p1] => F_bitio_Reader_Bit p1 h (fun q4 h' => K (Value.int .u32 q4) h') | _ => none) else (bif Nat.beq f 44 then (match args with | [.pointer p1] => F_bitio_Reader_Err p1 h (fun q8 h' => K (Value.int .i64 q8) h') | _ => none) else none)
def HF_sfano_Decoder_Next : Hints := ⟨[(4, [0, 1, 6], [], some [(4, .ty 3), (5, .ty 25)])], [], []⟩
noncomputable def BF_sfano_Decoder_Next : Code := match Try.f22.body with | some c => c | none => .skip
noncomputable def F_sfano_Decoder_Next_l0 (F_bitio_Reader_Bit : Option Addr → GH → (Int → GH → Option β) → Option β) (F_bitio_Reader_Err : Option Addr → GH → (Int → GH → Option β) → Option β) (R : Nat) (n : Nat) (y6 : Option Addr) (y7 : Option Addr) (y8 : Int) (h : GH) (Kr : Int → Int → GH → Option β) : Option β := gloop (gcode Try.prog (CF_sfano_Decoder_Next F_bitio_Reader_Bit F_bitio_Reader_Err) Try.f22.ntmps HF_sfano_Decoder_Next R (at_ [true, true, true, false, false] BF_sfano_Decoder_Next)) [0, 1, 6] n [(0, Value.pointer y6), (1, Value.pointer y7), (6, Value.int .i64 y8)] h (fun i e' h' => none) (fun e' h' => exI .i64 (some (e'.get 4)) fun u26 => exI .i64 (some (e'.get 5)) fun u27 => Kr u26 u27 h')
set_option maxRecDepth 100000 in
theorem F_sfano_Decoder_Next_l0_succ (F_bitio_Reader_Bit : Option Addr → GH → (Int → GH → Option β) → Option β) (F_bitio_Reader_Err : Option Addr → GH → (Int → GH → Option β) → Option β) (R : Nat) (n : Nat) (y6 : Option Addr) (y7 : Option Addr) (y8 : Int) (h : GH) (Kr : Int → Int → GH → Option β) : F_sfano_Decoder_Next_l0 F_bitio_Reader_Bit F_bitio_Reader_Err R (n + 1) y6 y7 y8 h Kr =
    F_bitio_Reader_Bit y7 h fun r11 h12 => F_bitio_Reader_Err y7 h12 fun r13 h14 => (bif r13 != 0 then Kr (-1) r13 h14 else exA y6 fun g15 o16 => exS (h14.cell ⟨g15, o16 + 0, none⟩) fun x17 => exA x17.a fun g18 o19 => within y8 x17.n (within r11 2 (exI .i64 (h14.cell ⟨g18, o19 + y8.toNat * 2 + r11.toNat * 1, none⟩) fun x20 => (bif decide (x20 < 0) then Kr (IntKind.wrap .i64 ((-1) - x20)) 0 h14 else F_sfano_Decoder_Next_l0 F_bitio_Reader_Bit F_bitio_Reader_Err R n y6 y7 x20 h14 Kr)))) := by kernel_rfl
noncomputable def G_sfano_Decoder_Next (F_bitio_Reader_Bit : Option Addr → GH → (Int → GH → Option β) → Option β) (F_bitio_Reader_Err : Option Addr → GH → (Int → GH → Option β) → Option β) (R : Nat) (a1 : Option Addr) (a2 : Option Addr) (h : GH) (K : Int → Int → GH → Option β) : Option β := gfun Try.prog (CF_sfano_Decoder_Next F_bitio_Reader_Bit F_bitio_Reader_Err) HF_sfano_Decoder_Next R Try.f22 [Value.pointer a1, Value.pointer a2] h (fun v h' => exTup 2 v fun vs => exV (nth vs 0) fun v0 => exI .i64 (some v0) fun u28 => exV (nth vs 1) fun v1 => exI .i64 (some v1) fun u29 => K u28 u29 h')
set_option maxRecDepth 100000 in
theorem F_sfano_Decoder_Next_gen (F_bitio_Reader_Bit : Option Addr → GH → (Int → GH → Option β) → Option β) (F_bitio_Reader_Err : Option Addr → GH → (Int → GH → Option β) → Option β) (R : Nat) (a1 : Option Addr) (a2 : Option Addr) (h : GH) (K : Int → Int → GH → Option β) : G_sfano_Decoder_Next F_bitio_Reader_Bit F_bitio_Reader_Err R a1 a2 h K =
    (bif a1.isNone then K (-1) 1 h else exA a1 fun g3 o4 => exS (h.cell ⟨g3, o4 + 0, none⟩) fun x5 => (bif ((x5.n : Nat) : Int) == 0 then K (-1) 1 h else F_sfano_Decoder_Next_l0 F_bitio_Reader_Bit F_bitio_Reader_Err R R a1 a2 0 h (fun w21 w22 h23 => K w21 w22 h23))) := by kernel_rfl
noncomputable def F_sfano_Decoder_Next (R : Nat) (a1 : Option Addr) (a2 : Option Addr) (h : GH) (K : Int → Int → GH → Option β) : Option β := G_sfano_Decoder_Next (F_bitio_Reader_Bit R) (F_bitio_Reader_Err R) R a1 a2 h K
set_option maxRecDepth 100000 in
theorem CF_sfano_Decoder_Next_sim {R : Nat} : SimOrc Try.prog (CF_sfano_Decoder_Next (F_bitio_Reader_Bit R) (F_bitio_Reader_Err R) (β := β)) := by
  intro f args h K r hc
  unfold CF_sfano_Decoder_Next at hc
  cases hb : Nat.beq f 43 with
  | true =>
    rw [hb] at hc
    simp only [cond_true] at hc
    obtain rfl := Nat.eq_of_beq_eq_true hb
    split at hc
    · exact any_call (F_bitio_Reader_Bit_sim (K := K) hc)
    · cases hc
  | false =>
  rw [hb] at hc
  simp only [cond_false] at hc
  cases hb : Nat.beq f 44 with
  | true =>
    rw [hb] at hc
    simp only [cond_true] at hc
    obtain rfl := Nat.eq_of_beq_eq_true hb
    split at hc
    · exact any_call (F_bitio_Reader_Err_sim (K := K) hc)
    · cases hc
  | false =>
  rw [hb] at hc
  simp only [cond_false] at hc
  cases hc
set_option maxRecDepth 100000 in
theorem F_sfano_Decoder_Next_sim {R : Nat} {r : β} {a1 : Option Addr} {a2 : Option Addr} {h : GH} {K : Value → GH → Option β} (hc : F_sfano_Decoder_Next R a1 a2 h (fun q0 q1 h' => K (Value.tuple #[Value.int .i64 q0, Value.int .i64 q1]) h') = some r) : ∃ v h', K v h' = some r ∧ CallSim Try.prog 22 [Value.pointer a1, Value.pointer a2] h v h' := by
  unfold F_sfano_Decoder_Next G_sfano_Decoder_Next at hc
  obtain ⟨v, h', hk, hs⟩ := gfun_sim CF_sfano_Decoder_Next_sim mixed_ok (fun f h => by cases h) Try.func22 (by kernel_rfl) hc
  obtain ⟨vs, rfl, hl, hk⟩ := exTup_v hk
  obtain ⟨v0, t0, hk⟩ := exV_v hk
  obtain ⟨u0, e0, hk⟩ := exI_v hk; cases e0
  obtain ⟨v1, t1, hk⟩ := exV_v hk
  obtain ⟨u1, e1, hk⟩ := exI_v hk; cases e1
  obtain rfl := arr2 hl t0 t1
  exact ⟨_, h', hk, hs⟩
/-! F31 duffel/sfano.check -/
def CF_sfano_check (F_sfano_right : Sl → GH → (Bool → GH → Option β) → Option β) : Orc β := fun f args h K => bif Nat.beq f 37 then (match args with | [.slice p1a p1n p1c] => F_sfano_right ⟨p1a, p1n, p1c⟩ h (fun q4 h' => K (Value.bool q4) h') | _ => none) else none
def HF_sfano_check : Hints := ⟨[(5, [3, 9, 10, 11], [(0, [(3, .ty 3)])], none)], [], []⟩
noncomputable def BF_sfano_check : Code := match Try.f31.body with | some c => c | none => .skip
noncomputable def F_sfano_check_l0 (F_sfano_right : Sl → GH → (Bool → GH → Option β) → Option β) (R : Nat) (n : Nat) (y4 : Int) (y5 : Sl) (y6 : Int) (y7 : Int) (h : GH) (K0 : Int → GH → Option β) : Option β := gloop (gcode Try.prog (CF_sfano_check F_sfano_right) Try.f31.ntmps HF_sfano_check R (at_ [true, true, true, false, true, false, false] BF_sfano_check)) [3, 9, 10, 11] n [(3, Value.int .i64 y4), (9, Value.slice y5.a y5.n y5.c), (10, Value.int .i64 y6), (11, Value.int .i64 y7)] h (fun i e' h' => bif Nat.beq i 0 then (exI .i64 (some (e'.get 3)) fun u15 => K0 u15 h') else none) (fun e' h' => none)
set_option maxRecDepth 100000 in
theorem F_sfano_check_l0_succ (F_sfano_right : Sl → GH → (Bool → GH → Option β) → Option β) (R : Nat) (n : Nat) (y4 : Int) (y5 : Sl) (y6 : Int) (y7 : Int) (h : GH) (K0 : Int → GH → Option β) : F_sfano_check_l0 F_sfano_right R (n + 1) y4 y5 y6 y7 h K0 =
    (bif decide (y7 < y6) then exA y5.a fun g9 o10 => within y7 y5.n (exI .i64 (h.cell ⟨g9, o10 + y7.toNat * 1, none⟩) fun x11 => (bif decide ((IntKind.wrap .i64 (16 - x11)) < 0) then none else F_sfano_check_l0 F_sfano_right R n (IntKind.wrap .i64 (y4 + (shlI .i64 1 (IntKind.wrap .i64 (16 - x11))))) y5 y6 (IntKind.wrap .i64 (y7 + 1)) h K0)) else K0 y4 h) := by kernel_rfl
noncomputable def G_sfano_check (F_sfano_right : Sl → GH → (Bool → GH → Option β) → Option β) (R : Nat) (a1 : Sl) (h : GH) (K : Int → GH → Option β) : Option β := gfun Try.prog (CF_sfano_check F_sfano_right) HF_sfano_check R Try.f31 [Value.slice a1.a a1.n a1.c] h (fun v h' => exI .i64 (some v) fun u16 => K u16 h')
set_option maxRecDepth 100000 in
theorem F_sfano_check_gen (F_sfano_right : Sl → GH → (Bool → GH → Option β) → Option β) (R : Nat) (a1 : Sl) (h : GH) (K : Int → GH → Option β) : G_sfano_check F_sfano_right R a1 h K =
    F_sfano_right a1 h fun r2 h3 => (bif !r2 then K 2 h3 else F_sfano_check_l0 F_sfano_right R R 0 a1 ((a1.n : Nat) : Int) 0 h3 (fun w12 h13 => (bif w12 != 65536 then K 6 h13 else K 0 h13))) := by kernel_rfl
noncomputable def F_sfano_check (R : Nat) (a1 : Sl) (h : GH) (K : Int → GH → Option β) : Option β := G_sfano_check (F_sfano_right R) R a1 h K
set_option maxRecDepth 100000 in
theorem CF_sfano_check_sim {R : Nat} : SimOrc Try.prog (CF_sfano_check (F_sfano_right R) (β := β)) := by
  intro f args h K r hc
  unfold CF_sfano_check at hc
  cases hb : Nat.beq f 37 with
  | true =>
    rw [hb] at hc
    simp only [cond_true] at hc
    obtain rfl := Nat.eq_of_beq_eq_true hb
    split at hc
    · exact any_call (F_sfano_right_sim (K := K) hc)
    · cases hc
  | false =>
  rw [hb] at hc
  simp only [cond_false] at hc
  cases hc
set_option maxRecDepth 100000 in
theorem F_sfano_check_sim {R : Nat} {r : β} {a1 : Sl} {h : GH} {K : Value → GH → Option β} (hc : F_sfano_check R a1 h (fun q0 h' => K (Value.int .i64 q0) h') = some r) : ∃ v h', K v h' = some r ∧ CallSim Try.prog 31 [Value.slice a1.a a1.n a1.c] h v h' := by
  unfold F_sfano_check G_sfano_check at hc
  obtain ⟨v, h', hk, hs⟩ := gfun_sim CF_sfano_check_sim mixed_ok (fun f h => by cases h) Try.func31 (by kernel_rfl) hc
  obtain ⟨u0, e0, hk⟩ := exI_v hk; cases e0
  exact ⟨_, h', hk, hs⟩
/-! F48 cmp.isNaN[int] -/
def CF_cmp_isNaN_int  : Orc β := fun f args h K => none
def HF_cmp_isNaN_int : Hints := ⟨[], [], []⟩
noncomputable def G_cmp_isNaN_int  (R : Nat) (a1 : Int) (h : GH) (K : Bool → GH → Option β) : Option β := gfun Try.prog (CF_cmp_isNaN_int ) HF_cmp_isNaN_int R Try.f48 [Value.int .i64 a1] h (fun v h' => exB (some v) fun u3 => K u3 h')
set_option maxRecDepth 100000 in
theorem F_cmp_isNaN_int_gen  (R : Nat) (a1 : Int) (h : GH) (K : Bool → GH → Option β) : G_cmp_isNaN_int  R a1 h K =
    K (a1 != a1) h := by kernel_rfl
noncomputable def F_cmp_isNaN_int (R : Nat) (a1 : Int) (h : GH) (K : Bool → GH → Option β) : Option β := G_cmp_isNaN_int  R a1 h K
theorem CF_cmp_isNaN_int_sim : SimOrc Try.prog (CF_cmp_isNaN_int (β := β)) := by
  intro f args h K r hc
  cases hc
set_option maxRecDepth 100000 in
theorem F_cmp_isNaN_int_sim {R : Nat} {r : β} {a1 : Int} {h : GH} {K : Value → GH → Option β} (hc : F_cmp_isNaN_int R a1 h (fun q0 h' => K (Value.bool q0) h') = some r) : ∃ v h', K v h' = some r ∧ CallSim Try.prog 48 [Value.int .i64 a1] h v h' := by
  unfold F_cmp_isNaN_int G_cmp_isNaN_int at hc
  obtain ⟨v, h', hk, hs⟩ := gfun_sim CF_cmp_isNaN_int_sim mixed_ok (fun f h => by cases h) Try.func48 (by kernel_rfl) hc
  obtain ⟨u0, e0, hk⟩ := exB_v hk; cases e0
  exact ⟨_, h', hk, hs⟩
/-! F34 cmp.Compare[int] -/
def CF_cmp_Compare_int (F_cmp_isNaN_int : Int → GH → (Bool → GH → Option β) → Option β) : Orc β := fun f args h K => bif Nat.beq f 48 then (match args with | [.int .i64 p1] => F_cmp_isNaN_int p1 h (fun q2 h' => K (Value.bool q2) h') | _ => none) else none
def HF_cmp_Compare_int : Hints := ⟨[], [], []⟩
noncomputable def G_cmp_Compare_int (F_cmp_isNaN_int : Int → GH → (Bool → GH → Option β) → Option β) (R : Nat) (a1 : Int) (a2 : Int) (h : GH) (K : Int → GH → Option β) : Option β := gfun Try.prog (CF_cmp_Compare_int F_cmp_isNaN_int) HF_cmp_Compare_int R Try.f34 [Value.int .i64 a1, Value.int .i64 a2] h (fun v h' => exI .i64 (some v) fun u8 => K u8 h')
set_option maxRecDepth 100000 in
theorem F_cmp_Compare_int_gen (F_cmp_isNaN_int : Int → GH → (Bool → GH → Option β) → Option β) (R : Nat) (a1 : Int) (a2 : Int) (h : GH) (K : Int → GH → Option β) : G_cmp_Compare_int F_cmp_isNaN_int R a1 a2 h K =
    F_cmp_isNaN_int a1 h fun r3 h4 => F_cmp_isNaN_int a2 h4 fun r5 h6 => (bif r3 then (bif r5 then K 0 h6 else K (-1) h6) else (bif r5 then K 1 h6 else (bif decide (a1 < a2) then K (-1) h6 else (bif decide (a1 > a2) then K 1 h6 else K 0 h6)))) := by kernel_rfl
noncomputable def F_cmp_Compare_int (R : Nat) (a1 : Int) (a2 : Int) (h : GH) (K : Int → GH → Option β) : Option β := G_cmp_Compare_int (F_cmp_isNaN_int R) R a1 a2 h K
set_option maxRecDepth 100000 in
theorem CF_cmp_Compare_int_sim {R : Nat} : SimOrc Try.prog (CF_cmp_Compare_int (F_cmp_isNaN_int R) (β := β)) := by
  intro f args h K r hc
  unfold CF_cmp_Compare_int at hc
  cases hb : Nat.beq f 48 with
  | true =>
    rw [hb] at hc
    simp only [cond_true] at hc
    obtain rfl := Nat.eq_of_beq_eq_true hb
    split at hc
    · exact any_call (F_cmp_isNaN_int_sim (K := K) hc)
    · cases hc
  | false =>
  rw [hb] at hc
  simp only [cond_false] at hc
  cases hc
set_option maxRecDepth 100000 in
theorem F_cmp_Compare_int_sim {R : Nat} {r : β} {a1 : Int} {a2 : Int} {h : GH} {K : Value → GH → Option β} (hc : F_cmp_Compare_int R a1 a2 h (fun q0 h' => K (Value.int .i64 q0) h') = some r) : ∃ v h', K v h' = some r ∧ CallSim Try.prog 34 [Value.int .i64 a1, Value.int .i64 a2] h v h' := by
  unfold F_cmp_Compare_int G_cmp_Compare_int at hc
  obtain ⟨v, h', hk, hs⟩ := gfun_sim CF_cmp_Compare_int_sim mixed_ok (fun f h => by cases h) Try.func34 (by kernel_rfl) hc
  obtain ⟨u0, e0, hk⟩ := exI_v hk; cases e0
  exact ⟨_, h', hk, hs⟩
/-! F33 duffel/sfano.Codes$1 -/
def CF_sfano_Codes_1_s1 (F_cmp_Compare_int : Int → Int → GH → (Int → GH → Option β) → Option β) : Orc β := fun f args h K => bif Nat.beq f 34 then (match args with | [.int .i64 p1, .int .i64 p2] => F_cmp_Compare_int p1 p2 h (fun q7 h' => K (Value.int .i64 q7) h') | _ => none) else none
def HF_sfano_Codes_1_s1 : Hints := ⟨[], [], []⟩
noncomputable def G_sfano_Codes_1_s1 (F_cmp_Compare_int : Int → Int → GH → (Int → GH → Option β) → Option β) (R : Nat) (a1 : Int) (a2 : Int) (y3 : Option Addr) (h : GH) (K : Int → GH → Option β) : Option β := gfun Try.prog (CF_sfano_Codes_1_s1 F_cmp_Compare_int) HF_sfano_Codes_1_s1 R Try.f33 [Value.int .i64 a1, Value.int .i64 a2, Value.pointer y3] h (fun v h' => exI .i64 (some v) fun u19 => K u19 h')
set_option maxRecDepth 100000 in
theorem F_sfano_Codes_1_s1_gen (F_cmp_Compare_int : Int → Int → GH → (Int → GH → Option β) → Option β) (R : Nat) (a1 : Int) (a2 : Int) (y3 : Option Addr) (h : GH) (K : Int → GH → Option β) : G_sfano_Codes_1_s1 F_cmp_Compare_int R a1 a2 y3 h K =
    exA y3 fun g4 o5 => exS (h.cell ⟨g4, o5, none⟩) fun x6 => exA x6.a fun g7 o8 => within a1 x6.n (exI .i64 (h.cell ⟨g7, o8 + a1.toNat * 1, none⟩) fun x9 => exA y3 fun g10 o11 => exS (h.cell ⟨g10, o11, none⟩) fun x12 => exA x12.a fun g13 o14 => within a2 x12.n (exI .i64 (h.cell ⟨g13, o14 + a2.toNat * 1, none⟩) fun x15 => F_cmp_Compare_int x9 x15 h fun r16 h17 => K r16 h17)) := by kernel_rfl
noncomputable def F_sfano_Codes_1_s1 (R : Nat) (a1 : Int) (a2 : Int) (y3 : Option Addr) (h : GH) (K : Int → GH → Option β) : Option β := G_sfano_Codes_1_s1 (F_cmp_Compare_int R) R a1 a2 y3 h K
set_option maxRecDepth 100000 in
theorem CF_sfano_Codes_1_s1_sim {R : Nat} : SimOrc Try.prog (CF_sfano_Codes_1_s1 (F_cmp_Compare_int R) (β := β)) := by
  intro f args h K r hc
  unfold CF_sfano_Codes_1_s1 at hc
  cases hb : Nat.beq f 34 with
  | true =>
    rw [hb] at hc
    simp only [cond_true] at hc
    obtain rfl := Nat.eq_of_beq_eq_true hb
    split at hc
    · exact any_call (F_cmp_Compare_int_sim (K := K) hc)
    · cases hc
  | false =>
  rw [hb] at hc
  simp only [cond_false] at hc
  cases hc
set_option maxRecDepth 100000 in
theorem F_sfano_Codes_1_s1_sim {R : Nat} {r : β} {a1 : Int} {a2 : Int} {y3 : Option Addr} {h : GH} {K : Value → GH → Option β} (hc : F_sfano_Codes_1_s1 R a1 a2 y3 h (fun q0 h' => K (Value.int .i64 q0) h') = some r) : ∃ v h', K v h' = some r ∧ CallSim Try.prog 33 [Value.int .i64 a1, Value.int .i64 a2, Value.pointer y3] h v h' := by
  unfold F_sfano_Codes_1_s1 G_sfano_Codes_1_s1 at hc
  obtain ⟨v, h', hk, hs⟩ := gfun_sim CF_sfano_Codes_1_s1_sim mixed_ok (fun f h => by cases h) Try.func33 (by kernel_rfl) hc
  obtain ⟨u0, e0, hk⟩ := exI_v hk; cases e0
  exact ⟨_, h', hk, hs⟩
/-! F59 slices.insertionSortCmpFunc[int] -/
def CF_slices_insertionSortCmpFunc_int_s1 (F_sfano_Codes_1_s1 : Int → Int → Option Addr → GH → (Int → GH → Option β) → Option β) : Orc β := fun f args h K => bif Nat.beq f 33 then (match args with | [.int .i64 p1, .int .i64 p2, .pointer p3] => F_sfano_Codes_1_s1 p1 p2 p3 h (fun q18 h' => K (Value.int .i64 q18) h') | _ => none) else none
def HF_slices_insertionSortCmpFunc_int_s1 : Hints := ⟨[(1, [0, 1, 2, 3, 8], [(0, [])], none), (4, [0, 1, 2, 3, 8, 9], [(2, [(0, .ty 22), (1, .ty 3), (2, .ty 3), (3, .fn 33 [] [.ptr]), (8, .ty 3)])], none)], [], []⟩
noncomputable def BF_slices_insertionSortCmpFunc_int_s1 : Code := match Try.f59.body with | some c => c | none => .skip
noncomputable def F_slices_insertionSortCmpFunc_int_s1_l0 (F_sfano_Codes_1_s1 : Int → Int → Option Addr → GH → (Int → GH → Option β) → Option β) (R : Nat) (n : Nat) (y5 : Sl) (y6 : Int) (y7 : Int) (y8 : Option Addr) (y9 : Int) (h : GH) (K0 : GH → Option β) : Option β := gloop (gcode Try.prog (CF_slices_insertionSortCmpFunc_int_s1 F_sfano_Codes_1_s1) Try.f59.ntmps HF_slices_insertionSortCmpFunc_int_s1 R (at_ [true, false, false] BF_slices_insertionSortCmpFunc_int_s1)) [0, 1, 2, 3, 8] n [(0, Value.slice y5.a y5.n y5.c), (1, Value.int .i64 y6), (2, Value.int .i64 y7), (3, Value.func (.func 33) #[] #[Value.pointer y8]), (8, Value.int .i64 y9)] h (fun i e' h' => bif Nat.beq i 0 then (K0 h') else none) (fun e' h' => none)
noncomputable def F_slices_insertionSortCmpFunc_int_s1_l1 (F_sfano_Codes_1_s1 : Int → Int → Option Addr → GH → (Int → GH → Option β) → Option β) (R : Nat) (n : Nat) (y10 : Sl) (y11 : Int) (y12 : Int) (y13 : Option Addr) (y14 : Int) (y15 : Int) (h : GH) (K2 : Sl → Int → Int → Option Addr → Int → GH → Option β) : Option β := gloop (gcode Try.prog (CF_slices_insertionSortCmpFunc_int_s1 F_sfano_Codes_1_s1) Try.f59.ntmps HF_slices_insertionSortCmpFunc_int_s1 R (at_ [true, false, false, true, false, false, true, false, false] BF_slices_insertionSortCmpFunc_int_s1)) [0, 1, 2, 3, 8, 9] n [(0, Value.slice y10.a y10.n y10.c), (1, Value.int .i64 y11), (2, Value.int .i64 y12), (3, Value.func (.func 33) #[] #[Value.pointer y13]), (8, Value.int .i64 y14), (9, Value.int .i64 y15)] h (fun i e' h' => bif Nat.beq i 2 then (exS (some (e'.get 0)) fun u48 => exI .i64 (some (e'.get 1)) fun u49 => exI .i64 (some (e'.get 2)) fun u50 => exF 33 [] [.ptr] (e'.get 3) fun ga52 gc53 => (match ga52, gc53 with | [], [.pointer p51] => exI .i64 (some (e'.get 8)) fun u54 => K2 u48 u49 u50 p51 u54 h' | _, _ => none)) else none) (fun e' h' => none)
set_option maxRecDepth 100000 in
theorem F_slices_insertionSortCmpFunc_int_s1_l1_succ (F_sfano_Codes_1_s1 : Int → Int → Option Addr → GH → (Int → GH → Option β) → Option β) (R : Nat) (n : Nat) (y10 : Sl) (y11 : Int) (y12 : Int) (y13 : Option Addr) (y14 : Int) (y15 : Int) (h : GH) (K2 : Sl → Int → Int → Option Addr → Int → GH → Option β) : F_slices_insertionSortCmpFunc_int_s1_l1 F_sfano_Codes_1_s1 R (n + 1) y10 y11 y12 y13 y14 y15 h K2 =
    (bif decide (y15 > y11) then exA y10.a fun g21 o22 => within y15 y10.n (exI .i64 (h.cell ⟨g21, o22 + y15.toNat * 1, none⟩) fun x23 => exA y10.a fun g24 o25 => within (IntKind.wrap .i64 (y15 - 1)) y10.n (exI .i64 (h.cell ⟨g24, o25 + (IntKind.wrap .i64 (y15 - 1)).toNat * 1, none⟩) fun x26 => F_sfano_Codes_1_s1 x23 x26 y13 h fun r27 h28 => (bif decide (r27 < 0) then exA y10.a fun g29 o30 => within (IntKind.wrap .i64 (y15 - 1)) y10.n (exI .i64 (h28.cell ⟨g29, o30 + (IntKind.wrap .i64 (y15 - 1)).toNat * 1, none⟩) fun x31 => exA y10.a fun g32 o33 => within y15 y10.n (exI .i64 (h28.cell ⟨g32, o33 + y15.toNat * 1, none⟩) fun x34 => exA y10.a fun g35 o36 => within y15 y10.n (gput g35 (o36 + y15.toNat * 1) [Value.int .i64 x31] h28 fun h37 => exA y10.a fun g38 o39 => within (IntKind.wrap .i64 (y15 - 1)) y10.n (gput g38 (o39 + (IntKind.wrap .i64 (y15 - 1)).toNat * 1) [Value.int .i64 x34] h37 fun h40 => F_slices_insertionSortCmpFunc_int_s1_l1 F_sfano_Codes_1_s1 R n y10 y11 y12 y13 y14 (IntKind.wrap .i64 (y15 - 1)) h40 K2)))) else K2 y10 y11 y12 y13 y14 h28))) else K2 y10 y11 y12 y13 y14 h) := by kernel_rfl
set_option maxRecDepth 100000 in
theorem F_slices_insertionSortCmpFunc_int_s1_l0_succ (F_sfano_Codes_1_s1 : Int → Int → Option Addr → GH → (Int → GH → Option β) → Option β) (R : Nat) (n : Nat) (y5 : Sl) (y6 : Int) (y7 : Int) (y8 : Option Addr) (y9 : Int) (h : GH) (K0 : GH → Option β) : F_slices_insertionSortCmpFunc_int_s1_l0 F_sfano_Codes_1_s1 R (n + 1) y5 y6 y7 y8 y9 h K0 =
    (bif decide (y9 < y7) then F_slices_insertionSortCmpFunc_int_s1_l1 F_sfano_Codes_1_s1 R R y5 y6 y7 y8 y9 y9 h (fun w41 w42 w43 y44 w45 h46 => F_slices_insertionSortCmpFunc_int_s1_l0 F_sfano_Codes_1_s1 R n w41 w42 w43 y44 (IntKind.wrap .i64 (w45 + 1)) h46 K0) else K0 h) := by kernel_rfl
noncomputable def G_slices_insertionSortCmpFunc_int_s1 (F_sfano_Codes_1_s1 : Int → Int → Option Addr → GH → (Int → GH → Option β) → Option β) (R : Nat) (a1 : Sl) (a2 : Int) (a3 : Int) (y4 : Option Addr) (h : GH) (K : GH → Option β) : Option β := gfun Try.prog (CF_slices_insertionSortCmpFunc_int_s1 F_sfano_Codes_1_s1) HF_slices_insertionSortCmpFunc_int_s1 R Try.f59 [Value.slice a1.a a1.n a1.c, Value.int .i64 a2, Value.int .i64 a3, Value.func (.func 33) #[] #[Value.pointer y4]] h (fun _ h' => K h')
set_option maxRecDepth 100000 in
theorem F_slices_insertionSortCmpFunc_int_s1_gen (F_sfano_Codes_1_s1 : Int → Int → Option Addr → GH → (Int → GH → Option β) → Option β) (R : Nat) (a1 : Sl) (a2 : Int) (a3 : Int) (y4 : Option Addr) (h : GH) (K : GH → Option β) : G_slices_insertionSortCmpFunc_int_s1 F_sfano_Codes_1_s1 R a1 a2 a3 y4 h K =
    F_slices_insertionSortCmpFunc_int_s1_l0 F_sfano_Codes_1_s1 R R a1 a2 a3 y4 (IntKind.wrap .i64 (a2 + 1)) h (fun h47 => K h47) := by kernel_rfl
noncomputable def F_slices_insertionSortCmpFunc_int_s1 (R : Nat) (a1 : Sl) (a2 : Int) (a3 : Int) (y4 : Option Addr) (h : GH) (K : GH → Option β) : Option β := G_slices_insertionSortCmpFunc_int_s1 (F_sfano_Codes_1_s1 R) R a1 a2 a3 y4 h K
set_option maxRecDepth 100000 in
theorem CF_slices_insertionSortCmpFunc_int_s1_sim {R : Nat} : SimOrc Try.prog (CF_slices_insertionSortCmpFunc_int_s1 (F_sfano_Codes_1_s1 R) (β := β)) := by
  intro f args h K r hc
  unfold CF_slices_insertionSortCmpFunc_int_s1 at hc
  cases hb : Nat.beq f 33 with
  | true =>
    rw [hb] at hc
    simp only [cond_true] at hc
    obtain rfl := Nat.eq_of_beq_eq_true hb
    split at hc
    · exact any_call (F_sfano_Codes_1_s1_sim (K := K) hc)
    · cases hc
  | false =>
  rw [hb] at hc
  simp only [cond_false] at hc
  cases hc
set_option maxRecDepth 100000 in
theorem F_slices_insertionSortCmpFunc_int_s1_sim {R : Nat} {r : β} {a1 : Sl} {a2 : Int} {a3 : Int} {y4 : Option Addr} {h : GH} {K : Value → GH → Option β} (hc : F_slices_insertionSortCmpFunc_int_s1 R a1 a2 a3 y4 h (fun h' => K (Value.tuple #[]) h') = some r) : ∃ v h', K v h' = some r ∧ CallSim Try.prog 59 [Value.slice a1.a a1.n a1.c, Value.int .i64 a2, Value.int .i64 a3, Value.func (.func 33) #[] #[Value.pointer y4]] h v h' := by
  unfold F_slices_insertionSortCmpFunc_int_s1 G_slices_insertionSortCmpFunc_int_s1 at hc
  obtain ⟨v, h', hk, hs⟩ := gfun_sim CF_slices_insertionSortCmpFunc_int_s1_sim mixed_ok (fun f h => by cases h) Try.func59 (by kernel_rfl) hc
  exact ⟨_, h', hk, hs.unit⟩
/-! F65 slices.swapRangeCmpFunc[int] -/
def CF_slices_swapRangeCmpFunc_int_s1  : Orc β := fun f args h K => none
def HF_slices_swapRangeCmpFunc_int_s1 : Hints := ⟨[(1, [0, 1, 2, 3, 10], [(0, [])], none)], [], []⟩
noncomputable def BF_slices_swapRangeCmpFunc_int_s1 : Code := match Try.f65.body with | some c => c | none => .skip
noncomputable def F_slices_swapRangeCmpFunc_int_s1_l0  (R : Nat) (n : Nat) (y6 : Sl) (y7 : Int) (y8 : Int) (y9 : Int) (y10 : Int) (h : GH) (K0 : GH → Option β) : Option β := gloop (gcode Try.prog (CF_slices_swapRangeCmpFunc_int_s1 ) Try.f65.ntmps HF_slices_swapRangeCmpFunc_int_s1 R (at_ [true, false, false] BF_slices_swapRangeCmpFunc_int_s1)) [0, 1, 2, 3, 10] n [(0, Value.slice y6.a y6.n y6.c), (1, Value.int .i64 y7), (2, Value.int .i64 y8), (3, Value.int .i64 y9), (10, Value.int .i64 y10)] h (fun i e' h' => bif Nat.beq i 0 then (K0 h') else none) (fun e' h' => none)
set_option maxRecDepth 100000 in
theorem F_slices_swapRangeCmpFunc_int_s1_l0_succ  (R : Nat) (n : Nat) (y6 : Sl) (y7 : Int) (y8 : Int) (y9 : Int) (y10 : Int) (h : GH) (K0 : GH → Option β) : F_slices_swapRangeCmpFunc_int_s1_l0  R (n + 1) y6 y7 y8 y9 y10 h K0 =
    (bif decide (y10 < y9) then exA y6.a fun g11 o12 => within (IntKind.wrap .i64 (y8 + y10)) y6.n (exI .i64 (h.cell ⟨g11, o12 + (IntKind.wrap .i64 (y8 + y10)).toNat * 1, none⟩) fun x13 => exA y6.a fun g14 o15 => within (IntKind.wrap .i64 (y7 + y10)) y6.n (exI .i64 (h.cell ⟨g14, o15 + (IntKind.wrap .i64 (y7 + y10)).toNat * 1, none⟩) fun x16 => exA y6.a fun g17 o18 => within (IntKind.wrap .i64 (y7 + y10)) y6.n (gput g17 (o18 + (IntKind.wrap .i64 (y7 + y10)).toNat * 1) [Value.int .i64 x13] h fun h19 => exA y6.a fun g20 o21 => within (IntKind.wrap .i64 (y8 + y10)) y6.n (gput g20 (o21 + (IntKind.wrap .i64 (y8 + y10)).toNat * 1) [Value.int .i64 x16] h19 fun h22 => F_slices_swapRangeCmpFunc_int_s1_l0 R n y6 y7 y8 y9 (IntKind.wrap .i64 (y10 + 1)) h22 K0)))) else K0 h) := by kernel_rfl
noncomputable def G_slices_swapRangeCmpFunc_int_s1  (R : Nat) (a1 : Sl) (a2 : Int) (a3 : Int) (a4 : Int) (y5 : Option Addr) (h : GH) (K : GH → Option β) : Option β := gfun Try.prog (CF_slices_swapRangeCmpFunc_int_s1 ) HF_slices_swapRangeCmpFunc_int_s1 R Try.f65 [Value.slice a1.a a1.n a1.c, Value.int .i64 a2, Value.int .i64 a3, Value.int .i64 a4, Value.func (.func 33) #[] #[Value.pointer y5]] h (fun _ h' => K h')
set_option maxRecDepth 100000 in
theorem F_slices_swapRangeCmpFunc_int_s1_gen  (R : Nat) (a1 : Sl) (a2 : Int) (a3 : Int) (a4 : Int) (y5 : Option Addr) (h : GH) (K : GH → Option β) : G_slices_swapRangeCmpFunc_int_s1  R a1 a2 a3 a4 y5 h K =
    F_slices_swapRangeCmpFunc_int_s1_l0 R R a1 a2 a3 a4 0 h (fun h23 => K h23) := by kernel_rfl
noncomputable def F_slices_swapRangeCmpFunc_int_s1 (R : Nat) (a1 : Sl) (a2 : Int) (a3 : Int) (a4 : Int) (y5 : Option Addr) (h : GH) (K : GH → Option β) : Option β := G_slices_swapRangeCmpFunc_int_s1  R a1 a2 a3 a4 y5 h K
theorem CF_slices_swapRangeCmpFunc_int_s1_sim : SimOrc Try.prog (CF_slices_swapRangeCmpFunc_int_s1 (β := β)) := by
  intro f args h K r hc
  cases hc
set_option maxRecDepth 100000 in
theorem F_slices_swapRangeCmpFunc_int_s1_sim {R : Nat} {r : β} {a1 : Sl} {a2 : Int} {a3 : Int} {a4 : Int} {y5 : Option Addr} {h : GH} {K : Value → GH → Option β} (hc : F_slices_swapRangeCmpFunc_int_s1 R a1 a2 a3 a4 y5 h (fun h' => K (Value.tuple #[]) h') = some r) : ∃ v h', K v h' = some r ∧ CallSim Try.prog 65 [Value.slice a1.a a1.n a1.c, Value.int .i64 a2, Value.int .i64 a3, Value.int .i64 a4, Value.func (.func 33) #[] #[Value.pointer y5]] h v h' := by
  unfold F_slices_swapRangeCmpFunc_int_s1 G_slices_swapRangeCmpFunc_int_s1 at hc
  obtain ⟨v, h', hk, hs⟩ := gfun_sim CF_slices_swapRangeCmpFunc_int_s1_sim mixed_ok (fun f h => by cases h) Try.func65 (by kernel_rfl) hc
  exact ⟨_, h', hk, hs.unit⟩
/-! F64 slices.rotateCmpFunc[int] -/
def CF_slices_rotateCmpFunc_int_s1 (F_slices_swapRangeCmpFunc_int_s1 : Sl → Int → Int → Int → Option Addr → GH → (GH → Option β) → Option β) : Orc β := fun f args h K => bif Nat.beq f 65 then (match args with | [.slice p1a p1n p1c, .int .i64 p2, .int .i64 p3, .int .i64 p4, .func (.func 33) ⟨[]⟩ ⟨[.pointer p5]⟩] => F_slices_swapRangeCmpFunc_int_s1 ⟨p1a, p1n, p1c⟩ p2 p3 p4 p5 h (fun h' => K (Value.tuple #[]) h') | _ => none) else none
def HF_slices_rotateCmpFunc_int_s1 : Hints := ⟨[(2, [0, 2, 4, 10, 11], [(0, [(0, .ty 22), (2, .ty 3), (4, .fn 33 [] [.ptr]), (10, .ty 3)])], none)], [], []⟩
noncomputable def BF_slices_rotateCmpFunc_int_s1 : Code := match Try.f64.body with | some c => c | none => .skip
noncomputable def F_slices_rotateCmpFunc_int_s1_l0 (F_slices_swapRangeCmpFunc_int_s1 : Sl → Int → Int → Int → Option Addr → GH → (GH → Option β) → Option β) (R : Nat) (n : Nat) (y6 : Sl) (y7 : Int) (y8 : Option Addr) (y9 : Int) (y10 : Int) (h : GH) (K0 : Sl → Int → Option Addr → Int → GH → Option β) : Option β := gloop (gcode Try.prog (CF_slices_rotateCmpFunc_int_s1 F_slices_swapRangeCmpFunc_int_s1) Try.f64.ntmps HF_slices_rotateCmpFunc_int_s1 R (at_ [true, true, false, false, false] BF_slices_rotateCmpFunc_int_s1)) [0, 2, 4, 10, 11] n [(0, Value.slice y6.a y6.n y6.c), (2, Value.int .i64 y7), (4, Value.func (.func 33) #[] #[Value.pointer y8]), (10, Value.int .i64 y9), (11, Value.int .i64 y10)] h (fun i e' h' => bif Nat.beq i 0 then (exS (some (e'.get 0)) fun u23 => exI .i64 (some (e'.get 2)) fun u24 => exF 33 [] [.ptr] (e'.get 4) fun ga26 gc27 => (match ga26, gc27 with | [], [.pointer p25] => exI .i64 (some (e'.get 10)) fun u28 => K0 u23 u24 p25 u28 h' | _, _ => none)) else none) (fun e' h' => none)
set_option maxRecDepth 100000 in
theorem F_slices_rotateCmpFunc_int_s1_l0_succ (F_slices_swapRangeCmpFunc_int_s1 : Sl → Int → Int → Int → Option Addr → GH → (GH → Option β) → Option β) (R : Nat) (n : Nat) (y6 : Sl) (y7 : Int) (y8 : Option Addr) (y9 : Int) (y10 : Int) (h : GH) (K0 : Sl → Int → Option Addr → Int → GH → Option β) : F_slices_rotateCmpFunc_int_s1_l0 F_slices_swapRangeCmpFunc_int_s1 R (n + 1) y6 y7 y8 y9 y10 h K0 =
    (bif y9 != y10 then (bif decide (y9 > y10) then F_slices_swapRangeCmpFunc_int_s1 y6 (IntKind.wrap .i64 (y7 - y9)) y7 y10 y8 h fun h15 => F_slices_rotateCmpFunc_int_s1_l0 F_slices_swapRangeCmpFunc_int_s1 R n y6 y7 y8 (IntKind.wrap .i64 (y9 - y10)) y10 h15 K0 else F_slices_swapRangeCmpFunc_int_s1 y6 (IntKind.wrap .i64 (y7 - y9)) (IntKind.wrap .i64 ((IntKind.wrap .i64 (y7 + y10)) - y9)) y9 y8 h fun h16 => F_slices_rotateCmpFunc_int_s1_l0 F_slices_swapRangeCmpFunc_int_s1 R n y6 y7 y8 y9 (IntKind.wrap .i64 (y10 - y9)) h16 K0) else K0 y6 y7 y8 y9 h) := by kernel_rfl
noncomputable def G_slices_rotateCmpFunc_int_s1 (F_slices_swapRangeCmpFunc_int_s1 : Sl → Int → Int → Int → Option Addr → GH → (GH → Option β) → Option β) (R : Nat) (a1 : Sl) (a2 : Int) (a3 : Int) (a4 : Int) (y5 : Option Addr) (h : GH) (K : GH → Option β) : Option β := gfun Try.prog (CF_slices_rotateCmpFunc_int_s1 F_slices_swapRangeCmpFunc_int_s1) HF_slices_rotateCmpFunc_int_s1 R Try.f64 [Value.slice a1.a a1.n a1.c, Value.int .i64 a2, Value.int .i64 a3, Value.int .i64 a4, Value.func (.func 33) #[] #[Value.pointer y5]] h (fun _ h' => K h')
set_option maxRecDepth 100000 in
theorem F_slices_rotateCmpFunc_int_s1_gen (F_slices_swapRangeCmpFunc_int_s1 : Sl → Int → Int → Int → Option Addr → GH → (GH → Option β) → Option β) (R : Nat) (a1 : Sl) (a2 : Int) (a3 : Int) (a4 : Int) (y5 : Option Addr) (h : GH) (K : GH → Option β) : G_slices_rotateCmpFunc_int_s1 F_slices_swapRangeCmpFunc_int_s1 R a1 a2 a3 a4 y5 h K =
    F_slices_rotateCmpFunc_int_s1_l0 F_slices_swapRangeCmpFunc_int_s1 R R a1 a3 y5 (IntKind.wrap .i64 (a3 - a2)) (IntKind.wrap .i64 (a4 - a3)) h (fun w17 w18 y19 w20 h21 => F_slices_swapRangeCmpFunc_int_s1 w17 (IntKind.wrap .i64 (w18 - w20)) w18 w20 y19 h21 fun h22 => K h22) := by kernel_rfl
noncomputable def F_slices_rotateCmpFunc_int_s1 (R : Nat) (a1 : Sl) (a2 : Int) (a3 : Int) (a4 : Int) (y5 : Option Addr) (h : GH) (K : GH → Option β) : Option β := G_slices_rotateCmpFunc_int_s1 (F_slices_swapRangeCmpFunc_int_s1 R) R a1 a2 a3 a4 y5 h K
set_option maxRecDepth 100000 in
theorem CF_slices_rotateCmpFunc_int_s1_sim {R : Nat} : SimOrc Try.prog (CF_slices_rotateCmpFunc_int_s1 (F_slices_swapRangeCmpFunc_int_s1 R) (β := β)) := by
  intro f args h K r hc
  unfold CF_slices_rotateCmpFunc_int_s1 at hc
  cases hb : Nat.beq f 65 with
  | true =>
    rw [hb] at hc
    simp only [cond_true] at hc
    obtain rfl := Nat.eq_of_beq_eq_true hb
    split at hc
    · exact any_call (F_slices_swapRangeCmpFunc_int_s1_sim (K := K) hc)
    · cases hc
  | false =>
  rw [hb] at hc
  simp only [cond_false] at hc
  cases hc
set_option maxRecDepth 100000 in
theorem F_slices_rotateCmpFunc_int_s1_sim {R : Nat} {r : β} {a1 : Sl} {a2 : Int} {a3 : Int} {a4 : Int} {y5 : Option Addr} {h : GH} {K : Value → GH → Option β} (hc : F_slices_rotateCmpFunc_int_s1 R a1 a2 a3 a4 y5 h (fun h' => K (Value.tuple #[]) h') = some r) : ∃ v h', K v h' = some r ∧ CallSim Try.prog 64 [Value.slice a1.a a1.n a1.c, Value.int .i64 a2, Value.int .i64 a3, Value.int .i64 a4, Value.func (.func 33) #[] #[Value.pointer y5]] h v h' := by
  unfold F_slices_rotateCmpFunc_int_s1 G_slices_rotateCmpFunc_int_s1 at hc
  obtain ⟨v, h', hk, hs⟩ := gfun_sim CF_slices_rotateCmpFunc_int_s1_sim mixed_ok (fun f h => by cases h) Try.func64 (by kernel_rfl) hc
  exact ⟨_, h', hk, hs.unit⟩
/-! F60 slices.symMergeCmpFunc[int] -/
def CF_slices_symMergeCmpFunc_int_s1 (F_sfano_Codes_1_s1 : Int → Int → Option Addr → GH → (Int → GH → Option β) → Option β) (F_slices_rotateCmpFunc_int_s1 : Sl → Int → Int → Int → Option Addr → GH → (GH → Option β) → Option β) (F_slices_symMergeCmpFunc_int_s1 : Sl → Int → Int → Int → Option Addr → GH → (GH → Option β) → Option β) : Orc β := fun f args h K => bif Nat.beq f 33 then (match args with | [.int .i64 p1, .int .i64 p2, .pointer p3] => F_sfano_Codes_1_s1 p1 p2 p3 h (fun q18 h' => K (Value.int .i64 q18) h') | _ => none) else (bif Nat.beq f 64 then (match args with | [.slice p1a p1n p1c, .int .i64 p2, .int .i64 p3, .int .i64 p4, .func (.func 33) ⟨[]⟩ ⟨[.pointer p5]⟩] => F_slices_rotateCmpFunc_int_s1 ⟨p1a, p1n, p1c⟩ p2 p3 p4 p5 h (fun h' => K (Value.tuple #[]) h') | _ => none) else (bif Nat.beq f 60 then (match args with | [.slice p1a p1n p1c, .int .i64 p2, .int .i64 p3, .int .i64 p4, .func (.func 33) ⟨[]⟩ ⟨[.pointer p5]⟩] => F_slices_symMergeCmpFunc_int_s1 ⟨p1a, p1n, p1c⟩ p2 p3 p4 p5 h (fun h' => K (Value.tuple #[]) h') | _ => none) else none))
def HF_slices_symMergeCmpFunc_int_s1 : Hints := ⟨[(3, [0, 1, 4, 10, 11], [(0, [(0, .ty 22), (1, .ty 3), (10, .ty 3)])], none), (9, [0, 10, 13], [(2, [])], none), (15, [0, 2, 4, 14, 15], [(4, [(0, .ty 22), (2, .ty 3), (14, .ty 3)])], none), (21, [0, 14, 17], [(6, [])], none), (33, [0, 1, 2, 3, 4, 18, 19, 20, 21, 22], [(8, [(0, .ty 22), (1, .ty 3), (2, .ty 3), (3, .ty 3), (4, .fn 33 [] [.ptr]), (18, .ty 3), (19, .ty 3), (20, .ty 3)])], none)], [], []⟩
noncomputable def BF_slices_symMergeCmpFunc_int_s1 : Code := match Try.f60.body with | some c => c | none => .skip
noncomputable def F_slices_symMergeCmpFunc_int_s1_l0 (F_sfano_Codes_1_s1 : Int → Int → Option Addr → GH → (Int → GH → Option β) → Option β) (F_slices_rotateCmpFunc_int_s1 : Sl → Int → Int → Int → Option Addr → GH → (GH → Option β) → Option β) (F_slices_symMergeCmpFunc_int_s1 : Sl → Int → Int → Int → Option Addr → GH → (GH → Option β) → Option β) (R : Nat) (n : Nat) (y6 : Sl) (y7 : Int) (y8 : Option Addr) (y9 : Int) (y10 : Int) (h : GH) (K0 : Sl → Int → Int → GH → Option β) : Option β := gloop (gcode Try.prog (CF_slices_symMergeCmpFunc_int_s1 F_sfano_Codes_1_s1 F_slices_rotateCmpFunc_int_s1 F_slices_symMergeCmpFunc_int_s1) Try.f60.ntmps HF_slices_symMergeCmpFunc_int_s1 R (at_ [false, true, false, true, true, false, false, false] BF_slices_symMergeCmpFunc_int_s1)) [0, 1, 4, 10, 11] n [(0, Value.slice y6.a y6.n y6.c), (1, Value.int .i64 y7), (4, Value.func (.func 33) #[] #[Value.pointer y8]), (10, Value.int .i64 y9), (11, Value.int .i64 y10)] h (fun i e' h' => bif Nat.beq i 0 then (exS (some (e'.get 0)) fun u148 => exI .i64 (some (e'.get 1)) fun u149 => exI .i64 (some (e'.get 10)) fun u150 => K0 u148 u149 u150 h') else none) (fun e' h' => none)
noncomputable def F_slices_symMergeCmpFunc_int_s1_l1 (F_sfano_Codes_1_s1 : Int → Int → Option Addr → GH → (Int → GH → Option β) → Option β) (F_slices_rotateCmpFunc_int_s1 : Sl → Int → Int → Int → Option Addr → GH → (GH → Option β) → Option β) (F_slices_symMergeCmpFunc_int_s1 : Sl → Int → Int → Int → Option Addr → GH → (GH → Option β) → Option β) (R : Nat) (n : Nat) (y26 : Sl) (y27 : Int) (y28 : Int) (h : GH) (K2 : GH → Option β) : Option β := gloop (gcode Try.prog (CF_slices_symMergeCmpFunc_int_s1 F_sfano_Codes_1_s1 F_slices_rotateCmpFunc_int_s1 F_slices_symMergeCmpFunc_int_s1) Try.f60.ntmps HF_slices_symMergeCmpFunc_int_s1 R (at_ [false, true, false, true, true, true, false, true, false, false] BF_slices_symMergeCmpFunc_int_s1)) [0, 10, 13] n [(0, Value.slice y26.a y26.n y26.c), (10, Value.int .i64 y27), (13, Value.int .i64 y28)] h (fun i e' h' => bif Nat.beq i 2 then (K2 h') else none) (fun e' h' => none)
noncomputable def F_slices_symMergeCmpFunc_int_s1_l2 (F_sfano_Codes_1_s1 : Int → Int → Option Addr → GH → (Int → GH → Option β) → Option β) (F_slices_rotateCmpFunc_int_s1 : Sl → Int → Int → Int → Option Addr → GH → (GH → Option β) → Option β) (F_slices_symMergeCmpFunc_int_s1 : Sl → Int → Int → Int → Option Addr → GH → (GH → Option β) → Option β) (R : Nat) (n : Nat) (y42 : Sl) (y43 : Int) (y44 : Option Addr) (y45 : Int) (y46 : Int) (h : GH) (K4 : Sl → Int → Int → GH → Option β) : Option β := gloop (gcode Try.prog (CF_slices_symMergeCmpFunc_int_s1 F_sfano_Codes_1_s1 F_slices_rotateCmpFunc_int_s1 F_slices_symMergeCmpFunc_int_s1) Try.f60.ntmps HF_slices_symMergeCmpFunc_int_s1 R (at_ [true, false, true, false, true, true, false, false, false] BF_slices_symMergeCmpFunc_int_s1)) [0, 2, 4, 14, 15] n [(0, Value.slice y42.a y42.n y42.c), (2, Value.int .i64 y43), (4, Value.func (.func 33) #[] #[Value.pointer y44]), (14, Value.int .i64 y45), (15, Value.int .i64 y46)] h (fun i e' h' => bif Nat.beq i 4 then (exS (some (e'.get 0)) fun u151 => exI .i64 (some (e'.get 2)) fun u152 => exI .i64 (some (e'.get 14)) fun u153 => K4 u151 u152 u153 h') else none) (fun e' h' => none)
noncomputable def F_slices_symMergeCmpFunc_int_s1_l3 (F_sfano_Codes_1_s1 : Int → Int → Option Addr → GH → (Int → GH → Option β) → Option β) (F_slices_rotateCmpFunc_int_s1 : Sl → Int → Int → Int → Option Addr → GH → (GH → Option β) → Option β) (F_slices_symMergeCmpFunc_int_s1 : Sl → Int → Int → Int → Option Addr → GH → (GH → Option β) → Option β) (R : Nat) (n : Nat) (y62 : Sl) (y63 : Int) (y64 : Int) (h : GH) (K6 : GH → Option β) : Option β := gloop (gcode Try.prog (CF_slices_symMergeCmpFunc_int_s1 F_sfano_Codes_1_s1 F_slices_rotateCmpFunc_int_s1 F_slices_symMergeCmpFunc_int_s1) Try.f60.ntmps HF_slices_symMergeCmpFunc_int_s1 R (at_ [true, false, true, false, true, true, true, false, true, false, false] BF_slices_symMergeCmpFunc_int_s1)) [0, 14, 17] n [(0, Value.slice y62.a y62.n y62.c), (14, Value.int .i64 y63), (17, Value.int .i64 y64)] h (fun i e' h' => bif Nat.beq i 6 then (K6 h') else none) (fun e' h' => none)
noncomputable def F_slices_symMergeCmpFunc_int_s1_l4 (F_sfano_Codes_1_s1 : Int → Int → Option Addr → GH → (Int → GH → Option β) → Option β) (F_slices_rotateCmpFunc_int_s1 : Sl → Int → Int → Int → Option Addr → GH → (GH → Option β) → Option β) (F_slices_symMergeCmpFunc_int_s1 : Sl → Int → Int → Int → Option Addr → GH → (GH → Option β) → Option β) (R : Nat) (n : Nat) (y78 : Sl) (y79 : Int) (y80 : Int) (y81 : Int) (y82 : Option Addr) (y83 : Int) (y84 : Int) (y85 : Int) (y86 : Int) (y87 : Int) (h : GH) (K8 : Sl → Int → Int → Int → Option Addr → Int → Int → Int → GH → Option β) : Option β := gloop (gcode Try.prog (CF_slices_symMergeCmpFunc_int_s1 F_sfano_Codes_1_s1 F_slices_rotateCmpFunc_int_s1 F_slices_symMergeCmpFunc_int_s1) Try.f60.ntmps HF_slices_symMergeCmpFunc_int_s1 R (at_ [true, true, true, true, true, true, true, false, false, false] BF_slices_symMergeCmpFunc_int_s1)) [0, 1, 2, 3, 4, 18, 19, 20, 21, 22] n [(0, Value.slice y78.a y78.n y78.c), (1, Value.int .i64 y79), (2, Value.int .i64 y80), (3, Value.int .i64 y81), (4, Value.func (.func 33) #[] #[Value.pointer y82]), (18, Value.int .i64 y83), (19, Value.int .i64 y84), (20, Value.int .i64 y85), (21, Value.int .i64 y86), (22, Value.int .i64 y87)] h (fun i e' h' => bif Nat.beq i 8 then (exS (some (e'.get 0)) fun u154 => exI .i64 (some (e'.get 1)) fun u155 => exI .i64 (some (e'.get 2)) fun u156 => exI .i64 (some (e'.get 3)) fun u157 => exF 33 [] [.ptr] (e'.get 4) fun ga159 gc160 => (match ga159, gc160 with | [], [.pointer p158] => exI .i64 (some (e'.get 18)) fun u161 => exI .i64 (some (e'.get 19)) fun u162 => exI .i64 (some (e'.get 20)) fun u163 => K8 u154 u155 u156 u157 p158 u161 u162 u163 h' | _, _ => none)) else none) (fun e' h' => none)
set_option maxRecDepth 100000 in
theorem F_slices_symMergeCmpFunc_int_s1_l4_succ (F_sfano_Codes_1_s1 : Int → Int → Option Addr → GH → (Int → GH → Option β) → Option β) (F_slices_rotateCmpFunc_int_s1 : Sl → Int → Int → Int → Option Addr → GH → (GH → Option β) → Option β) (F_slices_symMergeCmpFunc_int_s1 : Sl → Int → Int → Int → Option Addr → GH → (GH → Option β) → Option β) (R : Nat) (n : Nat) (y78 : Sl) (y79 : Int) (y80 : Int) (y81 : Int) (y82 : Option Addr) (y83 : Int) (y84 : Int) (y85 : Int) (y86 : Int) (y87 : Int) (h : GH) (K8 : Sl → Int → Int → Int → Option Addr → Int → Int → Int → GH → Option β) : F_slices_symMergeCmpFunc_int_s1_l4 F_sfano_Codes_1_s1 F_slices_rotateCmpFunc_int_s1 F_slices_symMergeCmpFunc_int_s1 R (n + 1) y78 y79 y80 y81 y82 y83 y84 y85 y86 y87 h K8 =
    (bif decide (y85 < y86) then exA y78.a fun g96 o97 => within (IntKind.wrap .i64 (y87 - (IntKind.wrap .i64 (shrI .u64 (IntKind.wrap .u64 (IntKind.wrap .i64 (y85 + y86))) 1)))) y78.n (exI .i64 (h.cell ⟨g96, o97 + (IntKind.wrap .i64 (y87 - (IntKind.wrap .i64 (shrI .u64 (IntKind.wrap .u64 (IntKind.wrap .i64 (y85 + y86))) 1)))).toNat * 1, none⟩) fun x98 => exA y78.a fun g99 o100 => within (IntKind.wrap .i64 (shrI .u64 (IntKind.wrap .u64 (IntKind.wrap .i64 (y85 + y86))) 1)) y78.n (exI .i64 (h.cell ⟨g99, o100 + (IntKind.wrap .i64 (shrI .u64 (IntKind.wrap .u64 (IntKind.wrap .i64 (y85 + y86))) 1)).toNat * 1, none⟩) fun x101 => F_sfano_Codes_1_s1 x98 x101 y82 h fun r102 h103 => (bif !(decide (r102 < 0)) then F_slices_symMergeCmpFunc_int_s1_l4 F_sfano_Codes_1_s1 F_slices_rotateCmpFunc_int_s1 F_slices_symMergeCmpFunc_int_s1 R n y78 y79 y80 y81 y82 y83 y84 (IntKind.wrap .i64 ((IntKind.wrap .i64 (shrI .u64 (IntKind.wrap .u64 (IntKind.wrap .i64 (y85 + y86))) 1)) + 1)) y86 y87 h103 K8 else F_slices_symMergeCmpFunc_int_s1_l4 F_sfano_Codes_1_s1 F_slices_rotateCmpFunc_int_s1 F_slices_symMergeCmpFunc_int_s1 R n y78 y79 y80 y81 y82 y83 y84 y85 (IntKind.wrap .i64 (shrI .u64 (IntKind.wrap .u64 (IntKind.wrap .i64 (y85 + y86))) 1)) y87 h103 K8))) else K8 y78 y79 y80 y81 y82 y83 y84 y85 h) := by kernel_rfl
set_option maxRecDepth 100000 in
theorem F_slices_symMergeCmpFunc_int_s1_l3_succ (F_sfano_Codes_1_s1 : Int → Int → Option Addr → GH → (Int → GH → Option β) → Option β) (F_slices_rotateCmpFunc_int_s1 : Sl → Int → Int → Int → Option Addr → GH → (GH → Option β) → Option β) (F_slices_symMergeCmpFunc_int_s1 : Sl → Int → Int → Int → Option Addr → GH → (GH → Option β) → Option β) (R : Nat) (n : Nat) (y62 : Sl) (y63 : Int) (y64 : Int) (h : GH) (K6 : GH → Option β) : F_slices_symMergeCmpFunc_int_s1_l3 F_sfano_Codes_1_s1 F_slices_rotateCmpFunc_int_s1 F_slices_symMergeCmpFunc_int_s1 R (n + 1) y62 y63 y64 h K6 =
    (bif decide (y64 > y63) then exA y62.a fun g65 o66 => within (IntKind.wrap .i64 (y64 - 1)) y62.n (exI .i64 (h.cell ⟨g65, o66 + (IntKind.wrap .i64 (y64 - 1)).toNat * 1, none⟩) fun x67 => exA y62.a fun g68 o69 => within y64 y62.n (exI .i64 (h.cell ⟨g68, o69 + y64.toNat * 1, none⟩) fun x70 => exA y62.a fun g71 o72 => within y64 y62.n (gput g71 (o72 + y64.toNat * 1) [Value.int .i64 x67] h fun h73 => exA y62.a fun g74 o75 => within (IntKind.wrap .i64 (y64 - 1)) y62.n (gput g74 (o75 + (IntKind.wrap .i64 (y64 - 1)).toNat * 1) [Value.int .i64 x70] h73 fun h76 => F_slices_symMergeCmpFunc_int_s1_l3 F_sfano_Codes_1_s1 F_slices_rotateCmpFunc_int_s1 F_slices_symMergeCmpFunc_int_s1 R n y62 y63 (IntKind.wrap .i64 (y64 - 1)) h76 K6)))) else K6 h) := by kernel_rfl
set_option maxRecDepth 100000 in
theorem F_slices_symMergeCmpFunc_int_s1_l2_succ (F_sfano_Codes_1_s1 : Int → Int → Option Addr → GH → (Int → GH → Option β) → Option β) (F_slices_rotateCmpFunc_int_s1 : Sl → Int → Int → Int → Option Addr → GH → (GH → Option β) → Option β) (F_slices_symMergeCmpFunc_int_s1 : Sl → Int → Int → Int → Option Addr → GH → (GH → Option β) → Option β) (R : Nat) (n : Nat) (y42 : Sl) (y43 : Int) (y44 : Option Addr) (y45 : Int) (y46 : Int) (h : GH) (K4 : Sl → Int → Int → GH → Option β) : F_slices_symMergeCmpFunc_int_s1_l2 F_sfano_Codes_1_s1 F_slices_rotateCmpFunc_int_s1 F_slices_symMergeCmpFunc_int_s1 R (n + 1) y42 y43 y44 y45 y46 h K4 =
    (bif decide (y45 < y46) then exA y42.a fun g50 o51 => within y43 y42.n (exI .i64 (h.cell ⟨g50, o51 + y43.toNat * 1, none⟩) fun x52 => exA y42.a fun g53 o54 => within (IntKind.wrap .i64 (shrI .u64 (IntKind.wrap .u64 (IntKind.wrap .i64 (y45 + y46))) 1)) y42.n (exI .i64 (h.cell ⟨g53, o54 + (IntKind.wrap .i64 (shrI .u64 (IntKind.wrap .u64 (IntKind.wrap .i64 (y45 + y46))) 1)).toNat * 1, none⟩) fun x55 => F_sfano_Codes_1_s1 x52 x55 y44 h fun r56 h57 => (bif !(decide (r56 < 0)) then F_slices_symMergeCmpFunc_int_s1_l2 F_sfano_Codes_1_s1 F_slices_rotateCmpFunc_int_s1 F_slices_symMergeCmpFunc_int_s1 R n y42 y43 y44 (IntKind.wrap .i64 ((IntKind.wrap .i64 (shrI .u64 (IntKind.wrap .u64 (IntKind.wrap .i64 (y45 + y46))) 1)) + 1)) y46 h57 K4 else F_slices_symMergeCmpFunc_int_s1_l2 F_sfano_Codes_1_s1 F_slices_rotateCmpFunc_int_s1 F_slices_symMergeCmpFunc_int_s1 R n y42 y43 y44 y45 (IntKind.wrap .i64 (shrI .u64 (IntKind.wrap .u64 (IntKind.wrap .i64 (y45 + y46))) 1)) h57 K4))) else K4 y42 y43 y45 h) := by kernel_rfl
set_option maxRecDepth 100000 in
theorem F_slices_symMergeCmpFunc_int_s1_l1_succ (F_sfano_Codes_1_s1 : Int → Int → Option Addr → GH → (Int → GH → Option β) → Option β) (F_slices_rotateCmpFunc_int_s1 : Sl → Int → Int → Int → Option Addr → GH → (GH → Option β) → Option β) (F_slices_symMergeCmpFunc_int_s1 : Sl → Int → Int → Int → Option Addr → GH → (GH → Option β) → Option β) (R : Nat) (n : Nat) (y26 : Sl) (y27 : Int) (y28 : Int) (h : GH) (K2 : GH → Option β) : F_slices_symMergeCmpFunc_int_s1_l1 F_sfano_Codes_1_s1 F_slices_rotateCmpFunc_int_s1 F_slices_symMergeCmpFunc_int_s1 R (n + 1) y26 y27 y28 h K2 =
    (bif decide (y28 < (IntKind.wrap .i64 (y27 - 1))) then exA y26.a fun g29 o30 => within (IntKind.wrap .i64 (y28 + 1)) y26.n (exI .i64 (h.cell ⟨g29, o30 + (IntKind.wrap .i64 (y28 + 1)).toNat * 1, none⟩) fun x31 => exA y26.a fun g32 o33 => within y28 y26.n (exI .i64 (h.cell ⟨g32, o33 + y28.toNat * 1, none⟩) fun x34 => exA y26.a fun g35 o36 => within y28 y26.n (gput g35 (o36 + y28.toNat * 1) [Value.int .i64 x31] h fun h37 => exA y26.a fun g38 o39 => within (IntKind.wrap .i64 (y28 + 1)) y26.n (gput g38 (o39 + (IntKind.wrap .i64 (y28 + 1)).toNat * 1) [Value.int .i64 x34] h37 fun h40 => F_slices_symMergeCmpFunc_int_s1_l1 F_sfano_Codes_1_s1 F_slices_rotateCmpFunc_int_s1 F_slices_symMergeCmpFunc_int_s1 R n y26 y27 (IntKind.wrap .i64 (y28 + 1)) h40 K2)))) else K2 h) := by kernel_rfl
set_option maxRecDepth 100000 in
theorem F_slices_symMergeCmpFunc_int_s1_l0_succ (F_sfano_Codes_1_s1 : Int → Int → Option Addr → GH → (Int → GH → Option β) → Option β) (F_slices_rotateCmpFunc_int_s1 : Sl → Int → Int → Int → Option Addr → GH → (GH → Option β) → Option β) (F_slices_symMergeCmpFunc_int_s1 : Sl → Int → Int → Int → Option Addr → GH → (GH → Option β) → Option β) (R : Nat) (n : Nat) (y6 : Sl) (y7 : Int) (y8 : Option Addr) (y9 : Int) (y10 : Int) (h : GH) (K0 : Sl → Int → Int → GH → Option β) : F_slices_symMergeCmpFunc_int_s1_l0 F_sfano_Codes_1_s1 F_slices_rotateCmpFunc_int_s1 F_slices_symMergeCmpFunc_int_s1 R (n + 1) y6 y7 y8 y9 y10 h K0 =
    (bif decide (y9 < y10) then exA y6.a fun g14 o15 => within (IntKind.wrap .i64 (shrI .u64 (IntKind.wrap .u64 (IntKind.wrap .i64 (y9 + y10))) 1)) y6.n (exI .i64 (h.cell ⟨g14, o15 + (IntKind.wrap .i64 (shrI .u64 (IntKind.wrap .u64 (IntKind.wrap .i64 (y9 + y10))) 1)).toNat * 1, none⟩) fun x16 => exA y6.a fun g17 o18 => within y7 y6.n (exI .i64 (h.cell ⟨g17, o18 + y7.toNat * 1, none⟩) fun x19 => F_sfano_Codes_1_s1 x16 x19 y8 h fun r20 h21 => (bif decide (r20 < 0) then F_slices_symMergeCmpFunc_int_s1_l0 F_sfano_Codes_1_s1 F_slices_rotateCmpFunc_int_s1 F_slices_symMergeCmpFunc_int_s1 R n y6 y7 y8 (IntKind.wrap .i64 ((IntKind.wrap .i64 (shrI .u64 (IntKind.wrap .u64 (IntKind.wrap .i64 (y9 + y10))) 1)) + 1)) y10 h21 K0 else F_slices_symMergeCmpFunc_int_s1_l0 F_sfano_Codes_1_s1 F_slices_rotateCmpFunc_int_s1 F_slices_symMergeCmpFunc_int_s1 R n y6 y7 y8 y9 (IntKind.wrap .i64 (shrI .u64 (IntKind.wrap .u64 (IntKind.wrap .i64 (y9 + y10))) 1)) h21 K0))) else K0 y6 y7 y9 h) := by kernel_rfl
noncomputable def G_slices_symMergeCmpFunc_int_s1 (F_sfano_Codes_1_s1 : Int → Int → Option Addr → GH → (Int → GH → Option β) → Option β) (F_slices_rotateCmpFunc_int_s1 : Sl → Int → Int → Int → Option Addr → GH → (GH → Option β) → Option β) (F_slices_symMergeCmpFunc_int_s1 : Sl → Int → Int → Int → Option Addr → GH → (GH → Option β) → Option β) (R : Nat) (a1 : Sl) (a2 : Int) (a3 : Int) (a4 : Int) (y5 : Option Addr) (h : GH) (K : GH → Option β) : Option β := gfun Try.prog (CF_slices_symMergeCmpFunc_int_s1 F_sfano_Codes_1_s1 F_slices_rotateCmpFunc_int_s1 F_slices_symMergeCmpFunc_int_s1) HF_slices_symMergeCmpFunc_int_s1 R Try.f60 [Value.slice a1.a a1.n a1.c, Value.int .i64 a2, Value.int .i64 a3, Value.int .i64 a4, Value.func (.func 33) #[] #[Value.pointer y5]] h (fun _ h' => K h')
set_option maxRecDepth 100000 in
theorem F_slices_symMergeCmpFunc_int_s1_gen (F_sfano_Codes_1_s1 : Int → Int → Option Addr → GH → (Int → GH → Option β) → Option β) (F_slices_rotateCmpFunc_int_s1 : Sl → Int → Int → Int → Option Addr → GH → (GH → Option β) → Option β) (F_slices_symMergeCmpFunc_int_s1 : Sl → Int → Int → Int → Option Addr → GH → (GH → Option β) → Option β) (R : Nat) (a1 : Sl) (a2 : Int) (a3 : Int) (a4 : Int) (y5 : Option Addr) (h : GH) (K : GH → Option β) : G_slices_symMergeCmpFunc_int_s1 F_sfano_Codes_1_s1 F_slices_rotateCmpFunc_int_s1 F_slices_symMergeCmpFunc_int_s1 R a1 a2 a3 a4 y5 h K =
    (bif (IntKind.wrap .i64 (a3 - a2)) == 1 then F_slices_symMergeCmpFunc_int_s1_l0 F_sfano_Codes_1_s1 F_slices_rotateCmpFunc_int_s1 F_slices_symMergeCmpFunc_int_s1 R R a1 a2 y5 a3 a4 h (fun w22 w23 w24 h25 => F_slices_symMergeCmpFunc_int_s1_l1 F_sfano_Codes_1_s1 F_slices_rotateCmpFunc_int_s1 F_slices_symMergeCmpFunc_int_s1 R R w22 w24 w23 h25 (fun h41 => K h41)) else (bif (IntKind.wrap .i64 (a4 - a3)) == 1 then F_slices_symMergeCmpFunc_int_s1_l2 F_sfano_Codes_1_s1 F_slices_rotateCmpFunc_int_s1 F_slices_symMergeCmpFunc_int_s1 R R a1 a3 y5 a2 a3 h (fun w58 w59 w60 h61 => F_slices_symMergeCmpFunc_int_s1_l3 F_sfano_Codes_1_s1 F_slices_rotateCmpFunc_int_s1 F_slices_symMergeCmpFunc_int_s1 R R w58 w60 w59 h61 (fun h77 => K h77)) else (bif decide (a3 > (IntKind.wrap .i64 (shrI .u64 (IntKind.wrap .u64 (IntKind.wrap .i64 (a2 + a4))) 1))) then F_slices_symMergeCmpFunc_int_s1_l4 F_sfano_Codes_1_s1 F_slices_rotateCmpFunc_int_s1 F_slices_symMergeCmpFunc_int_s1 R R a1 a2 a3 a4 y5 (IntKind.wrap .i64 (shrI .u64 (IntKind.wrap .u64 (IntKind.wrap .i64 (a2 + a4))) 1)) (IntKind.wrap .i64 ((IntKind.wrap .i64 (shrI .u64 (IntKind.wrap .u64 (IntKind.wrap .i64 (a2 + a4))) 1)) + a3)) (IntKind.wrap .i64 ((IntKind.wrap .i64 ((IntKind.wrap .i64 (shrI .u64 (IntKind.wrap .u64 (IntKind.wrap .i64 (a2 + a4))) 1)) + a3)) - a4)) (IntKind.wrap .i64 (shrI .u64 (IntKind.wrap .u64 (IntKind.wrap .i64 (a2 + a4))) 1)) (IntKind.wrap .i64 ((IntKind.wrap .i64 ((IntKind.wrap .i64 (shrI .u64 (IntKind.wrap .u64 (IntKind.wrap .i64 (a2 + a4))) 1)) + a3)) - 1)) h (fun w104 w105 w106 w107 y108 w109 w110 w111 h112 => (bif decide (w111 < w106) then (bif decide (w106 < (IntKind.wrap .i64 (w110 - w111))) then F_slices_rotateCmpFunc_int_s1 w104 w111 w106 (IntKind.wrap .i64 (w110 - w111)) y108 h112 fun h113 => (bif decide (w105 < w111) then (bif decide (w111 < w109) then F_slices_symMergeCmpFunc_int_s1 w104 w105 w111 w109 y108 h113 fun h114 => (bif decide (w109 < (IntKind.wrap .i64 (w110 - w111))) then (bif decide ((IntKind.wrap .i64 (w110 - w111)) < w107) then F_slices_symMergeCmpFunc_int_s1 w104 w109 (IntKind.wrap .i64 (w110 - w111)) w107 y108 h114 fun h115 => K h115 else K h114) else K h114) else (bif decide (w109 < (IntKind.wrap .i64 (w110 - w111))) then (bif decide ((IntKind.wrap .i64 (w110 - w111)) < w107) then F_slices_symMergeCmpFunc_int_s1 w104 w109 (IntKind.wrap .i64 (w110 - w111)) w107 y108 h113 fun h116 => K h116 else K h113) else K h113)) else (bif decide (w109 < (IntKind.wrap .i64 (w110 - w111))) then (bif decide ((IntKind.wrap .i64 (w110 - w111)) < w107) then F_slices_symMergeCmpFunc_int_s1 w104 w109 (IntKind.wrap .i64 (w110 - w111)) w107 y108 h113 fun h117 => K h117 else K h113) else K h113)) else (bif decide (w105 < w111) then (bif decide (w111 < w109) then F_slices_symMergeCmpFunc_int_s1 w104 w105 w111 w109 y108 h112 fun h118 => (bif decide (w109 < (IntKind.wrap .i64 (w110 - w111))) then (bif decide ((IntKind.wrap .i64 (w110 - w111)) < w107) then F_slices_symMergeCmpFunc_int_s1 w104 w109 (IntKind.wrap .i64 (w110 - w111)) w107 y108 h118 fun h119 => K h119 else K h118) else K h118) else (bif decide (w109 < (IntKind.wrap .i64 (w110 - w111))) then (bif decide ((IntKind.wrap .i64 (w110 - w111)) < w107) then F_slices_symMergeCmpFunc_int_s1 w104 w109 (IntKind.wrap .i64 (w110 - w111)) w107 y108 h112 fun h120 => K h120 else K h112) else K h112)) else (bif decide (w109 < (IntKind.wrap .i64 (w110 - w111))) then (bif decide ((IntKind.wrap .i64 (w110 - w111)) < w107) then F_slices_symMergeCmpFunc_int_s1 w104 w109 (IntKind.wrap .i64 (w110 - w111)) w107 y108 h112 fun h121 => K h121 else K h112) else K h112))) else (bif decide (w105 < w111) then (bif decide (w111 < w109) then F_slices_symMergeCmpFunc_int_s1 w104 w105 w111 w109 y108 h112 fun h122 => (bif decide (w109 < (IntKind.wrap .i64 (w110 - w111))) then (bif decide ((IntKind.wrap .i64 (w110 - w111)) < w107) then F_slices_symMergeCmpFunc_int_s1 w104 w109 (IntKind.wrap .i64 (w110 - w111)) w107 y108 h122 fun h123 => K h123 else K h122) else K h122) else (bif decide (w109 < (IntKind.wrap .i64 (w110 - w111))) then (bif decide ((IntKind.wrap .i64 (w110 - w111)) < w107) then F_slices_symMergeCmpFunc_int_s1 w104 w109 (IntKind.wrap .i64 (w110 - w111)) w107 y108 h112 fun h124 => K h124 else K h112) else K h112)) else (bif decide (w109 < (IntKind.wrap .i64 (w110 - w111))) then (bif decide ((IntKind.wrap .i64 (w110 - w111)) < w107) then F_slices_symMergeCmpFunc_int_s1 w104 w109 (IntKind.wrap .i64 (w110 - w111)) w107 y108 h112 fun h125 => K h125 else K h112) else K h112)))) else F_slices_symMergeCmpFunc_int_s1_l4 F_sfano_Codes_1_s1 F_slices_rotateCmpFunc_int_s1 F_slices_symMergeCmpFunc_int_s1 R R a1 a2 a3 a4 y5 (IntKind.wrap .i64 (shrI .u64 (IntKind.wrap .u64 (IntKind.wrap .i64 (a2 + a4))) 1)) (IntKind.wrap .i64 ((IntKind.wrap .i64 (shrI .u64 (IntKind.wrap .u64 (IntKind.wrap .i64 (a2 + a4))) 1)) + a3)) a2 a3 (IntKind.wrap .i64 ((IntKind.wrap .i64 ((IntKind.wrap .i64 (shrI .u64 (IntKind.wrap .u64 (IntKind.wrap .i64 (a2 + a4))) 1)) + a3)) - 1)) h (fun w126 w127 w128 w129 y130 w131 w132 w133 h134 => (bif decide (w133 < w128) then (bif decide (w128 < (IntKind.wrap .i64 (w132 - w133))) then F_slices_rotateCmpFunc_int_s1 w126 w133 w128 (IntKind.wrap .i64 (w132 - w133)) y130 h134 fun h135 => (bif decide (w127 < w133) then (bif decide (w133 < w131) then F_slices_symMergeCmpFunc_int_s1 w126 w127 w133 w131 y130 h135 fun h136 => (bif decide (w131 < (IntKind.wrap .i64 (w132 - w133))) then (bif decide ((IntKind.wrap .i64 (w132 - w133)) < w129) then F_slices_symMergeCmpFunc_int_s1 w126 w131 (IntKind.wrap .i64 (w132 - w133)) w129 y130 h136 fun h137 => K h137 else K h136) else K h136) else (bif decide (w131 < (IntKind.wrap .i64 (w132 - w133))) then (bif decide ((IntKind.wrap .i64 (w132 - w133)) < w129) then F_slices_symMergeCmpFunc_int_s1 w126 w131 (IntKind.wrap .i64 (w132 - w133)) w129 y130 h135 fun h138 => K h138 else K h135) else K h135)) else (bif decide (w131 < (IntKind.wrap .i64 (w132 - w133))) then (bif decide ((IntKind.wrap .i64 (w132 - w133)) < w129) then F_slices_symMergeCmpFunc_int_s1 w126 w131 (IntKind.wrap .i64 (w132 - w133)) w129 y130 h135 fun h139 => K h139 else K h135) else K h135)) else (bif decide (w127 < w133) then (bif decide (w133 < w131) then F_slices_symMergeCmpFunc_int_s1 w126 w127 w133 w131 y130 h134 fun h140 => (bif decide (w131 < (IntKind.wrap .i64 (w132 - w133))) then (bif decide ((IntKind.wrap .i64 (w132 - w133)) < w129) then F_slices_symMergeCmpFunc_int_s1 w126 w131 (IntKind.wrap .i64 (w132 - w133)) w129 y130 h140 fun h141 => K h141 else K h140) else K h140) else (bif decide (w131 < (IntKind.wrap .i64 (w132 - w133))) then (bif decide ((IntKind.wrap .i64 (w132 - w133)) < w129) then F_slices_symMergeCmpFunc_int_s1 w126 w131 (IntKind.wrap .i64 (w132 - w133)) w129 y130 h134 fun h142 => K h142 else K h134) else K h134)) else (bif decide (w131 < (IntKind.wrap .i64 (w132 - w133))) then (bif decide ((IntKind.wrap .i64 (w132 - w133)) < w129) then F_slices_symMergeCmpFunc_int_s1 w126 w131 (IntKind.wrap .i64 (w132 - w133)) w129 y130 h134 fun h143 => K h143 else K h134) else K h134))) else (bif decide (w127 < w133) then (bif decide (w133 < w131) then F_slices_symMergeCmpFunc_int_s1 w126 w127 w133 w131 y130 h134 fun h144 => (bif decide (w131 < (IntKind.wrap .i64 (w132 - w133))) then (bif decide ((IntKind.wrap .i64 (w132 - w133)) < w129) then F_slices_symMergeCmpFunc_int_s1 w126 w131 (IntKind.wrap .i64 (w132 - w133)) w129 y130 h144 fun h145 => K h145 else K h144) else K h144) else (bif decide (w131 < (IntKind.wrap .i64 (w132 - w133))) then (bif decide ((IntKind.wrap .i64 (w132 - w133)) < w129) then F_slices_symMergeCmpFunc_int_s1 w126 w131 (IntKind.wrap .i64 (w132 - w133)) w129 y130 h134 fun h146 => K h146 else K h134) else K h134)) else (bif decide (w131 < (IntKind.wrap .i64 (w132 - w133))) then (bif decide ((IntKind.wrap .i64 (w132 - w133)) < w129) then F_slices_symMergeCmpFunc_int_s1 w126 w131 (IntKind.wrap .i64 (w132 - w133)) w129 y130 h134 fun h147 => K h147 else K h134) else K h134))))))) := by kernel_rfl
noncomputable def F_slices_symMergeCmpFunc_int_s1 (R : Nat) : Nat → Sl → Int → Int → Int → Option Addr → GH → (GH → Option β) → Option β
  | 0 => fun _ _ _ _ _ _ _ => none
  | n + 1 => fun a1 a2 a3 a4 y5 h K => G_slices_symMergeCmpFunc_int_s1 (F_sfano_Codes_1_s1 R) (F_slices_rotateCmpFunc_int_s1 R) (F_slices_symMergeCmpFunc_int_s1 R n) R a1 a2 a3 a4 y5 h K
set_option maxRecDepth 100000 in
theorem F_slices_symMergeCmpFunc_int_s1_sim {R : Nat} : ∀ {n : Nat} {r : β} {a1 : Sl} {a2 : Int} {a3 : Int} {a4 : Int} {y5 : Option Addr} {h : GH} {K : Value → GH → Option β}, F_slices_symMergeCmpFunc_int_s1 R n a1 a2 a3 a4 y5 h (fun h' => K (Value.tuple #[]) h') = some r → ∃ v h', K v h' = some r ∧ CallSim Try.prog 60 [Value.slice a1.a a1.n a1.c, Value.int .i64 a2, Value.int .i64 a3, Value.int .i64 a4, Value.func (.func 33) #[] #[Value.pointer y5]] h v h' := by
  intro n
  induction n with
  | zero => intro r a1 a2 a3 a4 y5 h K hc; cases hc
  | succ n ih =>
    intro r a1 a2 a3 a4 y5 h K hc
    have hc : G_slices_symMergeCmpFunc_int_s1 (F_sfano_Codes_1_s1 R) (F_slices_rotateCmpFunc_int_s1 R) (F_slices_symMergeCmpFunc_int_s1 R n) R a1 a2 a3 a4 y5 h (fun h' => K (Value.tuple #[]) h') = some r := hc
    have hC : SimOrc Try.prog (CF_slices_symMergeCmpFunc_int_s1 (F_sfano_Codes_1_s1 R) (F_slices_rotateCmpFunc_int_s1 R) (F_slices_symMergeCmpFunc_int_s1 R n) (β := β)) := by
      intro f args h K r hc
      unfold CF_slices_symMergeCmpFunc_int_s1 at hc
      cases hb : Nat.beq f 33 with
      | true =>
        rw [hb] at hc
        simp only [cond_true] at hc
        obtain rfl := Nat.eq_of_beq_eq_true hb
        split at hc
        · exact any_call (F_sfano_Codes_1_s1_sim (K := K) hc)
        · cases hc
      | false =>
      rw [hb] at hc
      simp only [cond_false] at hc
      cases hb : Nat.beq f 64 with
      | true =>
        rw [hb] at hc
        simp only [cond_true] at hc
        obtain rfl := Nat.eq_of_beq_eq_true hb
        split at hc
        · exact any_call (F_slices_rotateCmpFunc_int_s1_sim (K := K) hc)
        · cases hc
      | false =>
      rw [hb] at hc
      simp only [cond_false] at hc
      cases hb : Nat.beq f 60 with
      | true =>
        rw [hb] at hc
        simp only [cond_true] at hc
        obtain rfl := Nat.eq_of_beq_eq_true hb
        split at hc
        · exact any_call (ih (K := K) hc)
        · cases hc
      | false =>
      rw [hb] at hc
      simp only [cond_false] at hc
      cases hc
    unfold G_slices_symMergeCmpFunc_int_s1 at hc
    obtain ⟨v, h', hk, hs⟩ := gfun_sim hC mixed_ok (fun f h => by cases h) Try.func60 (by kernel_rfl) hc
    exact ⟨_, h', hk, hs.unit⟩
/-! F47 slices.stableCmpFunc[int] -/
def CF_slices_stableCmpFunc_int_s1 (F_slices_insertionSortCmpFunc_int_s1 : Sl → Int → Int → Option Addr → GH → (GH → Option β) → Option β) (F_slices_symMergeCmpFunc_int_s1 : Sl → Int → Int → Int → Option Addr → GH → (GH → Option β) → Option β) : Orc β := fun f args h K => bif Nat.beq f 59 then (match args with | [.slice p1a p1n p1c, .int .i64 p2, .int .i64 p3, .func (.func 33) ⟨[]⟩ ⟨[.pointer p4]⟩] => F_slices_insertionSortCmpFunc_int_s1 ⟨p1a, p1n, p1c⟩ p2 p3 p4 h (fun h' => K (Value.tuple #[]) h') | _ => none) else (bif Nat.beq f 60 then (match args with | [.slice p1a p1n p1c, .int .i64 p2, .int .i64 p3, .int .i64 p4, .func (.func 33) ⟨[]⟩ ⟨[.pointer p5]⟩] => F_slices_symMergeCmpFunc_int_s1 ⟨p1a, p1n, p1c⟩ p2 p3 p4 p5 h (fun h' => K (Value.tuple #[]) h') | _ => none) else none)
def HF_slices_stableCmpFunc_int_s1 : Hints := ⟨[(2, [0, 1, 2, 6, 7, 8], [(0, [(0, .ty 22), (1, .ty 3), (2, .fn 33 [] [.ptr]), (6, .ty 3), (7, .ty 3)])], none), (7, [0, 1, 2, 6], [(2, [])], none), (9, [0, 1, 2, 6, 7, 8], [(4, [(0, .ty 22), (1, .ty 3), (2, .fn 33 [] [.ptr]), (6, .ty 3), (7, .ty 3)])], none)], [], []⟩
noncomputable def BF_slices_stableCmpFunc_int_s1 : Code := match Try.f47.body with | some c => c | none => .skip
noncomputable def F_slices_stableCmpFunc_int_s1_l0 (F_slices_insertionSortCmpFunc_int_s1 : Sl → Int → Int → Option Addr → GH → (GH → Option β) → Option β) (F_slices_symMergeCmpFunc_int_s1 : Sl → Int → Int → Int → Option Addr → GH → (GH → Option β) → Option β) (R : Nat) (n : Nat) (y4 : Sl) (y5 : Int) (y6 : Option Addr) (y7 : Int) (y8 : Int) (y9 : Int) (h : GH) (K0 : Sl → Int → Option Addr → Int → Int → GH → Option β) : Option β := gloop (gcode Try.prog (CF_slices_stableCmpFunc_int_s1 F_slices_insertionSortCmpFunc_int_s1 F_slices_symMergeCmpFunc_int_s1) Try.f47.ntmps HF_slices_stableCmpFunc_int_s1 R (at_ [true, true, false, false, false] BF_slices_stableCmpFunc_int_s1)) [0, 1, 2, 6, 7, 8] n [(0, Value.slice y4.a y4.n y4.c), (1, Value.int .i64 y5), (2, Value.func (.func 33) #[] #[Value.pointer y6]), (6, Value.int .i64 y7), (7, Value.int .i64 y8), (8, Value.int .i64 y9)] h (fun i e' h' => bif Nat.beq i 0 then (exS (some (e'.get 0)) fun u47 => exI .i64 (some (e'.get 1)) fun u48 => exF 33 [] [.ptr] (e'.get 2) fun ga50 gc51 => (match ga50, gc51 with | [], [.pointer p49] => exI .i64 (some (e'.get 6)) fun u52 => exI .i64 (some (e'.get 7)) fun u53 => K0 u47 u48 p49 u52 u53 h' | _, _ => none)) else none) (fun e' h' => none)
noncomputable def F_slices_stableCmpFunc_int_s1_l1 (F_slices_insertionSortCmpFunc_int_s1 : Sl → Int → Int → Option Addr → GH → (GH → Option β) → Option β) (F_slices_symMergeCmpFunc_int_s1 : Sl → Int → Int → Int → Option Addr → GH → (GH → Option β) → Option β) (R : Nat) (n : Nat) (y23 : Sl) (y24 : Int) (y25 : Option Addr) (y26 : Int) (h : GH) (K2 : GH → Option β) : Option β := gloop (gcode Try.prog (CF_slices_stableCmpFunc_int_s1 F_slices_insertionSortCmpFunc_int_s1 F_slices_symMergeCmpFunc_int_s1) Try.f47.ntmps HF_slices_stableCmpFunc_int_s1 R (at_ [true, true, true, true, false, false] BF_slices_stableCmpFunc_int_s1)) [0, 1, 2, 6] n [(0, Value.slice y23.a y23.n y23.c), (1, Value.int .i64 y24), (2, Value.func (.func 33) #[] #[Value.pointer y25]), (6, Value.int .i64 y26)] h (fun i e' h' => bif Nat.beq i 2 then (K2 h') else none) (fun e' h' => none)
noncomputable def F_slices_stableCmpFunc_int_s1_l2 (F_slices_insertionSortCmpFunc_int_s1 : Sl → Int → Int → Option Addr → GH → (GH → Option β) → Option β) (F_slices_symMergeCmpFunc_int_s1 : Sl → Int → Int → Int → Option Addr → GH → (GH → Option β) → Option β) (R : Nat) (n : Nat) (y27 : Sl) (y28 : Int) (y29 : Option Addr) (y30 : Int) (y31 : Int) (y32 : Int) (h : GH) (K4 : Sl → Int → Option Addr → Int → Int → GH → Option β) : Option β := gloop (gcode Try.prog (CF_slices_stableCmpFunc_int_s1 F_slices_insertionSortCmpFunc_int_s1 F_slices_symMergeCmpFunc_int_s1) Try.f47.ntmps HF_slices_stableCmpFunc_int_s1 R (at_ [true, true, true, true, false, false, true, false, true, false, false, false] BF_slices_stableCmpFunc_int_s1)) [0, 1, 2, 6, 7, 8] n [(0, Value.slice y27.a y27.n y27.c), (1, Value.int .i64 y28), (2, Value.func (.func 33) #[] #[Value.pointer y29]), (6, Value.int .i64 y30), (7, Value.int .i64 y31), (8, Value.int .i64 y32)] h (fun i e' h' => bif Nat.beq i 4 then (exS (some (e'.get 0)) fun u54 => exI .i64 (some (e'.get 1)) fun u55 => exF 33 [] [.ptr] (e'.get 2) fun ga57 gc58 => (match ga57, gc58 with | [], [.pointer p56] => exI .i64 (some (e'.get 6)) fun u59 => exI .i64 (some (e'.get 7)) fun u60 => K4 u54 u55 p56 u59 u60 h' | _, _ => none)) else none) (fun e' h' => none)
set_option maxRecDepth 100000 in
theorem F_slices_stableCmpFunc_int_s1_l2_succ (F_slices_insertionSortCmpFunc_int_s1 : Sl → Int → Int → Option Addr → GH → (GH → Option β) → Option β) (F_slices_symMergeCmpFunc_int_s1 : Sl → Int → Int → Int → Option Addr → GH → (GH → Option β) → Option β) (R : Nat) (n : Nat) (y27 : Sl) (y28 : Int) (y29 : Option Addr) (y30 : Int) (y31 : Int) (y32 : Int) (h : GH) (K4 : Sl → Int → Option Addr → Int → Int → GH → Option β) : F_slices_stableCmpFunc_int_s1_l2 F_slices_insertionSortCmpFunc_int_s1 F_slices_symMergeCmpFunc_int_s1 R (n + 1) y27 y28 y29 y30 y31 y32 h K4 =
    (bif decide (y32 ≤ y28) then F_slices_symMergeCmpFunc_int_s1 y27 y31 (IntKind.wrap .i64 (y31 + y30)) y32 y29 h fun h38 => F_slices_stableCmpFunc_int_s1_l2 F_slices_insertionSortCmpFunc_int_s1 F_slices_symMergeCmpFunc_int_s1 R n y27 y28 y29 y30 y32 (IntKind.wrap .i64 (y32 + (IntKind.wrap .i64 (2 * y30)))) h38 K4 else K4 y27 y28 y29 y30 y31 h) := by kernel_rfl
set_option maxRecDepth 100000 in
theorem F_slices_stableCmpFunc_int_s1_l1_succ (F_slices_insertionSortCmpFunc_int_s1 : Sl → Int → Int → Option Addr → GH → (GH → Option β) → Option β) (F_slices_symMergeCmpFunc_int_s1 : Sl → Int → Int → Int → Option Addr → GH → (GH → Option β) → Option β) (R : Nat) (n : Nat) (y23 : Sl) (y24 : Int) (y25 : Option Addr) (y26 : Int) (h : GH) (K2 : GH → Option β) : F_slices_stableCmpFunc_int_s1_l1 F_slices_insertionSortCmpFunc_int_s1 F_slices_symMergeCmpFunc_int_s1 R (n + 1) y23 y24 y25 y26 h K2 =
    (bif decide (y26 < y24) then F_slices_stableCmpFunc_int_s1_l2 F_slices_insertionSortCmpFunc_int_s1 F_slices_symMergeCmpFunc_int_s1 R R y23 y24 y25 y26 0 (IntKind.wrap .i64 (2 * y26)) h (fun w39 w40 y41 w42 w43 h44 => (bif decide ((IntKind.wrap .i64 (w43 + w42)) < w40) then F_slices_symMergeCmpFunc_int_s1 w39 w43 (IntKind.wrap .i64 (w43 + w42)) w40 y41 h44 fun h45 => F_slices_stableCmpFunc_int_s1_l1 F_slices_insertionSortCmpFunc_int_s1 F_slices_symMergeCmpFunc_int_s1 R n w39 w40 y41 (IntKind.wrap .i64 (w42 * 2)) h45 K2 else F_slices_stableCmpFunc_int_s1_l1 F_slices_insertionSortCmpFunc_int_s1 F_slices_symMergeCmpFunc_int_s1 R n w39 w40 y41 (IntKind.wrap .i64 (w42 * 2)) h44 K2)) else K2 h) := by kernel_rfl
set_option maxRecDepth 100000 in
theorem F_slices_stableCmpFunc_int_s1_l0_succ (F_slices_insertionSortCmpFunc_int_s1 : Sl → Int → Int → Option Addr → GH → (GH → Option β) → Option β) (F_slices_symMergeCmpFunc_int_s1 : Sl → Int → Int → Int → Option Addr → GH → (GH → Option β) → Option β) (R : Nat) (n : Nat) (y4 : Sl) (y5 : Int) (y6 : Option Addr) (y7 : Int) (y8 : Int) (y9 : Int) (h : GH) (K0 : Sl → Int → Option Addr → Int → Int → GH → Option β) : F_slices_stableCmpFunc_int_s1_l0 F_slices_insertionSortCmpFunc_int_s1 F_slices_symMergeCmpFunc_int_s1 R (n + 1) y4 y5 y6 y7 y8 y9 h K0 =
    (bif decide (y9 ≤ y5) then F_slices_insertionSortCmpFunc_int_s1 y4 y8 y9 y6 h fun h15 => F_slices_stableCmpFunc_int_s1_l0 F_slices_insertionSortCmpFunc_int_s1 F_slices_symMergeCmpFunc_int_s1 R n y4 y5 y6 y7 y9 (IntKind.wrap .i64 (y9 + y7)) h15 K0 else K0 y4 y5 y6 y7 y8 h) := by kernel_rfl
noncomputable def G_slices_stableCmpFunc_int_s1 (F_slices_insertionSortCmpFunc_int_s1 : Sl → Int → Int → Option Addr → GH → (GH → Option β) → Option β) (F_slices_symMergeCmpFunc_int_s1 : Sl → Int → Int → Int → Option Addr → GH → (GH → Option β) → Option β) (R : Nat) (a1 : Sl) (a2 : Int) (y3 : Option Addr) (h : GH) (K : GH → Option β) : Option β := gfun Try.prog (CF_slices_stableCmpFunc_int_s1 F_slices_insertionSortCmpFunc_int_s1 F_slices_symMergeCmpFunc_int_s1) HF_slices_stableCmpFunc_int_s1 R Try.f47 [Value.slice a1.a a1.n a1.c, Value.int .i64 a2, Value.func (.func 33) #[] #[Value.pointer y3]] h (fun _ h' => K h')
set_option maxRecDepth 100000 in
theorem F_slices_stableCmpFunc_int_s1_gen (F_slices_insertionSortCmpFunc_int_s1 : Sl → Int → Int → Option Addr → GH → (GH → Option β) → Option β) (F_slices_symMergeCmpFunc_int_s1 : Sl → Int → Int → Int → Option Addr → GH → (GH → Option β) → Option β) (R : Nat) (a1 : Sl) (a2 : Int) (y3 : Option Addr) (h : GH) (K : GH → Option β) : G_slices_stableCmpFunc_int_s1 F_slices_insertionSortCmpFunc_int_s1 F_slices_symMergeCmpFunc_int_s1 R a1 a2 y3 h K =
    F_slices_stableCmpFunc_int_s1_l0 F_slices_insertionSortCmpFunc_int_s1 F_slices_symMergeCmpFunc_int_s1 R R a1 a2 y3 20 0 20 h (fun w16 w17 y18 w19 w20 h21 => F_slices_insertionSortCmpFunc_int_s1 w16 w20 w17 y18 h21 fun h22 => F_slices_stableCmpFunc_int_s1_l1 F_slices_insertionSortCmpFunc_int_s1 F_slices_symMergeCmpFunc_int_s1 R R w16 w17 y18 w19 h22 (fun h46 => K h46)) := by kernel_rfl
noncomputable def F_slices_stableCmpFunc_int_s1 (R : Nat) (a1 : Sl) (a2 : Int) (y3 : Option Addr) (h : GH) (K : GH → Option β) : Option β := G_slices_stableCmpFunc_int_s1 (F_slices_insertionSortCmpFunc_int_s1 R) (F_slices_symMergeCmpFunc_int_s1 R R) R a1 a2 y3 h K
set_option maxRecDepth 100000 in
theorem CF_slices_stableCmpFunc_int_s1_sim {R : Nat} : SimOrc Try.prog (CF_slices_stableCmpFunc_int_s1 (F_slices_insertionSortCmpFunc_int_s1 R) (F_slices_symMergeCmpFunc_int_s1 R R) (β := β)) := by
  intro f args h K r hc
  unfold CF_slices_stableCmpFunc_int_s1 at hc
  cases hb : Nat.beq f 59 with
  | true =>
    rw [hb] at hc
    simp only [cond_true] at hc
    obtain rfl := Nat.eq_of_beq_eq_true hb
    split at hc
    · exact any_call (F_slices_insertionSortCmpFunc_int_s1_sim (K := K) hc)
    · cases hc
  | false =>
  rw [hb] at hc
  simp only [cond_false] at hc
  cases hb : Nat.beq f 60 with
  | true =>
    rw [hb] at hc
    simp only [cond_true] at hc
    obtain rfl := Nat.eq_of_beq_eq_true hb
    split at hc
    · exact any_call (F_slices_symMergeCmpFunc_int_s1_sim (K := K) hc)
    · cases hc
  | false =>
  rw [hb] at hc
  simp only [cond_false] at hc
  cases hc
set_option maxRecDepth 100000 in
theorem F_slices_stableCmpFunc_int_s1_sim {R : Nat} {r : β} {a1 : Sl} {a2 : Int} {y3 : Option Addr} {h : GH} {K : Value → GH → Option β} (hc : F_slices_stableCmpFunc_int_s1 R a1 a2 y3 h (fun h' => K (Value.tuple #[]) h') = some r) : ∃ v h', K v h' = some r ∧ CallSim Try.prog 47 [Value.slice a1.a a1.n a1.c, Value.int .i64 a2, Value.func (.func 33) #[] #[Value.pointer y3]] h v h' := by
  unfold F_slices_stableCmpFunc_int_s1 G_slices_stableCmpFunc_int_s1 at hc
  obtain ⟨v, h', hk, hs⟩ := gfun_sim CF_slices_stableCmpFunc_int_s1_sim mixed_ok (fun f h => by cases h) Try.func47 (by kernel_rfl) hc
  exact ⟨_, h', hk, hs.unit⟩
/-! F32 slices.SortStableFunc[[]int,int] -/
def CF_slices_SortStableFunc_int_s1 (F_slices_stableCmpFunc_int_s1 : Sl → Int → Option Addr → GH → (GH → Option β) → Option β) : Orc β := fun f args h K => bif Nat.beq f 47 then (match args with | [.slice p1a p1n p1c, .int .i64 p2, .func (.func 33) ⟨[]⟩ ⟨[.pointer p3]⟩] => F_slices_stableCmpFunc_int_s1 ⟨p1a, p1n, p1c⟩ p2 p3 h (fun h' => K (Value.tuple #[]) h') | _ => none) else none
def HF_slices_SortStableFunc_int_s1 : Hints := ⟨[], [], []⟩
noncomputable def G_slices_SortStableFunc_int_s1 (F_slices_stableCmpFunc_int_s1 : Sl → Int → Option Addr → GH → (GH → Option β) → Option β) (R : Nat) (a1 : Sl) (y2 : Option Addr) (h : GH) (K : GH → Option β) : Option β := gfun Try.prog (CF_slices_SortStableFunc_int_s1 F_slices_stableCmpFunc_int_s1) HF_slices_SortStableFunc_int_s1 R Try.f32 [Value.slice a1.a a1.n a1.c, Value.func (.func 33) #[] #[Value.pointer y2]] h (fun _ h' => K h')
set_option maxRecDepth 100000 in
theorem F_slices_SortStableFunc_int_s1_gen (F_slices_stableCmpFunc_int_s1 : Sl → Int → Option Addr → GH → (GH → Option β) → Option β) (R : Nat) (a1 : Sl) (y2 : Option Addr) (h : GH) (K : GH → Option β) : G_slices_SortStableFunc_int_s1 F_slices_stableCmpFunc_int_s1 R a1 y2 h K =
    F_slices_stableCmpFunc_int_s1 a1 ((a1.n : Nat) : Int) y2 h fun h3 => K h3 := by kernel_rfl
noncomputable def F_slices_SortStableFunc_int_s1 (R : Nat) (a1 : Sl) (y2 : Option Addr) (h : GH) (K : GH → Option β) : Option β := G_slices_SortStableFunc_int_s1 (F_slices_stableCmpFunc_int_s1 R) R a1 y2 h K
set_option maxRecDepth 100000 in
theorem CF_slices_SortStableFunc_int_s1_sim {R : Nat} : SimOrc Try.prog (CF_slices_SortStableFunc_int_s1 (F_slices_stableCmpFunc_int_s1 R) (β := β)) := by
  intro f args h K r hc
  unfold CF_slices_SortStableFunc_int_s1 at hc
  cases hb : Nat.beq f 47 with
  | true =>
    rw [hb] at hc
    simp only [cond_true] at hc
    obtain rfl := Nat.eq_of_beq_eq_true hb
    split at hc
    · exact any_call (F_slices_stableCmpFunc_int_s1_sim (K := K) hc)
    · cases hc
  | false =>
  rw [hb] at hc
  simp only [cond_false] at hc
  cases hc
set_option maxRecDepth 100000 in
theorem F_slices_SortStableFunc_int_s1_sim {R : Nat} {r : β} {a1 : Sl} {y2 : Option Addr} {h : GH} {K : Value → GH → Option β} (hc : F_slices_SortStableFunc_int_s1 R a1 y2 h (fun h' => K (Value.tuple #[]) h') = some r) : ∃ v h', K v h' = some r ∧ CallSim Try.prog 32 [Value.slice a1.a a1.n a1.c, Value.func (.func 33) #[] #[Value.pointer y2]] h v h' := by
  unfold F_slices_SortStableFunc_int_s1 G_slices_SortStableFunc_int_s1 at hc
  obtain ⟨v, h', hk, hs⟩ := gfun_sim CF_slices_SortStableFunc_int_s1_sim mixed_ok (fun f h => by cases h) Try.func32 (by kernel_rfl) hc
  exact ⟨_, h', hk, hs.unit⟩
/-! F61 math/bits.ReverseBytes32 -/
def CF_math_bits_ReverseBytes32  : Orc β := fun f args h K => none
def HF_math_bits_ReverseBytes32 : Hints := ⟨[], [], []⟩
noncomputable def G_math_bits_ReverseBytes32  (R : Nat) (a1 : Int) (h : GH) (K : Int → GH → Option β) : Option β := gfun Try.prog (CF_math_bits_ReverseBytes32 ) HF_math_bits_ReverseBytes32 R Try.f61 [Value.int .u32 a1] h (fun v h' => exI .u32 (some v) fun u3 => K u3 h')
set_option maxRecDepth 100000 in
theorem F_math_bits_ReverseBytes32_gen  (R : Nat) (a1 : Int) (h : GH) (K : Int → GH → Option β) : G_math_bits_ReverseBytes32  R a1 h K =
    K (IntKind.wrap .u32 (BitVec.ofInt (IntKind.bits .u32) (shrI .u32 (IntKind.wrap .u32 (BitVec.ofInt (IntKind.bits .u32) (IntKind.wrap .u32 (BitVec.ofInt (IntKind.bits .u32) (shrI .u32 a1 8) &&& BitVec.ofInt (IntKind.bits .u32) 16711935).toNat) ||| BitVec.ofInt (IntKind.bits .u32) (shlI .u32 (IntKind.wrap .u32 (BitVec.ofInt (IntKind.bits .u32) a1 &&& BitVec.ofInt (IntKind.bits .u32) 16711935).toNat) 8)).toNat) 16) ||| BitVec.ofInt (IntKind.bits .u32) (shlI .u32 (IntKind.wrap .u32 (BitVec.ofInt (IntKind.bits .u32) (IntKind.wrap .u32 (BitVec.ofInt (IntKind.bits .u32) (shrI .u32 a1 8) &&& BitVec.ofInt (IntKind.bits .u32) 16711935).toNat) ||| BitVec.ofInt (IntKind.bits .u32) (shlI .u32 (IntKind.wrap .u32 (BitVec.ofInt (IntKind.bits .u32) a1 &&& BitVec.ofInt (IntKind.bits .u32) 16711935).toNat) 8)).toNat) 16)).toNat) h := by kernel_rfl
noncomputable def F_math_bits_ReverseBytes32 (R : Nat) (a1 : Int) (h : GH) (K : Int → GH → Option β) : Option β := G_math_bits_ReverseBytes32  R a1 h K
theorem CF_math_bits_ReverseBytes32_sim : SimOrc Try.prog (CF_math_bits_ReverseBytes32 (β := β)) := by
  intro f args h K r hc
  cases hc
set_option maxRecDepth 100000 in
theorem F_math_bits_ReverseBytes32_sim {R : Nat} {r : β} {a1 : Int} {h : GH} {K : Value → GH → Option β} (hc : F_math_bits_ReverseBytes32 R a1 h (fun q0 h' => K (Value.int .u32 q0) h') = some r) : ∃ v h', K v h' = some r ∧ CallSim Try.prog 61 [Value.int .u32 a1] h v h' := by
  unfold F_math_bits_ReverseBytes32 G_math_bits_ReverseBytes32 at hc
  obtain ⟨v, h', hk, hs⟩ := gfun_sim CF_math_bits_ReverseBytes32_sim mixed_ok (fun f h => by cases h) Try.func61 (by kernel_rfl) hc
  obtain ⟨u0, e0, hk⟩ := exI_v hk; cases e0
  exact ⟨_, h', hk, hs⟩
/-! F50 math/bits.Reverse32 -/
def CF_math_bits_Reverse32 (F_math_bits_ReverseBytes32 : Int → GH → (Int → GH → Option β) → Option β) : Orc β := fun f args h K => bif Nat.beq f 61 then (match args with | [.int .u32 p1] => F_math_bits_ReverseBytes32 p1 h (fun q2 h' => K (Value.int .u32 q2) h') | _ => none) else none
def HF_math_bits_Reverse32 : Hints := ⟨[], [], []⟩
noncomputable def G_math_bits_Reverse32 (F_math_bits_ReverseBytes32 : Int → GH → (Int → GH → Option β) → Option β) (R : Nat) (a1 : Int) (h : GH) (K : Int → GH → Option β) : Option β := gfun Try.prog (CF_math_bits_Reverse32 F_math_bits_ReverseBytes32) HF_math_bits_Reverse32 R Try.f50 [Value.int .u32 a1] h (fun v h' => exI .u32 (some v) fun u5 => K u5 h')
set_option maxRecDepth 100000 in
theorem F_math_bits_Reverse32_gen (F_math_bits_ReverseBytes32 : Int → GH → (Int → GH → Option β) → Option β) (R : Nat) (a1 : Int) (h : GH) (K : Int → GH → Option β) : G_math_bits_Reverse32 F_math_bits_ReverseBytes32 R a1 h K =
    F_math_bits_ReverseBytes32 (IntKind.wrap .u32 (BitVec.ofInt (IntKind.bits .u32) (IntKind.wrap .u32 (BitVec.ofInt (IntKind.bits .u32) (shrI .u32 (IntKind.wrap .u32 (BitVec.ofInt (IntKind.bits .u32) (IntKind.wrap .u32 (BitVec.ofInt (IntKind.bits .u32) (shrI .u32 (IntKind.wrap .u32 (BitVec.ofInt (IntKind.bits .u32) (IntKind.wrap .u32 (BitVec.ofInt (IntKind.bits .u32) (shrI .u32 a1 1) &&& BitVec.ofInt (IntKind.bits .u32) 1431655765).toNat) ||| BitVec.ofInt (IntKind.bits .u32) (shlI .u32 (IntKind.wrap .u32 (BitVec.ofInt (IntKind.bits .u32) a1 &&& BitVec.ofInt (IntKind.bits .u32) 1431655765).toNat) 1)).toNat) 2) &&& BitVec.ofInt (IntKind.bits .u32) 858993459).toNat) ||| BitVec.ofInt (IntKind.bits .u32) (shlI .u32 (IntKind.wrap .u32 (BitVec.ofInt (IntKind.bits .u32) (IntKind.wrap .u32 (BitVec.ofInt (IntKind.bits .u32) (IntKind.wrap .u32 (BitVec.ofInt (IntKind.bits .u32) (shrI .u32 a1 1) &&& BitVec.ofInt (IntKind.bits .u32) 1431655765).toNat) ||| BitVec.ofInt (IntKind.bits .u32) (shlI .u32 (IntKind.wrap .u32 (BitVec.ofInt (IntKind.bits .u32) a1 &&& BitVec.ofInt (IntKind.bits .u32) 1431655765).toNat) 1)).toNat) &&& BitVec.ofInt (IntKind.bits .u32) 858993459).toNat) 2)).toNat) 4) &&& BitVec.ofInt (IntKind.bits .u32) 252645135).toNat) ||| BitVec.ofInt (IntKind.bits .u32) (shlI .u32 (IntKind.wrap .u32 (BitVec.ofInt (IntKind.bits .u32) (IntKind.wrap .u32 (BitVec.ofInt (IntKind.bits .u32) (IntKind.wrap .u32 (BitVec.ofInt (IntKind.bits .u32) (shrI .u32 (IntKind.wrap .u32 (BitVec.ofInt (IntKind.bits .u32) (IntKind.wrap .u32 (BitVec.ofInt (IntKind.bits .u32) (shrI .u32 a1 1) &&& BitVec.ofInt (IntKind.bits .u32) 1431655765).toNat) ||| BitVec.ofInt (IntKind.bits .u32) (shlI .u32 (IntKind.wrap .u32 (BitVec.ofInt (IntKind.bits .u32) a1 &&& BitVec.ofInt (IntKind.bits .u32) 1431655765).toNat) 1)).toNat) 2) &&& BitVec.ofInt (IntKind.bits .u32) 858993459).toNat) ||| BitVec.ofInt (IntKind.bits .u32) (shlI .u32 (IntKind.wrap .u32 (BitVec.ofInt (IntKind.bits .u32) (IntKind.wrap .u32 (BitVec.ofInt (IntKind.bits .u32) (IntKind.wrap .u32 (BitVec.ofInt (IntKind.bits .u32) (shrI .u32 a1 1) &&& BitVec.ofInt (IntKind.bits .u32) 1431655765).toNat) ||| BitVec.ofInt (IntKind.bits .u32) (shlI .u32 (IntKind.wrap .u32 (BitVec.ofInt (IntKind.bits .u32) a1 &&& BitVec.ofInt (IntKind.bits .u32) 1431655765).toNat) 1)).toNat) &&& BitVec.ofInt (IntKind.bits .u32) 858993459).toNat) 2)).toNat) &&& BitVec.ofInt (IntKind.bits .u32) 252645135).toNat) 4)).toNat) h fun r2 h3 => K r2 h3 := by kernel_rfl
noncomputable def F_math_bits_Reverse32 (R : Nat) (a1 : Int) (h : GH) (K : Int → GH → Option β) : Option β := G_math_bits_Reverse32 (F_math_bits_ReverseBytes32 R) R a1 h K
set_option maxRecDepth 100000 in
theorem CF_math_bits_Reverse32_sim {R : Nat} : SimOrc Try.prog (CF_math_bits_Reverse32 (F_math_bits_ReverseBytes32 R) (β := β)) := by
  intro f args h K r hc
  unfold CF_math_bits_Reverse32 at hc
  cases hb : Nat.beq f 61 with
  | true =>
    rw [hb] at hc
    simp only [cond_true] at hc
    obtain rfl := Nat.eq_of_beq_eq_true hb
    split at hc
    · exact any_call (F_math_bits_ReverseBytes32_sim (K := K) hc)
    · cases hc
  | false =>
  rw [hb] at hc
  simp only [cond_false] at hc
  cases hc
set_option maxRecDepth 100000 in
theorem F_math_bits_Reverse32_sim {R : Nat} {r : β} {a1 : Int} {h : GH} {K : Value → GH → Option β} (hc : F_math_bits_Reverse32 R a1 h (fun q0 h' => K (Value.int .u32 q0) h') = some r) : ∃ v h', K v h' = some r ∧ CallSim Try.prog 50 [Value.int .u32 a1] h v h' := by
  unfold F_math_bits_Reverse32 G_math_bits_Reverse32 at hc
  obtain ⟨v, h', hk, hs⟩ := gfun_sim CF_math_bits_Reverse32_sim mixed_ok (fun f h => by cases h) Try.func50 (by kernel_rfl) hc
  obtain ⟨u0, e0, hk⟩ := exI_v hk; cases e0
  exact ⟨_, h', hk, hs⟩
/-! F36 duffel/bitio.Turn -/
def CF_bitio_Turn (F_math_bits_Reverse32 : Int → GH → (Int → GH → Option β) → Option β) : Orc β := fun f args h K => bif Nat.beq f 50 then (match args with | [.int .u32 p1] => F_math_bits_Reverse32 p1 h (fun q4 h' => K (Value.int .u32 q4) h') | _ => none) else none
def HF_bitio_Turn : Hints := ⟨[], [], []⟩
noncomputable def G_bitio_Turn (F_math_bits_Reverse32 : Int → GH → (Int → GH → Option β) → Option β) (R : Nat) (a1 : Int) (a2 : Int) (h : GH) (K : Int → GH → Option β) : Option β := gfun Try.prog (CF_bitio_Turn F_math_bits_Reverse32) HF_bitio_Turn R Try.f36 [Value.int .u32 a1, Value.int .i64 a2] h (fun v h' => exI .u32 (some v) fun u6 => K u6 h')
set_option maxRecDepth 100000 in
theorem F_bitio_Turn_gen (F_math_bits_Reverse32 : Int → GH → (Int → GH → Option β) → Option β) (R : Nat) (a1 : Int) (a2 : Int) (h : GH) (K : Int → GH → Option β) : G_bitio_Turn F_math_bits_Reverse32 R a1 a2 h K =
    F_math_bits_Reverse32 a1 h fun r3 h4 => (bif decide ((IntKind.wrap .i64 (32 - (if 32 < (if 0 > a2 then 0 else a2) then 32 else if 0 > a2 then 0 else a2))) < 0) then none else K (IntKind.wrap .u32 (shrI .u64 (IntKind.wrap .u64 r3) (IntKind.wrap .i64 (32 - (if 32 < (if 0 > a2 then 0 else a2) then 32 else if 0 > a2 then 0 else a2))))) h4) := by kernel_rfl
noncomputable def F_bitio_Turn (R : Nat) (a1 : Int) (a2 : Int) (h : GH) (K : Int → GH → Option β) : Option β := G_bitio_Turn (F_math_bits_Reverse32 R) R a1 a2 h K
set_option maxRecDepth 100000 in
theorem CF_bitio_Turn_sim {R : Nat} : SimOrc Try.prog (CF_bitio_Turn (F_math_bits_Reverse32 R) (β := β)) := by
  intro f args h K r hc
  unfold CF_bitio_Turn at hc
  cases hb : Nat.beq f 50 with
  | true =>
    rw [hb] at hc
    simp only [cond_true] at hc
    obtain rfl := Nat.eq_of_beq_eq_true hb
    split at hc
    · exact any_call (F_math_bits_Reverse32_sim (K := K) hc)
    · cases hc
  | false =>
  rw [hb] at hc
  simp only [cond_false] at hc
  cases hc
set_option maxRecDepth 100000 in
theorem F_bitio_Turn_sim {R : Nat} {r : β} {a1 : Int} {a2 : Int} {h : GH} {K : Value → GH → Option β} (hc : F_bitio_Turn R a1 a2 h (fun q0 h' => K (Value.int .u32 q0) h') = some r) : ∃ v h', K v h' = some r ∧ CallSim Try.prog 36 [Value.int .u32 a1, Value.int .i64 a2] h v h' := by
  unfold F_bitio_Turn G_bitio_Turn at hc
  obtain ⟨v, h', hk, hs⟩ := gfun_sim CF_bitio_Turn_sim mixed_ok (fun f h => by cases h) Try.func36 (by kernel_rfl) hc
  obtain ⟨u0, e0, hk⟩ := exI_v hk; cases e0
  exact ⟨_, h', hk, hs⟩
/-! F10 duffel/sfano.Codes -/
def CF_sfano_Codes (F_sfano_check : Sl → GH → (Int → GH → Option β) → Option β) (F_slices_SortStableFunc_int_s1 : Sl → Option Addr → GH → (GH → Option β) → Option β) (F_slices_Backward : Sl → GH → (Option Addr → GH → Option β) → Option β) (F_bitio_Turn : Int → Int → GH → (Int → GH → Option β) → Option β) : Orc β := fun f args h K => bif Nat.beq f 31 then (match args with | [.slice p1a p1n p1c] => F_sfano_check ⟨p1a, p1n, p1c⟩ h (fun q14 h' => K (Value.int .i64 q14) h') | _ => none) else (bif Nat.beq f 32 then (match args with | [.slice p1a p1n p1c, .func (.func 33) ⟨[]⟩ ⟨[.pointer p2]⟩] => F_slices_SortStableFunc_int_s1 ⟨p1a, p1n, p1c⟩ p2 h (fun h' => K (Value.tuple #[]) h') | _ => none) else (bif Nat.beq f 35 then (match args with | [.slice p1a p1n p1c] => F_slices_Backward ⟨p1a, p1n, p1c⟩ h (fun q1 h' => K (Value.func (.func 49) #[] #[Value.pointer q1]) h') | _ => none) else (bif Nat.beq f 36 then (match args with | [.int .u32 p1, .int .i64 p2] => F_bitio_Turn p1 p2 h (fun q5 h' => K (Value.int .u32 q5) h') | _ => none) else none)))
def HF_sfano_Codes : Hints := ⟨[(6, [1, 5, 22, 23], [(0, [(1, .ty 15), (5, .ty 22)])], none)], [], backs⟩
noncomputable def BF_sfano_Codes : Code := match Try.f10.body with | some c => c | none => .skip
noncomputable def F_sfano_Codes_l0 (F_sfano_check : Sl → GH → (Int → GH → Option β) → Option β) (F_slices_SortStableFunc_int_s1 : Sl → Option Addr → GH → (GH → Option β) → Option β) (F_slices_Backward : Sl → GH → (Option Addr → GH → Option β) → Option β) (F_bitio_Turn : Int → Int → GH → (Int → GH → Option β) → Option β) (R : Nat) (n : Nat) (y10 : Option Addr) (y11 : Sl) (y12 : Int) (y13 : Int) (h : GH) (K0 : Option Addr → Sl → GH → Option β) : Option β := gloop (gcode Try.prog (CF_sfano_Codes F_sfano_check F_slices_SortStableFunc_int_s1 F_slices_Backward F_bitio_Turn) Try.f10.ntmps HF_sfano_Codes R (at_ [true, true, true, false, true, false, false] BF_sfano_Codes)) [1, 5, 22, 23] n [(1, Value.pointer y10), (5, Value.slice y11.a y11.n y11.c), (22, Value.int .i64 y12), (23, Value.int .i64 y13)] h (fun i e' h' => bif Nat.beq i 0 then (exP (some (e'.get 1)) fun u88 => exS (some (e'.get 5)) fun u89 => K0 u88 u89 h') else none) (fun e' h' => none)
set_option maxRecDepth 100000 in
theorem F_sfano_Codes_l0_succ (F_sfano_check : Sl → GH → (Int → GH → Option β) → Option β) (F_slices_SortStableFunc_int_s1 : Sl → Option Addr → GH → (GH → Option β) → Option β) (F_slices_Backward : Sl → GH → (Option Addr → GH → Option β) → Option β) (F_bitio_Turn : Int → Int → GH → (Int → GH → Option β) → Option β) (R : Nat) (n : Nat) (y10 : Option Addr) (y11 : Sl) (y12 : Int) (y13 : Int) (h : GH) (K0 : Option Addr → Sl → GH → Option β) : F_sfano_Codes_l0 F_sfano_check F_slices_SortStableFunc_int_s1 F_slices_Backward F_bitio_Turn R (n + 1) y10 y11 y12 y13 h K0 =
    (bif decide (y13 < y12) then exA y11.a fun g16 o17 => within y13 y11.n (gput g16 (o17 + y13.toNat * 1) [Value.int .i64 y13] h fun h18 => F_sfano_Codes_l0 F_sfano_check F_slices_SortStableFunc_int_s1 F_slices_Backward F_bitio_Turn R n y10 y11 y12 (IntKind.wrap .i64 (y13 + 1)) h18 K0) else K0 y10 y11 h) := by kernel_rfl
noncomputable def G_sfano_Codes (F_sfano_check : Sl → GH → (Int → GH → Option β) → Option β) (F_slices_SortStableFunc_int_s1 : Sl → Option Addr → GH → (GH → Option β) → Option β) (F_slices_Backward : Sl → GH → (Option Addr → GH → Option β) → Option β) (F_bitio_Turn : Int → Int → GH → (Int → GH → Option β) → Option β) (R : Nat) (a1 : Sl) (h : GH) (K : Sl → Int → GH → Option β) : Option β := gfun Try.prog (CF_sfano_Codes F_sfano_check F_slices_SortStableFunc_int_s1 F_slices_Backward F_bitio_Turn) HF_sfano_Codes R Try.f10 [Value.slice a1.a a1.n a1.c] h (fun v h' => exTup 2 v fun vs => exV (nth vs 0) fun v0 => exS (some v0) fun u90 => exV (nth vs 1) fun v1 => exI .i64 (some v1) fun u91 => K u90 u91 h')
set_option maxRecDepth 100000 in
theorem F_sfano_Codes_gen (F_sfano_check : Sl → GH → (Int → GH → Option β) → Option β) (F_slices_SortStableFunc_int_s1 : Sl → Option Addr → GH → (GH → Option β) → Option β) (F_slices_Backward : Sl → GH → (Option Addr → GH → Option β) → Option β) (F_bitio_Turn : Int → Int → GH → (Int → GH → Option β) → Option β) (R : Nat) (a1 : Sl) (h : GH) (K : Sl → Int → GH → Option β) : G_sfano_Codes F_sfano_check F_slices_SortStableFunc_int_s1 F_slices_Backward F_bitio_Turn R a1 h K =
    gnew [Value.slice a1.a a1.n a1.c] 0 h fun g2 h3 => exS (h3.cell ⟨g2, 0, none⟩) fun x4 => F_sfano_check x4 h3 fun r5 h6 => (bif r5 != 0 then K ⟨none, 0, 0⟩ r5 h6 else exS (h6.cell ⟨g2, 0, none⟩) fun x7 => gmake 1 8 (Value.int .i64 0) ((x7.n : Nat) : Int) ((x7.n : Nat) : Int) h6 fun s8 h9 => F_sfano_Codes_l0 F_sfano_check F_slices_SortStableFunc_int_s1 F_slices_Backward F_bitio_Turn R R (some ⟨g2, 0, none⟩) s8 ((s8.n : Nat) : Int) 0 h9 (fun w19 w20 h21 => F_slices_SortStableFunc_int_s1 w20 w19 h21 fun h22 => exA w19 fun g23 o24 => exS (h22.cell ⟨g23, o24, none⟩) fun x25 => gmake 2 16 (Value.agg #[Value.int .u32 0, Value.int .i64 0]) ((x25.n : Nat) : Int) ((x25.n : Nat) : Int) h22 fun s26 h27 => gnew [Value.slice none 0 0] 0 h27 fun g28 h29 => gput g28 (0) [Value.slice s26.a s26.n s26.c] h29 fun h30 => gnew [Value.int .u32 0] 0 h30 fun g31 h32 => gnew [Value.int .u32 0] 0 h32 fun g33 h34 => gnew [Value.int .i64 0] 0 h34 fun g35 h36 => gput g31 (0) [Value.int .u32 0] h36 fun h37 => gput g33 (0) [Value.int .u32 0] h37 fun h38 => gput g35 (0) [Value.int .i64 0] h38 fun h39 => F_slices_Backward w20 h39 fun r40 h41 => exA r40 fun g42 o43 => exS (h41.cell ⟨g42, o43, none⟩) fun x44 => (bif Nat.ble x44.n 4611686018427387904 then gback x44 g42 o43 (fun i45 z46 h47 k48 => exI .u32 (h47.cell ⟨g31, 0, none⟩) fun x50 => exI .u32 (h47.cell ⟨g33, 0, none⟩) fun x51 => gput g31 (0) [Value.int .u32 (IntKind.wrap .u32 (x50 + x51))] h47 fun h52 => exA w19 fun g53 o54 => exS (h52.cell ⟨g53, o54, none⟩) fun x55 => exA x55.a fun g56 o57 => within z46 x55.n (exI .i64 (h52.cell ⟨g56, o57 + z46.toNat * 1, none⟩) fun x58 => exI .i64 (h52.cell ⟨g35, 0, none⟩) fun x59 => (bif x58 != x59 then exA w19 fun g60 o61 => exS (h52.cell ⟨g60, o61, none⟩) fun x62 => exA x62.a fun g63 o64 => within z46 x62.n (exI .i64 (h52.cell ⟨g63, o64 + z46.toNat * 1, none⟩) fun x65 => gput g35 (0) [Value.int .i64 x65] h52 fun h66 => exI .i64 (h66.cell ⟨g35, 0, none⟩) fun x67 => (bif decide ((IntKind.wrap .i64 (16 - x67)) < 0) then none else gput g33 (0) [Value.int .u32 (shlI .u32 1 (IntKind.wrap .i64 (16 - x67)))] h66 fun h68 => exS (h68.cell ⟨g28, 0, none⟩) fun x69 => exI .u32 (h68.cell ⟨g31, 0, none⟩) fun x70 => F_bitio_Turn x70 16 h68 fun r71 h72 => exI .i64 (h72.cell ⟨g35, 0, none⟩) fun x73 => exA x69.a fun g74 o75 => within z46 x69.n (gput g74 (o75 + z46.toNat * 2) [Value.int .u32 r71, Value.int .i64 x73] h72 fun h76 => (bif sameAt g35 (0) 1 h68 h72 then (bif sameAt g28 (0) 1 h68 h72 then k48 h76 else none) else none)))) else exS (h52.cell ⟨g28, 0, none⟩) fun x77 => exI .u32 (h52.cell ⟨g31, 0, none⟩) fun x78 => F_bitio_Turn x78 16 h52 fun r79 h80 => exI .i64 (h80.cell ⟨g35, 0, none⟩) fun x81 => exA x77.a fun g82 o83 => within z46 x77.n (gput g82 (o83 + z46.toNat * 2) [Value.int .u32 r79, Value.int .i64 x81] h80 fun h84 => (bif sameAt g35 (0) 1 h52 h80 then (bif sameAt g28 (0) 1 h52 h80 then k48 h84 else none) else none))))) x44.n h41 (fun h49 => exS (h49.cell ⟨g28, 0, none⟩) fun x85 => K x85 0 h49) else none))) := by kernel_rfl
noncomputable def F_sfano_Codes (R : Nat) (a1 : Sl) (h : GH) (K : Sl → Int → GH → Option β) : Option β := G_sfano_Codes (F_sfano_check R) (F_slices_SortStableFunc_int_s1 R) F_slices_Backward (F_bitio_Turn R) R a1 h K
set_option maxRecDepth 100000 in
theorem CF_sfano_Codes_sim {R : Nat} : SimOrc Try.prog (CF_sfano_Codes (F_sfano_check R) (F_slices_SortStableFunc_int_s1 R) F_slices_Backward (F_bitio_Turn R) (β := β)) := by
  intro f args h K r hc
  unfold CF_sfano_Codes at hc
  cases hb : Nat.beq f 31 with
  | true =>
    rw [hb] at hc
    simp only [cond_true] at hc
    obtain rfl := Nat.eq_of_beq_eq_true hb
    split at hc
    · exact any_call (F_sfano_check_sim (K := K) hc)
    · cases hc
  | false =>
  rw [hb] at hc
  simp only [cond_false] at hc
  cases hb : Nat.beq f 32 with
  | true =>
    rw [hb] at hc
    simp only [cond_true] at hc
    obtain rfl := Nat.eq_of_beq_eq_true hb
    split at hc
    · exact any_call (F_slices_SortStableFunc_int_s1_sim (K := K) hc)
    · cases hc
  | false =>
  rw [hb] at hc
  simp only [cond_false] at hc
  cases hb : Nat.beq f 35 with
  | true =>
    rw [hb] at hc
    simp only [cond_true] at hc
    obtain rfl := Nat.eq_of_beq_eq_true hb
    split at hc
    · exact any_call (F_slices_Backward_sim (K := K) hc)
    · cases hc
  | false =>
  rw [hb] at hc
  simp only [cond_false] at hc
  cases hb : Nat.beq f 36 with
  | true =>
    rw [hb] at hc
    simp only [cond_true] at hc
    obtain rfl := Nat.eq_of_beq_eq_true hb
    split at hc
    · exact any_call (F_bitio_Turn_sim (K := K) hc)
    · cases hc
  | false =>
  rw [hb] at hc
  simp only [cond_false] at hc
  cases hc
set_option maxRecDepth 100000 in
theorem F_sfano_Codes_sim {R : Nat} {r : β} {a1 : Sl} {h : GH} {K : Value → GH → Option β} (hc : F_sfano_Codes R a1 h (fun q0 q1 h' => K (Value.tuple #[Value.slice q0.a q0.n q0.c, Value.int .i64 q1]) h') = some r) : ∃ v h', K v h' = some r ∧ CallSim Try.prog 10 [Value.slice a1.a a1.n a1.c] h v h' := by
  unfold F_sfano_Codes G_sfano_Codes at hc
  obtain ⟨v, h', hk, hs⟩ := gfun_sim CF_sfano_Codes_sim mixed_ok backs_ok Try.func10 (by kernel_rfl) hc
  obtain ⟨vs, rfl, hl, hk⟩ := exTup_v hk
  obtain ⟨v0, t0, hk⟩ := exV_v hk
  obtain ⟨u0, e0, hk⟩ := exS_v hk; cases e0
  obtain ⟨v1, t1, hk⟩ := exV_v hk
  obtain ⟨u1, e1, hk⟩ := exI_v hk; cases e1
  obtain rfl := arr2 hl t0 t1
  exact ⟨_, h', hk, hs⟩
/-! F53 slices.Clone[[][2]int,[2]int] -/
def CF_slices_Clone_2_int  : Orc β := fun f args h K => none
def HF_slices_Clone_2_int : Hints := ⟨[], [], []⟩
noncomputable def G_slices_Clone_2_int  (R : Nat) (a1 : Sl) (h : GH) (K : Sl → GH → Option β) : Option β := gfun Try.prog (CF_slices_Clone_2_int ) HF_slices_Clone_2_int R Try.f53 [Value.slice a1.a a1.n a1.c] h (fun v h' => exS (some v) fun u7 => K u7 h')
set_option maxRecDepth 100000 in
theorem F_slices_Clone_2_int_gen  (R : Nat) (a1 : Sl) (h : GH) (K : Sl → GH → Option β) : G_slices_Clone_2_int  R a1 h K =
    (bif Option.isNone a1.a then K ⟨none, 0, 0⟩ h else gnew [] 2 h fun g2 h3 => gappS 2 16 ⟨(some ⟨g2, 0, none⟩), 0, 0⟩ a1 h3 fun s4 h5 => K s4 h5) := by kernel_rfl
noncomputable def F_slices_Clone_2_int (R : Nat) (a1 : Sl) (h : GH) (K : Sl → GH → Option β) : Option β := G_slices_Clone_2_int  R a1 h K
theorem CF_slices_Clone_2_int_sim : SimOrc Try.prog (CF_slices_Clone_2_int (β := β)) := by
  intro f args h K r hc
  cases hc
set_option maxRecDepth 100000 in
theorem F_slices_Clone_2_int_sim {R : Nat} {r : β} {a1 : Sl} {h : GH} {K : Value → GH → Option β} (hc : F_slices_Clone_2_int R a1 h (fun q0 h' => K (Value.slice q0.a q0.n q0.c) h') = some r) : ∃ v h', K v h' = some r ∧ CallSim Try.prog 53 [Value.slice a1.a a1.n a1.c] h v h' := by
  unfold F_slices_Clone_2_int G_slices_Clone_2_int at hc
  obtain ⟨v, h', hk, hs⟩ := gfun_sim CF_slices_Clone_2_int_sim mixed_ok (fun f h => by cases h) Try.func53 (by kernel_rfl) hc
  obtain ⟨u0, e0, hk⟩ := exS_v hk; cases e0
  exact ⟨_, h', hk, hs⟩
/-! F41 (*duffel/sfano.Decoder).add -/
def CF_sfano_Decoder_add (F_slices_Clone_2_int : Sl → GH → (Sl → GH → Option β) → Option β) : Orc β := fun f args h K => bif Nat.beq f 53 then (match args with | [.slice p1a p1n p1c] => F_slices_Clone_2_int ⟨p1a, p1n, p1c⟩ h (fun q6 h' => K (Value.slice q6.a q6.n q6.c) h') | _ => none) else none
def HF_sfano_Decoder_add : Hints := ⟨[(3, [0, 1, 5, 6, 7], [(0, [(0, .ty 43), (1, .ty 3), (5, .ty 15), (6, .ty 3)])], none)], [], []⟩
noncomputable def BF_sfano_Decoder_add : Code := match Try.f41.body with | some c => c | none => .skip
noncomputable def F_sfano_Decoder_add_l0 (F_slices_Clone_2_int : Sl → GH → (Sl → GH → Option β) → Option β) (R : Nat) (n : Nat) (y7 : Option Addr) (y8 : Int) (y9 : Option Addr) (y10 : Int) (y11 : Int) (h : GH) (K0 : Option Addr → Int → Option Addr → Int → GH → Option β) : Option β := gloop (gcode Try.prog (CF_sfano_Decoder_add F_slices_Clone_2_int) Try.f41.ntmps HF_sfano_Decoder_add R (at_ [true, true, false, true, false, false] BF_sfano_Decoder_add)) [0, 1, 5, 6, 7] n [(0, Value.pointer y7), (1, Value.int .i64 y8), (5, Value.pointer y9), (6, Value.int .i64 y10), (7, Value.int .i64 y11)] h (fun i e' h' => bif Nat.beq i 0 then (exP (some (e'.get 0)) fun u78 => exI .i64 (some (e'.get 1)) fun u79 => exP (some (e'.get 5)) fun u80 => exI .i64 (some (e'.get 6)) fun u81 => K0 u78 u79 u80 u81 h') else none) (fun e' h' => none)
set_option maxRecDepth 100000 in
theorem F_sfano_Decoder_add_l0_succ (F_slices_Clone_2_int : Sl → GH → (Sl → GH → Option β) → Option β) (R : Nat) (n : Nat) (y7 : Option Addr) (y8 : Int) (y9 : Option Addr) (y10 : Int) (y11 : Int) (h : GH) (K0 : Option Addr → Int → Option Addr → Int → GH → Option β) : F_sfano_Decoder_add_l0 F_slices_Clone_2_int R (n + 1) y7 y8 y9 y10 y11 h K0 =
    exA y9 fun g16 o17 => exI .i64 (h.cell ⟨g16, o17 + 1, none⟩) fun x18 => (bif decide (y11 < (IntKind.wrap .i64 (x18 - 1))) then exA y9 fun g19 o20 => exI .u32 (h.cell ⟨g19, o20 + 0, none⟩) fun x21 => (bif decide (y11 < 0) then none else exA y7 fun g22 o23 => exS (h.cell ⟨g22, o23 + 0, none⟩) fun x24 => exA x24.a fun g25 o26 => within y10 x24.n (within (IntKind.wrap .u32 (BitVec.ofInt (IntKind.bits .u32) (shrI .u32 x21 y11) &&& BitVec.ofInt (IntKind.bits .u32) 1).toNat) 2 (exI .i64 (h.cell ⟨g25, o26 + y10.toNat * 2 + (IntKind.wrap .u32 (BitVec.ofInt (IntKind.bits .u32) (shrI .u32 x21 y11) &&& BitVec.ofInt (IntKind.bits .u32) 1).toNat).toNat * 1, none⟩) fun x27 => (bif x27 == 0 then exA y7 fun g28 o29 => exS (h.cell ⟨g28, o29 + 0, none⟩) fun x30 => exA y7 fun g31 o32 => exS (h.cell ⟨g31, o32 + 0, none⟩) fun x33 => exA x30.a fun g34 o35 => within y10 x30.n (within (IntKind.wrap .u32 (BitVec.ofInt (IntKind.bits .u32) (shrI .u32 x21 y11) &&& BitVec.ofInt (IntKind.bits .u32) 1).toNat) 2 (gput g34 (o35 + y10.toNat * 2 + (IntKind.wrap .u32 (BitVec.ofInt (IntKind.bits .u32) (shrI .u32 x21 y11) &&& BitVec.ofInt (IntKind.bits .u32) 1).toNat).toNat * 1) [Value.int .i64 ((x33.n : Nat) : Int)] h fun h36 => exA y7 fun g37 o38 => exS (h36.cell ⟨g37, o38 + 0, none⟩) fun x39 => F_slices_Clone_2_int x39 h36 fun r40 h41 => gnew [Value.int .i64 0, Value.int .i64 0] 2 h41 fun g42 h43 => gappS 2 16 r40 ⟨(some ⟨g42, 0, none⟩), 1, 1⟩ h43 fun s44 h45 => exA y7 fun g46 o47 => gput g46 (o47 + 0) [Value.slice s44.a s44.n s44.c] h45 fun h48 => exA y7 fun g49 o50 => exS (h48.cell ⟨g49, o50 + 0, none⟩) fun x51 => exA x51.a fun g52 o53 => within y10 x51.n (within (IntKind.wrap .u32 (BitVec.ofInt (IntKind.bits .u32) (shrI .u32 x21 y11) &&& BitVec.ofInt (IntKind.bits .u32) 1).toNat) 2 (exI .i64 (h48.cell ⟨g52, o53 + y10.toNat * 2 + (IntKind.wrap .u32 (BitVec.ofInt (IntKind.bits .u32) (shrI .u32 x21 y11) &&& BitVec.ofInt (IntKind.bits .u32) 1).toNat).toNat * 1, none⟩) fun x54 => F_sfano_Decoder_add_l0 F_slices_Clone_2_int R n y7 y8 y9 x54 (IntKind.wrap .i64 (y11 + 1)) h48 K0)))) else exA y7 fun g55 o56 => exS (h.cell ⟨g55, o56 + 0, none⟩) fun x57 => exA x57.a fun g58 o59 => within y10 x57.n (within (IntKind.wrap .u32 (BitVec.ofInt (IntKind.bits .u32) (shrI .u32 x21 y11) &&& BitVec.ofInt (IntKind.bits .u32) 1).toNat) 2 (exI .i64 (h.cell ⟨g58, o59 + y10.toNat * 2 + (IntKind.wrap .u32 (BitVec.ofInt (IntKind.bits .u32) (shrI .u32 x21 y11) &&& BitVec.ofInt (IntKind.bits .u32) 1).toNat).toNat * 1, none⟩) fun x60 => F_sfano_Decoder_add_l0 F_slices_Clone_2_int R n y7 y8 y9 x60 (IntKind.wrap .i64 (y11 + 1)) h K0)))))) else K0 y7 y8 y9 y10 h) := by kernel_rfl
noncomputable def G_sfano_Decoder_add (F_slices_Clone_2_int : Sl → GH → (Sl → GH → Option β) → Option β) (R : Nat) (a1 : Option Addr) (a2 : Int) (a3 : Int) (a4 : Int) (h : GH) (K : GH → Option β) : Option β := gfun Try.prog (CF_sfano_Decoder_add F_slices_Clone_2_int) HF_sfano_Decoder_add R Try.f41 [Value.pointer a1, Value.int .i64 a2, Value.agg #[Value.int .u32 a3, Value.int .i64 a4]] h (fun _ h' => K h')
set_option maxRecDepth 100000 in
theorem F_sfano_Decoder_add_gen (F_slices_Clone_2_int : Sl → GH → (Sl → GH → Option β) → Option β) (R : Nat) (a1 : Option Addr) (a2 : Int) (a3 : Int) (a4 : Int) (h : GH) (K : GH → Option β) : G_sfano_Decoder_add F_slices_Clone_2_int R a1 a2 a3 a4 h K =
    gnew [Value.int .u32 a3, Value.int .i64 a4] 0 h fun g5 h6 => F_sfano_Decoder_add_l0 F_slices_Clone_2_int R R a1 a2 (some ⟨g5, 0, none⟩) 0 0 h6 (fun w61 w62 w63 w64 h65 => exA w61 fun g66 o67 => exS (h65.cell ⟨g66, o67 + 0, none⟩) fun x68 => exA w63 fun g69 o70 => exI .u32 (h65.cell ⟨g69, o70 + 0, none⟩) fun x71 => exA w63 fun g72 o73 => exI .i64 (h65.cell ⟨g72, o73 + 1, none⟩) fun x74 => (bif decide ((IntKind.wrap .i64 (x74 - 1)) < 0) then none else exA x68.a fun g75 o76 => within w64 x68.n (within (IntKind.wrap .u32 (BitVec.ofInt (IntKind.bits .u32) (shrI .u32 x71 (IntKind.wrap .i64 (x74 - 1))) &&& BitVec.ofInt (IntKind.bits .u32) 1).toNat) 2 (gput g75 (o76 + w64.toNat * 2 + (IntKind.wrap .u32 (BitVec.ofInt (IntKind.bits .u32) (shrI .u32 x71 (IntKind.wrap .i64 (x74 - 1))) &&& BitVec.ofInt (IntKind.bits .u32) 1).toNat).toNat * 1) [Value.int .i64 (IntKind.wrap .i64 ((-1) - w62))] h65 fun h77 => K h77)))) := by kernel_rfl
noncomputable def F_sfano_Decoder_add (R : Nat) (a1 : Option Addr) (a2 : Int) (a3 : Int) (a4 : Int) (h : GH) (K : GH → Option β) : Option β := G_sfano_Decoder_add (F_slices_Clone_2_int R) R a1 a2 a3 a4 h K
set_option maxRecDepth 100000 in
theorem CF_sfano_Decoder_add_sim {R : Nat} : SimOrc Try.prog (CF_sfano_Decoder_add (F_slices_Clone_2_int R) (β := β)) := by
  intro f args h K r hc
  unfold CF_sfano_Decoder_add at hc
  cases hb : Nat.beq f 53 with
  | true =>
    rw [hb] at hc
    simp only [cond_true] at hc
    obtain rfl := Nat.eq_of_beq_eq_true hb
    split at hc
    · exact any_call (F_slices_Clone_2_int_sim (K := K) hc)
    · cases hc
  | false =>
  rw [hb] at hc
  simp only [cond_false] at hc
  cases hc
set_option maxRecDepth 100000 in
theorem F_sfano_Decoder_add_sim {R : Nat} {r : β} {a1 : Option Addr} {a2 : Int} {a3 : Int} {a4 : Int} {h : GH} {K : Value → GH → Option β} (hc : F_sfano_Decoder_add R a1 a2 a3 a4 h (fun h' => K (Value.tuple #[]) h') = some r) : ∃ v h', K v h' = some r ∧ CallSim Try.prog 41 [Value.pointer a1, Value.int .i64 a2, Value.agg #[Value.int .u32 a3, Value.int .i64 a4]] h v h' := by
  unfold F_sfano_Decoder_add G_sfano_Decoder_add at hc
  obtain ⟨v, h', hk, hs⟩ := gfun_sim CF_sfano_Decoder_add_sim mixed_ok (fun f h => by cases h) Try.func41 (by kernel_rfl) hc
  exact ⟨_, h', hk, hs.unit⟩
/-! F17 duffel/sfano.New -/
def CF_sfano_New (F_sfano_Codes : Sl → GH → (Sl → Int → GH → Option β) → Option β) (F_sfano_Decoder_add : Option Addr → Int → Int → Int → GH → (GH → Option β) → Option β) : Orc β := fun f args h K => bif Nat.beq f 10 then (match args with | [.slice p1a p1n p1c] => F_sfano_Codes ⟨p1a, p1n, p1c⟩ h (fun q86 q87 h' => K (Value.tuple #[Value.slice q86.a q86.n q86.c, Value.int .i64 q87]) h') | _ => none) else (bif Nat.beq f 41 then (match args with | [.pointer p1, .int .i64 p2, .agg ⟨[.int .u32 p3, .int .i64 p4]⟩] => F_sfano_Decoder_add p1 p2 p3 p4 h (fun h' => K (Value.tuple #[]) h') | _ => none) else none)
def HF_sfano_New : Hints := ⟨[(6, [6, 20, 21, 22], [(0, [(6, .ty 43)])], none)], [], []⟩
noncomputable def BF_sfano_New : Code := match Try.f17.body with | some c => c | none => .skip
noncomputable def F_sfano_New_l0 (F_sfano_Codes : Sl → GH → (Sl → Int → GH → Option β) → Option β) (F_sfano_Decoder_add : Option Addr → Int → Int → Int → GH → (GH → Option β) → Option β) (R : Nat) (n : Nat) (y9 : Option Addr) (y10 : Sl) (y11 : Int) (y12 : Int) (h : GH) (K0 : Option Addr → GH → Option β) : Option β := gloop (gcode Try.prog (CF_sfano_New F_sfano_Codes F_sfano_Decoder_add) Try.f17.ntmps HF_sfano_New R (at_ [true, true, true, true, false, true, false, false] BF_sfano_New)) [6, 20, 21, 22] n [(6, Value.pointer y9), (20, Value.slice y10.a y10.n y10.c), (21, Value.int .i64 y11), (22, Value.int .i64 y12)] h (fun i e' h' => bif Nat.beq i 0 then (exP (some (e'.get 6)) fun u28 => K0 u28 h') else none) (fun e' h' => none)
set_option maxRecDepth 100000 in
theorem F_sfano_New_l0_succ (F_sfano_Codes : Sl → GH → (Sl → Int → GH → Option β) → Option β) (F_sfano_Decoder_add : Option Addr → Int → Int → Int → GH → (GH → Option β) → Option β) (R : Nat) (n : Nat) (y9 : Option Addr) (y10 : Sl) (y11 : Int) (y12 : Int) (h : GH) (K0 : Option Addr → GH → Option β) : F_sfano_New_l0 F_sfano_Codes F_sfano_Decoder_add R (n + 1) y9 y10 y11 y12 h K0 =
    (bif decide (y12 < y11) then exA y10.a fun g14 o15 => within y12 y10.n (exI .u32 (h.cell ⟨g14, o15 + y12.toNat * 2, none⟩) fun x16 => exI .i64 (h.cell ⟨g14, o15 + y12.toNat * 2 + 1, none⟩) fun x17 => gnew [Value.int .u32 0, Value.int .i64 0] 0 h fun g18 h19 => gput g18 (0) [Value.int .u32 x16, Value.int .i64 x17] h19 fun h20 => exI .u32 (h20.cell ⟨g18, 0, none⟩) fun x21 => exI .i64 (h20.cell ⟨g18, 0 + 1, none⟩) fun x22 => F_sfano_Decoder_add y9 y12 x21 x22 h20 fun h23 => F_sfano_New_l0 F_sfano_Codes F_sfano_Decoder_add R n y9 y10 y11 (IntKind.wrap .i64 (y12 + 1)) h23 K0) else K0 y9 h) := by kernel_rfl
noncomputable def G_sfano_New (F_sfano_Codes : Sl → GH → (Sl → Int → GH → Option β) → Option β) (F_sfano_Decoder_add : Option Addr → Int → Int → Int → GH → (GH → Option β) → Option β) (R : Nat) (a1 : Sl) (h : GH) (K : Option Addr → Int → GH → Option β) : Option β := gfun Try.prog (CF_sfano_New F_sfano_Codes F_sfano_Decoder_add) HF_sfano_New R Try.f17 [Value.slice a1.a a1.n a1.c] h (fun v h' => exTup 2 v fun vs => exV (nth vs 0) fun v0 => exP (some v0) fun u29 => exV (nth vs 1) fun v1 => exI .i64 (some v1) fun u30 => K u29 u30 h')
set_option maxRecDepth 100000 in
theorem F_sfano_New_gen (F_sfano_Codes : Sl → GH → (Sl → Int → GH → Option β) → Option β) (F_sfano_Decoder_add : Option Addr → Int → Int → Int → GH → (GH → Option β) → Option β) (R : Nat) (a1 : Sl) (h : GH) (K : Option Addr → Int → GH → Option β) : G_sfano_New F_sfano_Codes F_sfano_Decoder_add R a1 h K =
    F_sfano_Codes a1 h fun r2 r3 h4 => (bif r3 != 0 then K none r3 h4 else gmake 2 16 (Value.agg #[Value.int .i64 0, Value.int .i64 0]) 1 1 h4 fun s5 h6 => gnew [Value.slice s5.a s5.n s5.c] 0 h6 fun g7 h8 => F_sfano_New_l0 F_sfano_Codes F_sfano_Decoder_add R R (some ⟨g7, 0, none⟩) r2 ((r2.n : Nat) : Int) 0 h8 (fun w24 h25 => K w24 0 h25)) := by kernel_rfl
noncomputable def F_sfano_New (R : Nat) (a1 : Sl) (h : GH) (K : Option Addr → Int → GH → Option β) : Option β := G_sfano_New (F_sfano_Codes R) (F_sfano_Decoder_add R) R a1 h K
set_option maxRecDepth 100000 in
theorem CF_sfano_New_sim {R : Nat} : SimOrc Try.prog (CF_sfano_New (F_sfano_Codes R) (F_sfano_Decoder_add R) (β := β)) := by
  intro f args h K r hc
  unfold CF_sfano_New at hc
  cases hb : Nat.beq f 10 with
  | true =>
    rw [hb] at hc
    simp only [cond_true] at hc
    obtain rfl := Nat.eq_of_beq_eq_true hb
    split at hc
    · exact any_call (F_sfano_Codes_sim (K := K) hc)
    · cases hc
  | false =>
  rw [hb] at hc
  simp only [cond_false] at hc
  cases hb : Nat.beq f 41 with
  | true =>
    rw [hb] at hc
    simp only [cond_true] at hc
    obtain rfl := Nat.eq_of_beq_eq_true hb
    split at hc
    · exact any_call (F_sfano_Decoder_add_sim (K := K) hc)
    · cases hc
  | false =>
  rw [hb] at hc
  simp only [cond_false] at hc
  cases hc
set_option maxRecDepth 100000 in
theorem F_sfano_New_sim {R : Nat} {r : β} {a1 : Sl} {h : GH} {K : Value → GH → Option β} (hc : F_sfano_New R a1 h (fun q0 q1 h' => K (Value.tuple #[Value.pointer q0, Value.int .i64 q1]) h') = some r) : ∃ v h', K v h' = some r ∧ CallSim Try.prog 17 [Value.slice a1.a a1.n a1.c] h v h' := by
  unfold F_sfano_New G_sfano_New at hc
  obtain ⟨v, h', hk, hs⟩ := gfun_sim CF_sfano_New_sim mixed_ok (fun f h => by cases h) Try.func17 (by kernel_rfl) hc
  obtain ⟨vs, rfl, hl, hk⟩ := exTup_v hk
  obtain ⟨v0, t0, hk⟩ := exV_v hk
  obtain ⟨u0, e0, hk⟩ := exP_v hk; cases e0
  obtain ⟨v1, t1, hk⟩ := exV_v hk
  obtain ⟨u1, e1, hk⟩ := exI_v hk; cases e1
  obtain rfl := arr2 hl t0 t1
  exact ⟨_, h', hk, hs⟩
/-! F26 duffel/duffelref01.Within -/
def CF_ref01_Within  : Orc β := fun f args h K => none
def HF_ref01_Within : Hints := ⟨[], [], []⟩
noncomputable def G_ref01_Within  (R : Nat) (a1 : Int) (a2 : Int) (a3 : Int) (h : GH) (K : Int → GH → Option β) : Option β := gfun Try.prog (CF_ref01_Within ) HF_ref01_Within R Try.f26 [Value.int .i64 a1, Value.int .i64 a2, Value.int .i64 a3] h (fun v h' => exI .i64 (some v) fun u5 => K u5 h')
set_option maxRecDepth 100000 in
theorem F_ref01_Within_gen  (R : Nat) (a1 : Int) (a2 : Int) (a3 : Int) (h : GH) (K : Int → GH → Option β) : G_ref01_Within  R a1 a2 a3 h K =
    (bif decide (a1 < a2) then K a2 h else (bif decide (a1 > a3) then K a3 h else K a1 h)) := by kernel_rfl
noncomputable def F_ref01_Within (R : Nat) (a1 : Int) (a2 : Int) (a3 : Int) (h : GH) (K : Int → GH → Option β) : Option β := G_ref01_Within  R a1 a2 a3 h K
theorem CF_ref01_Within_sim : SimOrc Try.prog (CF_ref01_Within (β := β)) := by
  intro f args h K r hc
  cases hc
set_option maxRecDepth 100000 in
theorem F_ref01_Within_sim {R : Nat} {r : β} {a1 : Int} {a2 : Int} {a3 : Int} {h : GH} {K : Value → GH → Option β} (hc : F_ref01_Within R a1 a2 a3 h (fun q0 h' => K (Value.int .i64 q0) h') = some r) : ∃ v h', K v h' = some r ∧ CallSim Try.prog 26 [Value.int .i64 a1, Value.int .i64 a2, Value.int .i64 a3] h v h' := by
  unfold F_ref01_Within G_ref01_Within at hc
  obtain ⟨v, h', hk, hs⟩ := gfun_sim CF_ref01_Within_sim mixed_ok (fun f h => by cases h) Try.func26 (by kernel_rfl) hc
  obtain ⟨u0, e0, hk⟩ := exI_v hk; cases e0
  exact ⟨_, h', hk, hs⟩
/-! F25 duffel/sfano.Unpack -/
def CF_sfano_Unpack (F_bitio_Reader_Bits : Option Addr → Int → GH → (Int → GH → Option β) → Option β) (F_bitio_Reader_Err : Option Addr → GH → (Int → GH → Option β) → Option β) : Orc β := fun f args h K => bif Nat.beq f 46 then (match args with | [.pointer p1, .int .i64 p2] => F_bitio_Reader_Bits p1 p2 h (fun q21 h' => K (Value.int .u32 q21) h') | _ => none) else (bif Nat.beq f 44 then (match args with | [.pointer p1] => F_bitio_Reader_Err p1 h (fun q8 h' => K (Value.int .i64 q8) h') | _ => none) else none)
def HF_sfano_Unpack : Hints := ⟨[(6, [0, 1, 6, 7, 8], [(0, [(0, .ty 49), (1, .ty 3), (7, .ty 22)])], none), (10, [0, 1, 6, 7, 8, 9, 35, 36], [(2, [(0, .ty 49), (1, .ty 3), (6, .ty 3), (7, .ty 22), (8, .ty 3)])], none)], [], []⟩
noncomputable def BF_sfano_Unpack : Code := match Try.f25.body with | some c => c | none => .skip
noncomputable def F_sfano_Unpack_l0 (F_bitio_Reader_Bits : Option Addr → Int → GH → (Int → GH → Option β) → Option β) (F_bitio_Reader_Err : Option Addr → GH → (Int → GH → Option β) → Option β) (R : Nat) (n : Nat) (y5 : Option Addr) (y6 : Int) (y7 : Int) (y8 : Sl) (y9 : Int) (h : GH) (K0 : Option Addr → Int → Sl → GH → Option β) : Option β := gloop (gcode Try.prog (CF_sfano_Unpack F_bitio_Reader_Bits F_bitio_Reader_Err) Try.f25.ntmps HF_sfano_Unpack R (at_ [true, true, true, true, false, true, false, false] BF_sfano_Unpack)) [0, 1, 6, 7, 8] n [(0, Value.pointer y5), (1, Value.int .i64 y6), (6, Value.int .i64 y7), (7, Value.slice y8.a y8.n y8.c), (8, Value.int .i64 y9)] h (fun i e' h' => bif Nat.beq i 0 then (exP (some (e'.get 0)) fun u50 => exI .i64 (some (e'.get 1)) fun u51 => exS (some (e'.get 7)) fun u52 => K0 u50 u51 u52 h') else none) (fun e' h' => none)
noncomputable def F_sfano_Unpack_l1 (F_bitio_Reader_Bits : Option Addr → Int → GH → (Int → GH → Option β) → Option β) (F_bitio_Reader_Err : Option Addr → GH → (Int → GH → Option β) → Option β) (R : Nat) (n : Nat) (y17 : Option Addr) (y18 : Int) (y19 : Int) (y20 : Sl) (y21 : Int) (y22 : Int) (y23 : Int) (y24 : Int) (h : GH) (K2 : Option Addr → Int → Int → Sl → Int → GH → Option β) : Option β := gloop (gcode Try.prog (CF_sfano_Unpack F_bitio_Reader_Bits F_bitio_Reader_Err) Try.f25.ntmps HF_sfano_Unpack R (at_ [true, true, true, true, false, true, false, false, true, false, false, true, true, false, false] BF_sfano_Unpack)) [0, 1, 6, 7, 8, 9, 35, 36] n [(0, Value.pointer y17), (1, Value.int .i64 y18), (6, Value.int .i64 y19), (7, Value.slice y20.a y20.n y20.c), (8, Value.int .i64 y21), (9, Value.int .i64 y22), (35, Value.int .i64 y23), (36, Value.int .i64 y24)] h (fun i e' h' => bif Nat.beq i 2 then (exP (some (e'.get 0)) fun u53 => exI .i64 (some (e'.get 1)) fun u54 => exI .i64 (some (e'.get 6)) fun u55 => exS (some (e'.get 7)) fun u56 => exI .i64 (some (e'.get 8)) fun u57 => K2 u53 u54 u55 u56 u57 h') else none) (fun e' h' => none)
set_option maxRecDepth 100000 in
theorem F_sfano_Unpack_l1_succ (F_bitio_Reader_Bits : Option Addr → Int → GH → (Int → GH → Option β) → Option β) (F_bitio_Reader_Err : Option Addr → GH → (Int → GH → Option β) → Option β) (R : Nat) (n : Nat) (y17 : Option Addr) (y18 : Int) (y19 : Int) (y20 : Sl) (y21 : Int) (y22 : Int) (y23 : Int) (y24 : Int) (h : GH) (K2 : Option Addr → Int → Int → Sl → Int → GH → Option β) : F_sfano_Unpack_l1 F_bitio_Reader_Bits F_bitio_Reader_Err R (n + 1) y17 y18 y19 y20 y21 y22 y23 y24 h K2 =
    (bif decide (y24 < y23) then gnew [Value.int .i64 (IntKind.wrap .i64 ((IntKind.wrap .i64 (BitVec.ofInt (IntKind.bits .i64) y22 &&& BitVec.ofInt (IntKind.bits .i64) 15).toNat) + 1))] 1 h fun g30 h31 => gappS 1 8 y20 ⟨(some ⟨g30, 0, none⟩), 1, 1⟩ h31 fun s32 h33 => F_sfano_Unpack_l1 F_bitio_Reader_Bits F_bitio_Reader_Err R n y17 y18 y19 s32 y21 y22 y23 (IntKind.wrap .i64 (y24 + 1)) h33 K2 else K2 y17 y18 y19 y20 y21 h) := by kernel_rfl
set_option maxRecDepth 100000 in
theorem F_sfano_Unpack_l0_succ (F_bitio_Reader_Bits : Option Addr → Int → GH → (Int → GH → Option β) → Option β) (F_bitio_Reader_Err : Option Addr → GH → (Int → GH → Option β) → Option β) (R : Nat) (n : Nat) (y5 : Option Addr) (y6 : Int) (y7 : Int) (y8 : Sl) (y9 : Int) (h : GH) (K0 : Option Addr → Int → Sl → GH → Option β) : F_sfano_Unpack_l0 F_bitio_Reader_Bits F_bitio_Reader_Err R (n + 1) y5 y6 y7 y8 y9 h K0 =
    (bif decide (y9 < y7) then F_bitio_Reader_Err y5 h fun r13 h14 => (bif r13 == 0 then F_bitio_Reader_Bits y5 8 h14 fun r15 h16 => F_sfano_Unpack_l1 F_bitio_Reader_Bits F_bitio_Reader_Err R R y5 y6 y7 y8 y9 (IntKind.wrap .i64 r15) (IntKind.wrap .i64 ((shrI .i64 (IntKind.wrap .i64 r15) 4) + 1)) 0 h16 (fun w34 w35 w36 w37 w38 h39 => F_sfano_Unpack_l0 F_bitio_Reader_Bits F_bitio_Reader_Err R n w34 w35 w36 w37 (IntKind.wrap .i64 (w38 + 1)) h39 K0) else K0 y5 y6 y8 h14) else K0 y5 y6 y8 h) := by kernel_rfl
noncomputable def G_sfano_Unpack (F_bitio_Reader_Bits : Option Addr → Int → GH → (Int → GH → Option β) → Option β) (F_bitio_Reader_Err : Option Addr → GH → (Int → GH → Option β) → Option β) (R : Nat) (a1 : Option Addr) (a2 : Int) (h : GH) (K : Sl → Int → GH → Option β) : Option β := gfun Try.prog (CF_sfano_Unpack F_bitio_Reader_Bits F_bitio_Reader_Err) HF_sfano_Unpack R Try.f25 [Value.pointer a1, Value.int .i64 a2] h (fun v h' => exTup 2 v fun vs => exV (nth vs 0) fun v0 => exS (some v0) fun u58 => exV (nth vs 1) fun v1 => exI .i64 (some v1) fun u59 => K u58 u59 h')
set_option maxRecDepth 100000 in
theorem F_sfano_Unpack_gen (F_bitio_Reader_Bits : Option Addr → Int → GH → (Int → GH → Option β) → Option β) (F_bitio_Reader_Err : Option Addr → GH → (Int → GH → Option β) → Option β) (R : Nat) (a1 : Option Addr) (a2 : Int) (h : GH) (K : Sl → Int → GH → Option β) : G_sfano_Unpack F_bitio_Reader_Bits F_bitio_Reader_Err R a1 a2 h K =
    (bif decide (a2 < 1) then K ⟨none, 0, 0⟩ 2 h else (bif decide (a2 > 256) then K ⟨none, 0, 0⟩ 2 h else F_bitio_Reader_Bits a1 8 h fun r3 h4 => F_sfano_Unpack_l0 F_bitio_Reader_Bits F_bitio_Reader_Err R R a1 a2 (IntKind.wrap .i64 ((IntKind.wrap .i64 r3) + 1)) ⟨none, 0, 0⟩ 0 h4 (fun w40 w41 w42 h43 => F_bitio_Reader_Err w40 h43 fun r44 h45 => (bif r44 != 0 then F_bitio_Reader_Err w40 h45 fun r46 h47 => K ⟨none, 0, 0⟩ r46 h47 else (bif ((w42.n : Nat) : Int) != w41 then K ⟨none, 0, 0⟩ 6 h45 else K w42 0 h45))))) := by kernel_rfl
noncomputable def F_sfano_Unpack (R : Nat) (a1 : Option Addr) (a2 : Int) (h : GH) (K : Sl → Int → GH → Option β) : Option β := G_sfano_Unpack (F_bitio_Reader_Bits R) (F_bitio_Reader_Err R) R a1 a2 h K
set_option maxRecDepth 100000 in
theorem CF_sfano_Unpack_sim {R : Nat} : SimOrc Try.prog (CF_sfano_Unpack (F_bitio_Reader_Bits R) (F_bitio_Reader_Err R) (β := β)) := by
  intro f args h K r hc
  unfold CF_sfano_Unpack at hc
  cases hb : Nat.beq f 46 with
  | true =>
    rw [hb] at hc
    simp only [cond_true] at hc
    obtain rfl := Nat.eq_of_beq_eq_true hb
    split at hc
    · exact any_call (F_bitio_Reader_Bits_sim (K := K) hc)
    · cases hc
  | false =>
  rw [hb] at hc
  simp only [cond_false] at hc
  cases hb : Nat.beq f 44 with
  | true =>
    rw [hb] at hc
    simp only [cond_true] at hc
    obtain rfl := Nat.eq_of_beq_eq_true hb
    split at hc
    · exact any_call (F_bitio_Reader_Err_sim (K := K) hc)
    · cases hc
  | false =>
  rw [hb] at hc
  simp only [cond_false] at hc
  cases hc
set_option maxRecDepth 100000 in
theorem F_sfano_Unpack_sim {R : Nat} {r : β} {a1 : Option Addr} {a2 : Int} {h : GH} {K : Value → GH → Option β} (hc : F_sfano_Unpack R a1 a2 h (fun q0 q1 h' => K (Value.tuple #[Value.slice q0.a q0.n q0.c, Value.int .i64 q1]) h') = some r) : ∃ v h', K v h' = some r ∧ CallSim Try.prog 25 [Value.pointer a1, Value.int .i64 a2] h v h' := by
  unfold F_sfano_Unpack G_sfano_Unpack at hc
  obtain ⟨v, h', hk, hs⟩ := gfun_sim CF_sfano_Unpack_sim mixed_ok (fun f h => by cases h) Try.func25 (by kernel_rfl) hc
  obtain ⟨vs, rfl, hl, hk⟩ := exTup_v hk
  obtain ⟨v0, t0, hk⟩ := exV_v hk
  obtain ⟨u0, e0, hk⟩ := exS_v hk; cases e0
  obtain ⟨v1, t1, hk⟩ := exV_v hk
  obtain ⟨u1, e1, hk⟩ := exI_v hk; cases e1
  obtain rfl := arr2 hl t0 t1
  exact ⟨_, h', hk, hs⟩
/-! F7 duffel/duffellaw06.SfanoNobody -/
def CF_law06_SfanoNobody (F_bitio_Open : Sl → GH → (Option Addr → GH → Option β) → Option β) (F_sfano_Decoder_Next : Option Addr → Option Addr → GH → (Int → Int → GH → Option β) → Option β) (F_sfano_New : Sl → GH → (Option Addr → Int → GH → Option β) → Option β) (F_ref01_Within : Int → Int → Int → GH → (Int → GH → Option β) → Option β) (F_sfano_Unpack : Option Addr → Int → GH → (Sl → Int → GH → Option β) → Option β) (F_law06_lives : GH → (Bool → GH → Option β) → Option β) : Orc β := fun f args h K => bif Nat.beq f 21 then (match args with | [.slice p1a p1n p1c] => F_bitio_Open ⟨p1a, p1n, p1c⟩ h (fun q6 h' => K (Value.pointer q6) h') | _ => none) else (bif Nat.beq f 22 then (match args with | [.pointer p1, .pointer p2] => F_sfano_Decoder_Next p1 p2 h (fun q24 q25 h' => K (Value.tuple #[Value.int .i64 q24, Value.int .i64 q25]) h') | _ => none) else (bif Nat.beq f 17 then (match args with | [.slice p1a p1n p1c] => F_sfano_New ⟨p1a, p1n, p1c⟩ h (fun q26 q27 h' => K (Value.tuple #[Value.pointer q26, Value.int .i64 q27]) h') | _ => none) else (bif Nat.beq f 26 then (match args with | [.int .i64 p1, .int .i64 p2, .int .i64 p3] => F_ref01_Within p1 p2 p3 h (fun q4 h' => K (Value.int .i64 q4) h') | _ => none) else (bif Nat.beq f 25 then (match args with | [.pointer p1, .int .i64 p2] => F_sfano_Unpack p1 p2 h (fun q48 q49 h' => K (Value.tuple #[Value.slice q48.a q48.n q48.c, Value.int .i64 q49]) h') | _ => none) else (bif Nat.beq f 11 then (match args with | [] => F_law06_lives  h (fun q1 h' => K (Value.bool q1) h') | _ => none) else none)))))
def HF_law06_SfanoNobody : Hints := ⟨[], [], []⟩
noncomputable def G_law06_SfanoNobody (F_bitio_Open : Sl → GH → (Option Addr → GH → Option β) → Option β) (F_sfano_Decoder_Next : Option Addr → Option Addr → GH → (Int → Int → GH → Option β) → Option β) (F_sfano_New : Sl → GH → (Option Addr → Int → GH → Option β) → Option β) (F_ref01_Within : Int → Int → Int → GH → (Int → GH → Option β) → Option β) (F_sfano_Unpack : Option Addr → Int → GH → (Sl → Int → GH → Option β) → Option β) (F_law06_lives : GH → (Bool → GH → Option β) → Option β) (R : Nat) (a1 : Int) (h : GH) (K : Bool → GH → Option β) : Option β := gfun Try.prog (CF_law06_SfanoNobody F_bitio_Open F_sfano_Decoder_Next F_sfano_New F_ref01_Within F_sfano_Unpack F_law06_lives) HF_law06_SfanoNobody R Try.f7 [Value.int .i64 a1] h (fun v h' => exB (some v) fun u30 => K u30 h')
set_option maxRecDepth 100000 in
theorem F_law06_SfanoNobody_gen (F_bitio_Open : Sl → GH → (Option Addr → GH → Option β) → Option β) (F_sfano_Decoder_Next : Option Addr → Option Addr → GH → (Int → Int → GH → Option β) → Option β) (F_sfano_New : Sl → GH → (Option Addr → Int → GH → Option β) → Option β) (F_ref01_Within : Int → Int → Int → GH → (Int → GH → Option β) → Option β) (F_sfano_Unpack : Option Addr → Int → GH → (Sl → Int → GH → Option β) → Option β) (F_law06_lives : GH → (Bool → GH → Option β) → Option β) (R : Nat) (a1 : Int) (h : GH) (K : Bool → GH → Option β) : G_law06_SfanoNobody F_bitio_Open F_sfano_Decoder_Next F_sfano_New F_ref01_Within F_sfano_Unpack F_law06_lives R a1 h K =
    gnew [Value.slice none 0 0] 0 h fun g2 h3 => gnew [Value.int .u8 1] 1 h3 fun g4 h5 => F_bitio_Open ⟨(some ⟨g4, 0, none⟩), 1, 1⟩ h5 fun r6 h7 => F_sfano_Decoder_Next none r6 h7 fun r8 r9 h10 => F_sfano_Decoder_Next (some ⟨g2, 0, none⟩) r6 h10 fun r11 r12 h13 => gnew [Value.int .i64 1, Value.int .i64 1] 1 h13 fun g14 h15 => F_sfano_New ⟨(some ⟨g14, 0, none⟩), 2, 2⟩ h15 fun r16 r17 h18 => (bif r8 != (-1) then K false h18 else (bif r11 != (-1) then K false h18 else (bif r9 != 1 then K false h18 else (bif r12 != 1 then K false h18 else (bif r17 != 0 then K false h18 else F_sfano_Decoder_Next r16 none h18 fun r19 r20 h21 => F_ref01_Within a1 1 256 h21 fun r22 h23 => F_sfano_Unpack none r22 h23 fun r24 r25 h26 => (bif r19 == (-1) then (bif r20 == 1 then (bif ((r24.n : Nat) : Int) == 0 then (bif r25 == 1 then F_law06_lives h26 fun r27 h28 => K r27 h28 else K false h26) else K false h26) else K false h26) else K false h26)))))) := by kernel_rfl
noncomputable def F_law06_SfanoNobody (R : Nat) (a1 : Int) (h : GH) (K : Bool → GH → Option β) : Option β := G_law06_SfanoNobody (F_bitio_Open R) (F_sfano_Decoder_Next R) (F_sfano_New R) (F_ref01_Within R) (F_sfano_Unpack R) F_law06_lives R a1 h K
set_option maxRecDepth 100000 in
theorem CF_law06_SfanoNobody_sim {R : Nat} : SimOrc Try.prog (CF_law06_SfanoNobody (F_bitio_Open R) (F_sfano_Decoder_Next R) (F_sfano_New R) (F_ref01_Within R) (F_sfano_Unpack R) F_law06_lives (β := β)) := by
  intro f args h K r hc
  unfold CF_law06_SfanoNobody at hc
  cases hb : Nat.beq f 21 with
  | true =>
    rw [hb] at hc
    simp only [cond_true] at hc
    obtain rfl := Nat.eq_of_beq_eq_true hb
    split at hc
    · exact any_call (F_bitio_Open_sim (K := K) hc)
    · cases hc
  | false =>
  rw [hb] at hc
  simp only [cond_false] at hc
  cases hb : Nat.beq f 22 with
  | true =>
    rw [hb] at hc
    simp only [cond_true] at hc
    obtain rfl := Nat.eq_of_beq_eq_true hb
    split at hc
    · exact any_call (F_sfano_Decoder_Next_sim (K := K) hc)
    · cases hc
  | false =>
  rw [hb] at hc
  simp only [cond_false] at hc
  cases hb : Nat.beq f 17 with
  | true =>
    rw [hb] at hc
    simp only [cond_true] at hc
    obtain rfl := Nat.eq_of_beq_eq_true hb
    split at hc
    · exact any_call (F_sfano_New_sim (K := K) hc)
    · cases hc
  | false =>
  rw [hb] at hc
  simp only [cond_false] at hc
  cases hb : Nat.beq f 26 with
  | true =>
    rw [hb] at hc
    simp only [cond_true] at hc
    obtain rfl := Nat.eq_of_beq_eq_true hb
    split at hc
    · exact any_call (F_ref01_Within_sim (K := K) hc)
    · cases hc
  | false =>
  rw [hb] at hc
  simp only [cond_false] at hc
  cases hb : Nat.beq f 25 with
  | true =>
    rw [hb] at hc
    simp only [cond_true] at hc
    obtain rfl := Nat.eq_of_beq_eq_true hb
    split at hc
    · exact any_call (F_sfano_Unpack_sim (K := K) hc)
    · cases hc
  | false =>
  rw [hb] at hc
  simp only [cond_false] at hc
  cases hb : Nat.beq f 11 with
  | true =>
    rw [hb] at hc
    simp only [cond_true] at hc
    obtain rfl := Nat.eq_of_beq_eq_true hb
    split at hc
    · exact any_call (F_law06_lives_sim (K := K) hc)
    · cases hc
  | false =>
  rw [hb] at hc
  simp only [cond_false] at hc
  cases hc
set_option maxRecDepth 100000 in
theorem F_law06_SfanoNobody_sim {R : Nat} {r : β} {a1 : Int} {h : GH} {K : Value → GH → Option β} (hc : F_law06_SfanoNobody R a1 h (fun q0 h' => K (Value.bool q0) h') = some r) : ∃ v h', K v h' = some r ∧ CallSim Try.prog 7 [Value.int .i64 a1] h v h' := by
  unfold F_law06_SfanoNobody G_law06_SfanoNobody at hc
  obtain ⟨v, h', hk, hs⟩ := gfun_sim CF_law06_SfanoNobody_sim mixed_ok (fun f h => by cases h) Try.func7 (by kernel_rfl) hc
  obtain ⟨u0, e0, hk⟩ := exB_v hk; cases e0
  exact ⟨_, h', hk, hs⟩

end
end Go.Proofs.Ytephmpbccajaaaa.Gx
