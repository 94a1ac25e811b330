/- Functions of the program as the plain machine has them, each with its equation. Printed by a program of this place (wip/gx/gx.py) out of the translation. No condition. -/
import Derived.Test.YtephmpbccajaaaaGxQ
import Derived.Test.YtephmpbccajaaaaProg
import Derived.Test.YtephmpbccajaaaaGx0
namespace Go.Proofs.Ytephmpbccajaaaa.Gx
open Go
set_option linter.unusedVariables false
section
variable {β : Type}
/-! F12 duffel/duffelref01.Turn -/
def CF_ref01_Turn  : Orc β := fun f args h K => none
def HF_ref01_Turn : Hints := ⟨[(3, [0, 1, 5, 6], [(0, [(5, .ty 29)])], none)], [], []⟩
noncomputable def BF_ref01_Turn : Code := match Try.f12.body with | some c => c | none => .skip
noncomputable def F_ref01_Turn_l0  (R : Nat) (n : Nat) (y3 : Int) (y4 : Int) (y5 : Int) (y6 : Int) (h : GH) (K0 : Int → GH → Option β) : Option β := gloop (gcode Try.prog (CF_ref01_Turn ) Try.f12.ntmps HF_ref01_Turn R (at_ [true, true, false, true, false, false] BF_ref01_Turn)) [0, 1, 5, 6] n [(0, Value.int .u32 y3), (1, Value.int .i64 y4), (5, Value.int .u32 y5), (6, Value.int .i64 y6)] h (fun i e' h' => bif Nat.beq i 0 then (exI .u32 (some (e'.get 5)) fun u11 => K0 u11 h') else none) (fun e' h' => none)
set_option maxRecDepth 100000 in
theorem F_ref01_Turn_l0_succ  (R : Nat) (n : Nat) (y3 : Int) (y4 : Int) (y5 : Int) (y6 : Int) (h : GH) (K0 : Int → GH → Option β) : F_ref01_Turn_l0  R (n + 1) y3 y4 y5 y6 h K0 =
    (bif decide (y6 < y4) then (bif decide (y6 < 32) then F_ref01_Turn_l0 R n (IntKind.wrap .u32 (Int.tdiv y3 2)) y4 (IntKind.wrap .u32 ((IntKind.wrap .u32 (y5 * 2)) + (Int.tmod y3 2))) (IntKind.wrap .i64 (y6 + 1)) h K0 else K0 y5 h) else K0 y5 h) := by kernel_rfl
noncomputable def G_ref01_Turn  (R : Nat) (a1 : Int) (a2 : Int) (h : GH) (K : Int → GH → Option β) : Option β := gfun Try.prog (CF_ref01_Turn ) HF_ref01_Turn R Try.f12 [Value.int .u32 a1, Value.int .i64 a2] h (fun v h' => exI .u32 (some v) fun u12 => K u12 h')
set_option maxRecDepth 100000 in
theorem F_ref01_Turn_gen  (R : Nat) (a1 : Int) (a2 : Int) (h : GH) (K : Int → GH → Option β) : G_ref01_Turn  R a1 a2 h K =
    F_ref01_Turn_l0 R R a1 a2 0 0 h (fun w8 h9 => K w8 h9) := by kernel_rfl
noncomputable def F_ref01_Turn (R : Nat) (a1 : Int) (a2 : Int) (h : GH) (K : Int → GH → Option β) : Option β := G_ref01_Turn  R a1 a2 h K
theorem CF_ref01_Turn_sim : SimOrc Try.prog (CF_ref01_Turn (β := β)) := by
  intro f args h K r hc
  cases hc
set_option maxRecDepth 100000 in
theorem F_ref01_Turn_sim {R : Nat} {r : β} {a1 : Int} {a2 : Int} {h : GH} {K : Value → GH → Option β} (hc : F_ref01_Turn R a1 a2 h (fun q0 h' => K (Value.int .u32 q0) h') = some r) : ∃ v h', K v h' = some r ∧ CallSim Try.prog 12 [Value.int .u32 a1, Value.int .i64 a2] h v h' := by
  unfold F_ref01_Turn G_ref01_Turn at hc
  obtain ⟨v, h', hk, hs⟩ := gfun_sim CF_ref01_Turn_sim mixed_ok (fun f h => by cases h) Try.func12 (by kernel_rfl) hc
  obtain ⟨u0, e0, hk⟩ := exI_v hk; cases e0
  exact ⟨_, h', hk, hs⟩
/-! F3 duffel/duffellaw06.SfanoFree -/
def CF_law06_SfanoFree (F_ref01_Ints : Sl → Int → GH → (Sl → GH → Option β) → Option β) (F_sfano_Codes : Sl → GH → (Sl → Int → GH → Option β) → Option β) (F_law06_lives : GH → (Bool → GH → Option β) → Option β) (F_ref01_Turn : Int → Int → GH → (Int → GH → Option β) → Option β) : Orc β := fun f args h K => bif Nat.beq f 9 then (match args with | [.slice p1a p1n p1c, .int .i64 p2] => F_ref01_Ints ⟨p1a, p1n, p1c⟩ p2 h (fun q4 h' => K (Value.slice q4.a q4.n q4.c) h') | _ => none) else (bif Nat.beq f 10 then (match args with | [.slice p1a p1n p1c] => F_sfano_Codes ⟨p1a, p1n, p1c⟩ h (fun q86 q87 h' => K (Value.tuple #[Value.slice q86.a q86.n q86.c, Value.int .i64 q87]) h') | _ => none) else (bif Nat.beq f 11 then (match args with | [] => F_law06_lives  h (fun q1 h' => K (Value.bool q1) h') | _ => none) else (bif Nat.beq f 12 then (match args with | [.int .u32 p1, .int .i64 p2] => F_ref01_Turn p1 p2 h (fun q10 h' => K (Value.int .u32 q10) h') | _ => none) else none)))
def HF_law06_SfanoFree : Hints := ⟨[(6, [0, 3, 5], [(0, [])], some [(2, .ty 4)]), (9, [0, 3, 5, 6], [(2, [(0, .ty 22), (3, .ty 24), (5, .ty 3)])], some [(2, .ty 4)])], [], []⟩
noncomputable def BF_law06_SfanoFree : Code := match Try.f3.body with | some c => c | none => .skip
noncomputable def F_law06_SfanoFree_l0 (F_ref01_Ints : Sl → Int → GH → (Sl → GH → Option β) → Option β) (F_sfano_Codes : Sl → GH → (Sl → Int → GH → Option β) → Option β) (F_law06_lives : GH → (Bool → GH → Option β) → Option β) (F_ref01_Turn : Int → Int → GH → (Int → GH → Option β) → Option β) (R : Nat) (n : Nat) (y9 : Sl) (y10 : Sl) (y11 : Int) (h : GH) (K0 : GH → Option β) (Kr : Bool → GH → Option β) : Option β := gloop (gcode Try.prog (CF_law06_SfanoFree F_ref01_Ints F_sfano_Codes F_law06_lives F_ref01_Turn) Try.f3.ntmps HF_law06_SfanoFree R (at_ [true, true, true, true, false, true, false, false] BF_law06_SfanoFree)) [0, 3, 5] n [(0, Value.slice y9.a y9.n y9.c), (3, Value.slice y10.a y10.n y10.c), (5, Value.int .i64 y11)] h (fun i e' h' => bif Nat.beq i 0 then (K0 h') else none) (fun e' h' => exB (some (e'.get 2)) fun u72 => Kr u72 h')
noncomputable def F_law06_SfanoFree_l1 (F_ref01_Ints : Sl → Int → GH → (Sl → GH → Option β) → Option β) (F_sfano_Codes : Sl → GH → (Sl → Int → GH → Option β) → Option β) (F_law06_lives : GH → (Bool → GH → Option β) → Option β) (F_ref01_Turn : Int → Int → GH → (Int → GH → Option β) → Option β) (R : Nat) (n : Nat) (y13 : Sl) (y14 : Sl) (y15 : Int) (y16 : Int) (h : GH) (K2 : Sl → Sl → Int → GH → Option β) (Kr : Bool → GH → Option β) : Option β := gloop (gcode Try.prog (CF_law06_SfanoFree F_ref01_Ints F_sfano_Codes F_law06_lives F_ref01_Turn) Try.f3.ntmps HF_law06_SfanoFree R (at_ [true, true, true, true, false, true, false, false, true, false, false, true, false, false] BF_law06_SfanoFree)) [0, 3, 5, 6] n [(0, Value.slice y13.a y13.n y13.c), (3, Value.slice y14.a y14.n y14.c), (5, Value.int .i64 y15), (6, Value.int .i64 y16)] h (fun i e' h' => bif Nat.beq i 2 then (exS (some (e'.get 0)) fun u73 => exS (some (e'.get 3)) fun u74 => exI .i64 (some (e'.get 5)) fun u75 => K2 u73 u74 u75 h') else none) (fun e' h' => exB (some (e'.get 2)) fun u76 => Kr u76 h')
set_option maxRecDepth 100000 in
theorem F_law06_SfanoFree_l1_succ (F_ref01_Ints : Sl → Int → GH → (Sl → GH → Option β) → Option β) (F_sfano_Codes : Sl → GH → (Sl → Int → GH → Option β) → Option β) (F_law06_lives : GH → (Bool → GH → Option β) → Option β) (F_ref01_Turn : Int → Int → GH → (Int → GH → Option β) → Option β) (R : Nat) (n : Nat) (y13 : Sl) (y14 : Sl) (y15 : Int) (y16 : Int) (h : GH) (K2 : Sl → Sl → Int → GH → Option β) (Kr : Bool → GH → Option β) : F_law06_SfanoFree_l1 F_ref01_Ints F_sfano_Codes F_law06_lives F_ref01_Turn R (n + 1) y13 y14 y15 y16 h K2 Kr =
    (bif decide (y16 < ((y14.n : Nat) : Int)) then exA y14.a fun g21 o22 => within y15 y14.n (exI .u32 (h.cell ⟨g21, o22 + y15.toNat * 2, none⟩) fun x23 => exI .i64 (h.cell ⟨g21, o22 + y15.toNat * 2 + 1, none⟩) fun x24 => exA y14.a fun g25 o26 => within y16 y14.n (exI .u32 (h.cell ⟨g25, o26 + y16.toNat * 2, none⟩) fun x27 => exI .i64 (h.cell ⟨g25, o26 + y16.toNat * 2 + 1, none⟩) fun x28 => gnew [Value.int .u32 0, Value.int .i64 0] 0 h fun g29 h30 => gnew [Value.int .u32 0, Value.int .i64 0] 0 h30 fun g31 h32 => gput g29 (0) [Value.int .u32 x23, Value.int .i64 x24] h32 fun h33 => gput g31 (0) [Value.int .u32 x27, Value.int .i64 x28] h33 fun h34 => (bif sameAt g25 (o26 + y16.toNat * 2) 2 h32 h33 then (bif y15 == y16 then F_law06_SfanoFree_l1 F_ref01_Ints F_sfano_Codes F_law06_lives F_ref01_Turn R n y13 y14 y15 (IntKind.wrap .i64 (y16 + 1)) h34 K2 Kr else exI .i64 (h34.cell ⟨g29, 0 + 1, none⟩) fun x35 => exI .i64 (h34.cell ⟨g31, 0 + 1, none⟩) fun x36 => (bif decide (x35 > x36) then F_law06_SfanoFree_l1 F_ref01_Ints F_sfano_Codes F_law06_lives F_ref01_Turn R n y13 y14 y15 (IntKind.wrap .i64 (y16 + 1)) h34 K2 Kr else exI .i64 (h34.cell ⟨g29, 0 + 1, none⟩) fun x37 => exA y13.a fun g38 o39 => within y15 y13.n (exI .i64 (h34.cell ⟨g38, o39 + y15.toNat * 1, none⟩) fun x40 => (bif x37 != x40 then Kr false h34 else exI .u32 (h34.cell ⟨g31, 0 + 0, none⟩) fun x41 => exI .i64 (h34.cell ⟨g29, 0 + 1, none⟩) fun x42 => (bif decide ((IntKind.wrap .u64 x42) < 0) then none else exI .u32 (h34.cell ⟨g29, 0 + 0, none⟩) fun x43 => (bif (IntKind.wrap .u32 (BitVec.ofInt (IntKind.bits .u32) x41 &&& BitVec.ofInt (IntKind.bits .u32) (IntKind.wrap .u32 ((shlI .u32 1 (IntKind.wrap .u64 x42)) - 1))).toNat) == x43 then Kr false h34 else exI .u32 (h34.cell ⟨g29, 0 + 0, none⟩) fun x44 => exI .i64 (h34.cell ⟨g29, 0 + 1, none⟩) fun x45 => F_ref01_Turn x44 x45 h34 fun r46 h47 => exI .u32 (h47.cell ⟨g31, 0 + 0, none⟩) fun x48 => exI .i64 (h47.cell ⟨g31, 0 + 1, none⟩) fun x49 => F_ref01_Turn x48 x49 h47 fun r50 h51 => (bif sameAt g31 (0 + 1) 1 h34 h47 then (bif sameAt g31 (0 + 0) 1 h34 h47 then exI .i64 (h51.cell ⟨g29, 0 + 1, none⟩) fun x52 => exI .i64 (h51.cell ⟨g31, 0 + 1, none⟩) fun x53 => (bif decide (x52 < x53) then exI .i64 (h51.cell ⟨g31, 0 + 1, none⟩) fun x54 => exI .i64 (h51.cell ⟨g29, 0 + 1, none⟩) fun x55 => (bif decide ((IntKind.wrap .u64 (IntKind.wrap .i64 (x54 - x55))) < 0) then none else (bif decide ((shrI .u32 r50 (IntKind.wrap .u64 (IntKind.wrap .i64 (x54 - x55)))) ≥ r46) then Kr false h51 else exI .i64 (h51.cell ⟨g29, 0 + 1, none⟩) fun x56 => exI .i64 (h51.cell ⟨g31, 0 + 1, none⟩) fun x57 => (bif x56 == x57 then (bif !((decide (r46 > r50)) == (decide (y15 < y16))) then Kr false h51 else F_law06_SfanoFree_l1 F_ref01_Ints F_sfano_Codes F_law06_lives F_ref01_Turn R n y13 y14 y15 (IntKind.wrap .i64 (y16 + 1)) h51 K2 Kr) else F_law06_SfanoFree_l1 F_ref01_Ints F_sfano_Codes F_law06_lives F_ref01_Turn R n y13 y14 y15 (IntKind.wrap .i64 (y16 + 1)) h51 K2 Kr))) else exI .i64 (h51.cell ⟨g29, 0 + 1, none⟩) fun x58 => exI .i64 (h51.cell ⟨g31, 0 + 1, none⟩) fun x59 => (bif x58 == x59 then (bif !((decide (r46 > r50)) == (decide (y15 < y16))) then Kr false h51 else F_law06_SfanoFree_l1 F_ref01_Ints F_sfano_Codes F_law06_lives F_ref01_Turn R n y13 y14 y15 (IntKind.wrap .i64 (y16 + 1)) h51 K2 Kr) else F_law06_SfanoFree_l1 F_ref01_Ints F_sfano_Codes F_law06_lives F_ref01_Turn R n y13 y14 y15 (IntKind.wrap .i64 (y16 + 1)) h51 K2 Kr)) else none) else none))))))) else none))) else K2 y13 y14 y15 h) := by kernel_rfl
set_option maxRecDepth 100000 in
theorem F_law06_SfanoFree_l0_succ (F_ref01_Ints : Sl → Int → GH → (Sl → GH → Option β) → Option β) (F_sfano_Codes : Sl → GH → (Sl → Int → GH → Option β) → Option β) (F_law06_lives : GH → (Bool → GH → Option β) → Option β) (F_ref01_Turn : Int → Int → GH → (Int → GH → Option β) → Option β) (R : Nat) (n : Nat) (y9 : Sl) (y10 : Sl) (y11 : Int) (h : GH) (K0 : GH → Option β) (Kr : Bool → GH → Option β) : F_law06_SfanoFree_l0 F_ref01_Ints F_sfano_Codes F_law06_lives F_ref01_Turn R (n + 1) y9 y10 y11 h K0 Kr =
    (bif decide (y11 < ((y10.n : Nat) : Int)) then F_law06_SfanoFree_l1 F_ref01_Ints F_sfano_Codes F_law06_lives F_ref01_Turn R R y9 y10 y11 0 h (fun w60 w61 w62 h63 => F_law06_SfanoFree_l0 F_ref01_Ints F_sfano_Codes F_law06_lives F_ref01_Turn R n w60 w61 (IntKind.wrap .i64 (w62 + 1)) h63 K0 Kr) (fun w64 h65 => Kr w64 h65) else K0 h) := by kernel_rfl
noncomputable def G_law06_SfanoFree (F_ref01_Ints : Sl → Int → GH → (Sl → GH → Option β) → Option β) (F_sfano_Codes : Sl → GH → (Sl → Int → GH → Option β) → Option β) (F_law06_lives : GH → (Bool → GH → Option β) → Option β) (F_ref01_Turn : Int → Int → GH → (Int → GH → Option β) → Option β) (R : Nat) (a1 : Sl) (h : GH) (K : Bool → GH → Option β) : Option β := gfun Try.prog (CF_law06_SfanoFree F_ref01_Ints F_sfano_Codes F_law06_lives F_ref01_Turn) HF_law06_SfanoFree R Try.f3 [Value.slice a1.a a1.n a1.c] h (fun v h' => exB (some v) fun u77 => K u77 h')
set_option maxRecDepth 100000 in
theorem F_law06_SfanoFree_gen (F_ref01_Ints : Sl → Int → GH → (Sl → GH → Option β) → Option β) (F_sfano_Codes : Sl → GH → (Sl → Int → GH → Option β) → Option β) (F_law06_lives : GH → (Bool → GH → Option β) → Option β) (F_ref01_Turn : Int → Int → GH → (Int → GH → Option β) → Option β) (R : Nat) (a1 : Sl) (h : GH) (K : Bool → GH → Option β) : G_law06_SfanoFree F_ref01_Ints F_sfano_Codes F_law06_lives F_ref01_Turn R a1 h K =
    F_ref01_Ints a1 80 h fun r2 h3 => F_sfano_Codes r2 h3 fun r4 r5 h6 => (bif r5 != 0 then (bif ((r4.n : Nat) : Int) == 0 then F_law06_lives h6 fun r7 h8 => K r7 h8 else K false h6) else F_law06_SfanoFree_l0 F_ref01_Ints F_sfano_Codes F_law06_lives F_ref01_Turn R R r2 r4 0 h6 (fun h66 => F_law06_lives h66 fun r67 h68 => K r67 h68) (fun w69 h70 => K w69 h70)) := by kernel_rfl
noncomputable def F_law06_SfanoFree (R : Nat) (a1 : Sl) (h : GH) (K : Bool → GH → Option β) : Option β := G_law06_SfanoFree (F_ref01_Ints R) (F_sfano_Codes R) F_law06_lives (F_ref01_Turn R) R a1 h K
set_option maxRecDepth 100000 in
theorem CF_law06_SfanoFree_sim {R : Nat} : SimOrc Try.prog (CF_law06_SfanoFree (F_ref01_Ints R) (F_sfano_Codes R) F_law06_lives (F_ref01_Turn R) (β := β)) := by
  intro f args h K r hc
  unfold CF_law06_SfanoFree at hc
  cases hb : Nat.beq f 9 with
  | true =>
    rw [hb] at hc
    simp only [cond_true] at hc
    obtain rfl := Nat.eq_of_beq_eq_true hb
    split at hc
    · exact any_call (F_ref01_Ints_sim (K := K) hc)
    · cases hc
  | false =>
  rw [hb] at hc
  simp only [cond_false] at hc
  cases hb : Nat.beq f 10 with
  | true =>
    rw [hb] at hc
    simp only [cond_true] at hc
    obtain rfl := Nat.eq_of_beq_eq_true hb
    split at hc
    · exact any_call (F_sfano_Codes_sim (K := K) hc)
    · cases hc
  | false =>
  rw [hb] at hc
  simp only [cond_false] at hc
  cases hb : Nat.beq f 11 with
  | true =>
    rw [hb] at hc
    simp only [cond_true] at hc
    obtain rfl := Nat.eq_of_beq_eq_true hb
    split at hc
    · exact any_call (F_law06_lives_sim (K := K) hc)
    · cases hc
  | false =>
  rw [hb] at hc
  simp only [cond_false] at hc
  cases hb : Nat.beq f 12 with
  | true =>
    rw [hb] at hc
    simp only [cond_true] at hc
    obtain rfl := Nat.eq_of_beq_eq_true hb
    split at hc
    · exact any_call (F_ref01_Turn_sim (K := K) hc)
    · cases hc
  | false =>
  rw [hb] at hc
  simp only [cond_false] at hc
  cases hc
set_option maxRecDepth 100000 in
theorem F_law06_SfanoFree_sim {R : Nat} {r : β} {a1 : Sl} {h : GH} {K : Value → GH → Option β} (hc : F_law06_SfanoFree R a1 h (fun q0 h' => K (Value.bool q0) h') = some r) : ∃ v h', K v h' = some r ∧ CallSim Try.prog 3 [Value.slice a1.a a1.n a1.c] h v h' := by
  unfold F_law06_SfanoFree G_law06_SfanoFree at hc
  obtain ⟨v, h', hk, hs⟩ := gfun_sim CF_law06_SfanoFree_sim mixed_ok (fun f h => by cases h) Try.func3 (by kernel_rfl) hc
  obtain ⟨u0, e0, hk⟩ := exB_v hk; cases e0
  exact ⟨_, h', hk, hs⟩
/-! F40 duffel/duffelref06.two -/
def CF_ref06_two  : Orc β := fun f args h K => none
def HF_ref06_two : Hints := ⟨[(3, [0, 3, 4], [(0, [(3, .ty 3)])], none)], [], []⟩
noncomputable def BF_ref06_two : Code := match Try.f40.body with | some c => c | none => .skip
noncomputable def F_ref06_two_l0  (R : Nat) (n : Nat) (y2 : Int) (y3 : Int) (y4 : Int) (h : GH) (K0 : Int → GH → Option β) : Option β := gloop (gcode Try.prog (CF_ref06_two ) Try.f40.ntmps HF_ref06_two R (at_ [true, true, false, true, false, false] BF_ref06_two)) [0, 3, 4] n [(0, Value.int .i64 y2), (3, Value.int .i64 y3), (4, Value.int .i64 y4)] h (fun i e' h' => bif Nat.beq i 0 then (exI .i64 (some (e'.get 3)) fun u9 => K0 u9 h') else none) (fun e' h' => none)
set_option maxRecDepth 100000 in
theorem F_ref06_two_l0_succ  (R : Nat) (n : Nat) (y2 : Int) (y3 : Int) (y4 : Int) (h : GH) (K0 : Int → GH → Option β) : F_ref06_two_l0  R (n + 1) y2 y3 y4 h K0 =
    (bif decide (y4 < y2) then F_ref06_two_l0 R n y2 (IntKind.wrap .i64 (y3 * 2)) (IntKind.wrap .i64 (y4 + 1)) h K0 else K0 y3 h) := by kernel_rfl
noncomputable def G_ref06_two  (R : Nat) (a1 : Int) (h : GH) (K : Int → GH → Option β) : Option β := gfun Try.prog (CF_ref06_two ) HF_ref06_two R Try.f40 [Value.int .i64 a1] h (fun v h' => exI .i64 (some v) fun u10 => K u10 h')
set_option maxRecDepth 100000 in
theorem F_ref06_two_gen  (R : Nat) (a1 : Int) (h : GH) (K : Int → GH → Option β) : G_ref06_two  R a1 h K =
    F_ref06_two_l0 R R a1 1 0 h (fun w6 h7 => K w6 h7) := by kernel_rfl
noncomputable def F_ref06_two (R : Nat) (a1 : Int) (h : GH) (K : Int → GH → Option β) : Option β := G_ref06_two  R a1 h K
theorem CF_ref06_two_sim : SimOrc Try.prog (CF_ref06_two (β := β)) := by
  intro f args h K r hc
  cases hc
set_option maxRecDepth 100000 in
theorem F_ref06_two_sim {R : Nat} {r : β} {a1 : Int} {h : GH} {K : Value → GH → Option β} (hc : F_ref06_two R a1 h (fun q0 h' => K (Value.int .i64 q0) h') = some r) : ∃ v h', K v h' = some r ∧ CallSim Try.prog 40 [Value.int .i64 a1] h v h' := by
  unfold F_ref06_two G_ref06_two at hc
  obtain ⟨v, h', hk, hs⟩ := gfun_sim CF_ref06_two_sim mixed_ok (fun f h => by cases h) Try.func40 (by kernel_rfl) hc
  obtain ⟨u0, e0, hk⟩ := exI_v hk; cases e0
  exact ⟨_, h', hk, hs⟩
/-! F39 duffel/duffelref06.Check -/
def CF_ref06_Check (F_ref06_May : Sl → GH → (Bool → GH → Option β) → Option β) (F_ref06_two : Int → GH → (Int → GH → Option β) → Option β) : Orc β := fun f args h K => bif Nat.beq f 38 then (match args with | [.slice p1a p1n p1c] => F_ref06_May ⟨p1a, p1n, p1c⟩ h (fun q16 h' => K (Value.bool q16) h') | _ => none) else (bif Nat.beq f 40 then (match args with | [.int .i64 p1] => F_ref06_two p1 h (fun q8 h' => K (Value.int .i64 q8) h') | _ => none) else none)
def HF_ref06_Check : Hints := ⟨[(5, [0, 3, 4], [(0, [(3, .ty 3)])], none)], [], []⟩
noncomputable def BF_ref06_Check : Code := match Try.f39.body with | some c => c | none => .skip
noncomputable def F_ref06_Check_l0 (F_ref06_May : Sl → GH → (Bool → GH → Option β) → Option β) (F_ref06_two : Int → GH → (Int → GH → Option β) → Option β) (R : Nat) (n : Nat) (y4 : Sl) (y5 : Int) (y6 : Int) (h : GH) (K0 : Int → GH → Option β) : Option β := gloop (gcode Try.prog (CF_ref06_Check F_ref06_May F_ref06_two) Try.f39.ntmps HF_ref06_Check R (at_ [true, true, true, false, true, false, false] BF_ref06_Check)) [0, 3, 4] n [(0, Value.slice y4.a y4.n y4.c), (3, Value.int .i64 y5), (4, Value.int .i64 y6)] h (fun i e' h' => bif Nat.beq i 0 then (exI .i64 (some (e'.get 3)) fun u16 => K0 u16 h') else none) (fun e' h' => none)
set_option maxRecDepth 100000 in
theorem F_ref06_Check_l0_succ (F_ref06_May : Sl → GH → (Bool → GH → Option β) → Option β) (F_ref06_two : Int → GH → (Int → GH → Option β) → Option β) (R : Nat) (n : Nat) (y4 : Sl) (y5 : Int) (y6 : Int) (h : GH) (K0 : Int → GH → Option β) : F_ref06_Check_l0 F_ref06_May F_ref06_two R (n + 1) y4 y5 y6 h K0 =
    (bif decide (y6 < ((y4.n : Nat) : Int)) then exA y4.a fun g8 o9 => within y6 y4.n (exI .i64 (h.cell ⟨g8, o9 + y6.toNat * 1, none⟩) fun x10 => F_ref06_two (IntKind.wrap .i64 (16 - x10)) h fun r11 h12 => F_ref06_Check_l0 F_ref06_May F_ref06_two R n y4 (IntKind.wrap .i64 (y5 + r11)) (IntKind.wrap .i64 (y6 + 1)) h12 K0) else K0 y5 h) := by kernel_rfl
noncomputable def G_ref06_Check (F_ref06_May : Sl → GH → (Bool → GH → Option β) → Option β) (F_ref06_two : Int → GH → (Int → GH → Option β) → Option β) (R : Nat) (a1 : Sl) (h : GH) (K : Int → GH → Option β) : Option β := gfun Try.prog (CF_ref06_Check F_ref06_May F_ref06_two) HF_ref06_Check R Try.f39 [Value.slice a1.a a1.n a1.c] h (fun v h' => exI .i64 (some v) fun u17 => K u17 h')
set_option maxRecDepth 100000 in
theorem F_ref06_Check_gen (F_ref06_May : Sl → GH → (Bool → GH → Option β) → Option β) (F_ref06_two : Int → GH → (Int → GH → Option β) → Option β) (R : Nat) (a1 : Sl) (h : GH) (K : Int → GH → Option β) : G_ref06_Check F_ref06_May F_ref06_two R a1 h K =
    F_ref06_May a1 h fun r2 h3 => (bif !r2 then K 2 h3 else F_ref06_Check_l0 F_ref06_May F_ref06_two R R a1 0 0 h3 (fun w13 h14 => (bif w13 != 65536 then K 6 h14 else K 0 h14))) := by kernel_rfl
noncomputable def F_ref06_Check (R : Nat) (a1 : Sl) (h : GH) (K : Int → GH → Option β) : Option β := G_ref06_Check (F_ref06_May R) (F_ref06_two R) R a1 h K
set_option maxRecDepth 100000 in
theorem CF_ref06_Check_sim {R : Nat} : SimOrc Try.prog (CF_ref06_Check (F_ref06_May R) (F_ref06_two R) (β := β)) := by
  intro f args h K r hc
  unfold CF_ref06_Check at hc
  cases hb : Nat.beq f 38 with
  | true =>
    rw [hb] at hc
    simp only [cond_true] at hc
    obtain rfl := Nat.eq_of_beq_eq_true hb
    split at hc
    · exact any_call (F_ref06_May_sim (K := K) hc)
    · cases hc
  | false =>
  rw [hb] at hc
  simp only [cond_false] at hc
  cases hb : Nat.beq f 40 with
  | true =>
    rw [hb] at hc
    simp only [cond_true] at hc
    obtain rfl := Nat.eq_of_beq_eq_true hb
    split at hc
    · exact any_call (F_ref06_two_sim (K := K) hc)
    · cases hc
  | false =>
  rw [hb] at hc
  simp only [cond_false] at hc
  cases hc
set_option maxRecDepth 100000 in
theorem F_ref06_Check_sim {R : Nat} {r : β} {a1 : Sl} {h : GH} {K : Value → GH → Option β} (hc : F_ref06_Check R a1 h (fun q0 h' => K (Value.int .i64 q0) h') = some r) : ∃ v h', K v h' = some r ∧ CallSim Try.prog 39 [Value.slice a1.a a1.n a1.c] h v h' := by
  unfold F_ref06_Check G_ref06_Check at hc
  obtain ⟨v, h', hk, hs⟩ := gfun_sim CF_ref06_Check_sim mixed_ok (fun f h => by cases h) Try.func39 (by kernel_rfl) hc
  obtain ⟨u0, e0, hk⟩ := exI_v hk; cases e0
  exact ⟨_, h', hk, hs⟩
/-! F16 duffel/duffelref06.Words -/
def CF_ref06_Words (F_ref06_Check : Sl → GH → (Int → GH → Option β) → Option β) (F_ref06_two : Int → GH → (Int → GH → Option β) → Option β) (F_ref01_Turn : Int → Int → GH → (Int → GH → Option β) → Option β) : Orc β := fun f args h K => bif Nat.beq f 39 then (match args with | [.slice p1a p1n p1c] => F_ref06_Check ⟨p1a, p1n, p1c⟩ h (fun q15 h' => K (Value.int .i64 q15) h') | _ => none) else (bif Nat.beq f 40 then (match args with | [.int .i64 p1] => F_ref06_two p1 h (fun q8 h' => K (Value.int .i64 q8) h') | _ => none) else (bif Nat.beq f 12 then (match args with | [.int .u32 p1, .int .i64 p2] => F_ref01_Turn p1 p2 h (fun q10 h' => K (Value.int .u32 q10) h') | _ => none) else none))
def HF_ref06_Words : Hints := ⟨[(6, [0, 5, 6], [(0, [(5, .ty 24)])], none), (10, [0, 5, 6, 7, 8], [(2, [(0, .ty 22), (5, .ty 24), (6, .ty 3), (7, .ty 3)])], none)], [], []⟩
noncomputable def BF_ref06_Words : Code := match Try.f16.body with | some c => c | none => .skip
noncomputable def F_ref06_Words_l0 (F_ref06_Check : Sl → GH → (Int → GH → Option β) → Option β) (F_ref06_two : Int → GH → (Int → GH → Option β) → Option β) (F_ref01_Turn : Int → Int → GH → (Int → GH → Option β) → Option β) (R : Nat) (n : Nat) (y4 : Sl) (y5 : Sl) (y6 : Int) (h : GH) (K0 : Sl → GH → Option β) : Option β := gloop (gcode Try.prog (CF_ref06_Words F_ref06_Check F_ref06_two F_ref01_Turn) Try.f16.ntmps HF_ref06_Words R (at_ [true, true, true, true, false, true, false, false] BF_ref06_Words)) [0, 5, 6] n [(0, Value.slice y4.a y4.n y4.c), (5, Value.slice y5.a y5.n y5.c), (6, Value.int .i64 y6)] h (fun i e' h' => bif Nat.beq i 0 then (exS (some (e'.get 5)) fun u65 => K0 u65 h') else none) (fun e' h' => none)
noncomputable def F_ref06_Words_l1 (F_ref06_Check : Sl → GH → (Int → GH → Option β) → Option β) (F_ref06_two : Int → GH → (Int → GH → Option β) → Option β) (F_ref01_Turn : Int → Int → GH → (Int → GH → Option β) → Option β) (R : Nat) (n : Nat) (y8 : Sl) (y9 : Sl) (y10 : Int) (y11 : Int) (y12 : Int) (h : GH) (K2 : Sl → Sl → Int → Int → GH → Option β) : Option β := gloop (gcode Try.prog (CF_ref06_Words F_ref06_Check F_ref06_two F_ref01_Turn) Try.f16.ntmps HF_ref06_Words R (at_ [true, true, true, true, false, true, false, false, true, false, false, true, false, true, false, false] BF_ref06_Words)) [0, 5, 6, 7, 8] n [(0, Value.slice y8.a y8.n y8.c), (5, Value.slice y9.a y9.n y9.c), (6, Value.int .i64 y10), (7, Value.int .i64 y11), (8, Value.int .i64 y12)] h (fun i e' h' => bif Nat.beq i 2 then (exS (some (e'.get 0)) fun u66 => exS (some (e'.get 5)) fun u67 => exI .i64 (some (e'.get 6)) fun u68 => exI .i64 (some (e'.get 7)) fun u69 => K2 u66 u67 u68 u69 h') else none) (fun e' h' => none)
set_option maxRecDepth 100000 in
theorem F_ref06_Words_l1_succ (F_ref06_Check : Sl → GH → (Int → GH → Option β) → Option β) (F_ref06_two : Int → GH → (Int → GH → Option β) → Option β) (F_ref01_Turn : Int → Int → GH → (Int → GH → Option β) → Option β) (R : Nat) (n : Nat) (y8 : Sl) (y9 : Sl) (y10 : Int) (y11 : Int) (y12 : Int) (h : GH) (K2 : Sl → Sl → Int → Int → GH → Option β) : F_ref06_Words_l1 F_ref06_Check F_ref06_two F_ref01_Turn R (n + 1) y8 y9 y10 y11 y12 h K2 =
    (bif decide (y12 < ((y8.n : Nat) : Int)) then exA y8.a fun g17 o18 => within y12 y8.n (exI .i64 (h.cell ⟨g17, o18 + y12.toNat * 1, none⟩) fun x19 => exA y8.a fun g20 o21 => within y10 y8.n (exI .i64 (h.cell ⟨g20, o21 + y10.toNat * 1, none⟩) fun x22 => (bif decide (x19 > x22) then exA y8.a fun g23 o24 => within y12 y8.n (exI .i64 (h.cell ⟨g23, o24 + y12.toNat * 1, none⟩) fun x25 => F_ref06_two (IntKind.wrap .i64 (16 - x25)) h fun r26 h27 => F_ref06_Words_l1 F_ref06_Check F_ref06_two F_ref01_Turn R n y8 y9 y10 (IntKind.wrap .i64 (y11 + r26)) (IntKind.wrap .i64 (y12 + 1)) h27 K2) else exA y8.a fun g28 o29 => within y12 y8.n (exI .i64 (h.cell ⟨g28, o29 + y12.toNat * 1, none⟩) fun x30 => exA y8.a fun g31 o32 => within y10 y8.n (exI .i64 (h.cell ⟨g31, o32 + y10.toNat * 1, none⟩) fun x33 => (bif x30 == x33 then (bif decide (y12 > y10) then exA y8.a fun g34 o35 => within y12 y8.n (exI .i64 (h.cell ⟨g34, o35 + y12.toNat * 1, none⟩) fun x36 => F_ref06_two (IntKind.wrap .i64 (16 - x36)) h fun r37 h38 => F_ref06_Words_l1 F_ref06_Check F_ref06_two F_ref01_Turn R n y8 y9 y10 (IntKind.wrap .i64 (y11 + r37)) (IntKind.wrap .i64 (y12 + 1)) h38 K2) else F_ref06_Words_l1 F_ref06_Check F_ref06_two F_ref01_Turn R n y8 y9 y10 y11 (IntKind.wrap .i64 (y12 + 1)) h K2) else F_ref06_Words_l1 F_ref06_Check F_ref06_two F_ref01_Turn R n y8 y9 y10 y11 (IntKind.wrap .i64 (y12 + 1)) h K2)))))) else K2 y8 y9 y10 y11 h) := by kernel_rfl
set_option maxRecDepth 100000 in
theorem F_ref06_Words_l0_succ (F_ref06_Check : Sl → GH → (Int → GH → Option β) → Option β) (F_ref06_two : Int → GH → (Int → GH → Option β) → Option β) (F_ref01_Turn : Int → Int → GH → (Int → GH → Option β) → Option β) (R : Nat) (n : Nat) (y4 : Sl) (y5 : Sl) (y6 : Int) (h : GH) (K0 : Sl → GH → Option β) : F_ref06_Words_l0 F_ref06_Check F_ref06_two F_ref01_Turn R (n + 1) y4 y5 y6 h K0 =
    (bif decide (y6 < ((y4.n : Nat) : Int)) then F_ref06_Words_l1 F_ref06_Check F_ref06_two F_ref01_Turn R R y4 y5 y6 0 0 h (fun w39 w40 w41 w42 h43 => exA w39.a fun g44 o45 => within w41 w39.n (exI .i64 (h43.cell ⟨g44, o45 + w41.toNat * 1, none⟩) fun x46 => F_ref06_two (IntKind.wrap .i64 (16 - x46)) h43 fun r47 h48 => (bif decide (r47 = 0) then none else exA w39.a fun g49 o50 => within w41 w39.n (exI .i64 (h48.cell ⟨g49, o50 + w41.toNat * 1, none⟩) fun x51 => F_ref01_Turn (IntKind.wrap .u32 (IntKind.wrap .i64 (Int.tdiv w42 r47))) x51 h48 fun r52 h53 => exA w39.a fun g54 o55 => within w41 w39.n (exI .i64 (h53.cell ⟨g54, o55 + w41.toNat * 1, none⟩) fun x56 => gnew [Value.int .u32 r52, Value.int .i64 x56] 2 h53 fun g57 h58 => gappS 2 16 w40 ⟨(some ⟨g57, 0, none⟩), 1, 1⟩ h58 fun s59 h60 => (bif sameAt g54 (o55 + w41.toNat * 1) 1 h48 h53 then F_ref06_Words_l0 F_ref06_Check F_ref06_two F_ref01_Turn R n w39 s59 (IntKind.wrap .i64 (w41 + 1)) h60 K0 else none)))))) else K0 y5 h) := by kernel_rfl
noncomputable def G_ref06_Words (F_ref06_Check : Sl → GH → (Int → GH → Option β) → Option β) (F_ref06_two : Int → GH → (Int → GH → Option β) → Option β) (F_ref01_Turn : Int → Int → GH → (Int → GH → Option β) → Option β) (R : Nat) (a1 : Sl) (h : GH) (K : Sl → Int → GH → Option β) : Option β := gfun Try.prog (CF_ref06_Words F_ref06_Check F_ref06_two F_ref01_Turn) HF_ref06_Words R Try.f16 [Value.slice a1.a a1.n a1.c] h (fun v h' => exTup 2 v fun vs => exV (nth vs 0) fun v0 => exS (some v0) fun u70 => exV (nth vs 1) fun v1 => exI .i64 (some v1) fun u71 => K u70 u71 h')
set_option maxRecDepth 100000 in
theorem F_ref06_Words_gen (F_ref06_Check : Sl → GH → (Int → GH → Option β) → Option β) (F_ref06_two : Int → GH → (Int → GH → Option β) → Option β) (F_ref01_Turn : Int → Int → GH → (Int → GH → Option β) → Option β) (R : Nat) (a1 : Sl) (h : GH) (K : Sl → Int → GH → Option β) : G_ref06_Words F_ref06_Check F_ref06_two F_ref01_Turn R a1 h K =
    F_ref06_Check a1 h fun r2 h3 => (bif r2 != 0 then K ⟨none, 0, 0⟩ r2 h3 else F_ref06_Words_l0 F_ref06_Check F_ref06_two F_ref01_Turn R R a1 ⟨none, 0, 0⟩ 0 h3 (fun w61 h62 => K w61 0 h62)) := by kernel_rfl
noncomputable def F_ref06_Words (R : Nat) (a1 : Sl) (h : GH) (K : Sl → Int → GH → Option β) : Option β := G_ref06_Words (F_ref06_Check R) (F_ref06_two R) (F_ref01_Turn R) R a1 h K
set_option maxRecDepth 100000 in
theorem CF_ref06_Words_sim {R : Nat} : SimOrc Try.prog (CF_ref06_Words (F_ref06_Check R) (F_ref06_two R) (F_ref01_Turn R) (β := β)) := by
  intro f args h K r hc
  unfold CF_ref06_Words at hc
  cases hb : Nat.beq f 39 with
  | true =>
    rw [hb] at hc
    simp only [cond_true] at hc
    obtain rfl := Nat.eq_of_beq_eq_true hb
    split at hc
    · exact any_call (F_ref06_Check_sim (K := K) hc)
    · cases hc
  | false =>
  rw [hb] at hc
  simp only [cond_false] at hc
  cases hb : Nat.beq f 40 with
  | true =>
    rw [hb] at hc
    simp only [cond_true] at hc
    obtain rfl := Nat.eq_of_beq_eq_true hb
    split at hc
    · exact any_call (F_ref06_two_sim (K := K) hc)
    · cases hc
  | false =>
  rw [hb] at hc
  simp only [cond_false] at hc
  cases hb : Nat.beq f 12 with
  | true =>
    rw [hb] at hc
    simp only [cond_true] at hc
    obtain rfl := Nat.eq_of_beq_eq_true hb
    split at hc
    · exact any_call (F_ref01_Turn_sim (K := K) hc)
    · cases hc
  | false =>
  rw [hb] at hc
  simp only [cond_false] at hc
  cases hc
set_option maxRecDepth 100000 in
theorem F_ref06_Words_sim {R : Nat} {r : β} {a1 : Sl} {h : GH} {K : Value → GH → Option β} (hc : F_ref06_Words R a1 h (fun q0 q1 h' => K (Value.tuple #[Value.slice q0.a q0.n q0.c, Value.int .i64 q1]) h') = some r) : ∃ v h', K v h' = some r ∧ CallSim Try.prog 16 [Value.slice a1.a a1.n a1.c] h v h' := by
  unfold F_ref06_Words G_ref06_Words at hc
  obtain ⟨v, h', hk, hs⟩ := gfun_sim CF_ref06_Words_sim mixed_ok (fun f h => by cases h) Try.func16 (by kernel_rfl) hc
  obtain ⟨vs, rfl, hl, hk⟩ := exTup_v hk
  obtain ⟨v0, t0, hk⟩ := exV_v hk
  obtain ⟨u0, e0, hk⟩ := exS_v hk; cases e0
  obtain ⟨v1, t1, hk⟩ := exV_v hk
  obtain ⟨u1, e1, hk⟩ := exI_v hk; cases e1
  obtain rfl := arr2 hl t0 t1
  exact ⟨_, h', hk, hs⟩
/-! F18 duffel/duffelref04.SameCodes -/
def CF_ref04_SameCodes  : Orc β := fun f args h K => none
def HF_ref04_SameCodes : Hints := ⟨[(4, [0, 1, 5], [(0, [])], some [(4, .ty 4)])], [], []⟩
noncomputable def BF_ref04_SameCodes : Code := match Try.f18.body with | some c => c | none => .skip
noncomputable def F_ref04_SameCodes_l0  (R : Nat) (n : Nat) (y3 : Sl) (y4 : Sl) (y5 : Int) (h : GH) (K0 : GH → Option β) (Kr : Bool → GH → Option β) : Option β := gloop (gcode Try.prog (CF_ref04_SameCodes ) Try.f18.ntmps HF_ref04_SameCodes R (at_ [true, true, false, true, false, false] BF_ref04_SameCodes)) [0, 1, 5] n [(0, Value.slice y3.a y3.n y3.c), (1, Value.slice y4.a y4.n y4.c), (5, Value.int .i64 y5)] h (fun i e' h' => bif Nat.beq i 0 then (K0 h') else none) (fun e' h' => exB (some (e'.get 4)) fun u19 => Kr u19 h')
set_option maxRecDepth 100000 in
theorem F_ref04_SameCodes_l0_succ  (R : Nat) (n : Nat) (y3 : Sl) (y4 : Sl) (y5 : Int) (h : GH) (K0 : GH → Option β) (Kr : Bool → GH → Option β) : F_ref04_SameCodes_l0  R (n + 1) y3 y4 y5 h K0 Kr =
    (bif decide (y5 < ((y3.n : Nat) : Int)) then exA y3.a fun g7 o8 => within y5 y3.n (exI .u32 (h.cell ⟨g7, o8 + y5.toNat * 2, none⟩) fun x9 => exI .i64 (h.cell ⟨g7, o8 + y5.toNat * 2 + 1, none⟩) fun x10 => exA y4.a fun g11 o12 => within y5 y4.n (exI .u32 (h.cell ⟨g11, o12 + y5.toNat * 2, none⟩) fun x13 => exI .i64 (h.cell ⟨g11, o12 + y5.toNat * 2 + 1, none⟩) fun x14 => (bif !((x9 == x13) && ((x10 == x14) && true)) then Kr false h else F_ref04_SameCodes_l0 R n y3 y4 (IntKind.wrap .i64 (y5 + 1)) h K0 Kr))) else K0 h) := by kernel_rfl
noncomputable def G_ref04_SameCodes  (R : Nat) (a1 : Sl) (a2 : Sl) (h : GH) (K : Bool → GH → Option β) : Option β := gfun Try.prog (CF_ref04_SameCodes ) HF_ref04_SameCodes R Try.f18 [Value.slice a1.a a1.n a1.c, Value.slice a2.a a2.n a2.c] h (fun v h' => exB (some v) fun u20 => K u20 h')
set_option maxRecDepth 100000 in
theorem F_ref04_SameCodes_gen  (R : Nat) (a1 : Sl) (a2 : Sl) (h : GH) (K : Bool → GH → Option β) : G_ref04_SameCodes  R a1 a2 h K =
    (bif ((a1.n : Nat) : Int) != ((a2.n : Nat) : Int) then K false h else F_ref04_SameCodes_l0 R R a1 a2 0 h (fun h15 => K true h15) (fun w16 h17 => K w16 h17)) := by kernel_rfl
noncomputable def F_ref04_SameCodes (R : Nat) (a1 : Sl) (a2 : Sl) (h : GH) (K : Bool → GH → Option β) : Option β := G_ref04_SameCodes  R a1 a2 h K
theorem CF_ref04_SameCodes_sim : SimOrc Try.prog (CF_ref04_SameCodes (β := β)) := by
  intro f args h K r hc
  cases hc
set_option maxRecDepth 100000 in
theorem F_ref04_SameCodes_sim {R : Nat} {r : β} {a1 : Sl} {a2 : Sl} {h : GH} {K : Value → GH → Option β} (hc : F_ref04_SameCodes R a1 a2 h (fun q0 h' => K (Value.bool q0) h') = some r) : ∃ v h', K v h' = some r ∧ CallSim Try.prog 18 [Value.slice a1.a a1.n a1.c, Value.slice a2.a a2.n a2.c] h v h' := by
  unfold F_ref04_SameCodes G_ref04_SameCodes at hc
  obtain ⟨v, h', hk, hs⟩ := gfun_sim CF_ref04_SameCodes_sim mixed_ok (fun f h => by cases h) Try.func18 (by kernel_rfl) hc
  obtain ⟨u0, e0, hk⟩ := exB_v hk; cases e0
  exact ⟨_, h', hk, hs⟩
/-! F19 duffel/duffelref01.SameInts -/
def CF_ref01_SameInts  : Orc β := fun f args h K => none
def HF_ref01_SameInts : Hints := ⟨[(4, [0, 1, 5], [(0, [])], some [(4, .ty 4)])], [], []⟩
noncomputable def BF_ref01_SameInts : Code := match Try.f19.body with | some c => c | none => .skip
noncomputable def F_ref01_SameInts_l0  (R : Nat) (n : Nat) (y3 : Sl) (y4 : Sl) (y5 : Int) (h : GH) (K0 : GH → Option β) (Kr : Bool → GH → Option β) : Option β := gloop (gcode Try.prog (CF_ref01_SameInts ) Try.f19.ntmps HF_ref01_SameInts R (at_ [true, true, false, true, false, false] BF_ref01_SameInts)) [0, 1, 5] n [(0, Value.slice y3.a y3.n y3.c), (1, Value.slice y4.a y4.n y4.c), (5, Value.int .i64 y5)] h (fun i e' h' => bif Nat.beq i 0 then (K0 h') else none) (fun e' h' => exB (some (e'.get 4)) fun u17 => Kr u17 h')
set_option maxRecDepth 100000 in
theorem F_ref01_SameInts_l0_succ  (R : Nat) (n : Nat) (y3 : Sl) (y4 : Sl) (y5 : Int) (h : GH) (K0 : GH → Option β) (Kr : Bool → GH → Option β) : F_ref01_SameInts_l0  R (n + 1) y3 y4 y5 h K0 Kr =
    (bif decide (y5 < ((y3.n : Nat) : Int)) then exA y3.a fun g7 o8 => within y5 y3.n (exI .i64 (h.cell ⟨g7, o8 + y5.toNat * 1, none⟩) fun x9 => exA y4.a fun g10 o11 => within y5 y4.n (exI .i64 (h.cell ⟨g10, o11 + y5.toNat * 1, none⟩) fun x12 => (bif x9 != x12 then Kr false h else F_ref01_SameInts_l0 R n y3 y4 (IntKind.wrap .i64 (y5 + 1)) h K0 Kr))) else K0 h) := by kernel_rfl
noncomputable def G_ref01_SameInts  (R : Nat) (a1 : Sl) (a2 : Sl) (h : GH) (K : Bool → GH → Option β) : Option β := gfun Try.prog (CF_ref01_SameInts ) HF_ref01_SameInts R Try.f19 [Value.slice a1.a a1.n a1.c, Value.slice a2.a a2.n a2.c] h (fun v h' => exB (some v) fun u18 => K u18 h')
set_option maxRecDepth 100000 in
theorem F_ref01_SameInts_gen  (R : Nat) (a1 : Sl) (a2 : Sl) (h : GH) (K : Bool → GH → Option β) : G_ref01_SameInts  R a1 a2 h K =
    (bif ((a1.n : Nat) : Int) != ((a2.n : Nat) : Int) then K false h else F_ref01_SameInts_l0 R R a1 a2 0 h (fun h13 => K true h13) (fun w14 h15 => K w14 h15)) := by kernel_rfl
noncomputable def F_ref01_SameInts (R : Nat) (a1 : Sl) (a2 : Sl) (h : GH) (K : Bool → GH → Option β) : Option β := G_ref01_SameInts  R a1 a2 h K
theorem CF_ref01_SameInts_sim : SimOrc Try.prog (CF_ref01_SameInts (β := β)) := by
  intro f args h K r hc
  cases hc
set_option maxRecDepth 100000 in
theorem F_ref01_SameInts_sim {R : Nat} {r : β} {a1 : Sl} {a2 : Sl} {h : GH} {K : Value → GH → Option β} (hc : F_ref01_SameInts R a1 a2 h (fun q0 h' => K (Value.bool q0) h') = some r) : ∃ v h', K v h' = some r ∧ CallSim Try.prog 19 [Value.slice a1.a a1.n a1.c, Value.slice a2.a a2.n a2.c] h v h' := by
  unfold F_ref01_SameInts G_ref01_SameInts at hc
  obtain ⟨v, h', hk, hs⟩ := gfun_sim CF_ref01_SameInts_sim mixed_ok (fun f h => by cases h) Try.func19 (by kernel_rfl) hc
  obtain ⟨u0, e0, hk⟩ := exB_v hk; cases e0
  exact ⟨_, h', hk, hs⟩
/-! F5 duffel/duffellaw06.SfanoWords -/
def CF_law06_SfanoWords (F_ref01_Ints : Sl → Int → GH → (Sl → GH → Option β) → Option β) (F_sfano_Codes : Sl → GH → (Sl → Int → GH → Option β) → Option β) (F_ref06_Words : Sl → GH → (Sl → Int → GH → Option β) → Option β) (F_sfano_New : Sl → GH → (Option Addr → Int → GH → Option β) → Option β) (F_ref04_SameCodes : Sl → Sl → GH → (Bool → GH → Option β) → Option β) (F_ref01_SameInts : Sl → Sl → GH → (Bool → GH → Option β) → Option β) (F_law06_lives : GH → (Bool → GH → Option β) → Option β) : Orc β := fun f args h K => bif Nat.beq f 9 then (match args with | [.slice p1a p1n p1c, .int .i64 p2] => F_ref01_Ints ⟨p1a, p1n, p1c⟩ p2 h (fun q4 h' => K (Value.slice q4.a q4.n q4.c) h') | _ => none) else (bif Nat.beq f 10 then (match args with | [.slice p1a p1n p1c] => F_sfano_Codes ⟨p1a, p1n, p1c⟩ h (fun q86 q87 h' => K (Value.tuple #[Value.slice q86.a q86.n q86.c, Value.int .i64 q87]) h') | _ => none) else (bif Nat.beq f 16 then (match args with | [.slice p1a p1n p1c] => F_ref06_Words ⟨p1a, p1n, p1c⟩ h (fun q63 q64 h' => K (Value.tuple #[Value.slice q63.a q63.n q63.c, Value.int .i64 q64]) h') | _ => none) else (bif Nat.beq f 17 then (match args with | [.slice p1a p1n p1c] => F_sfano_New ⟨p1a, p1n, p1c⟩ h (fun q26 q27 h' => K (Value.tuple #[Value.pointer q26, Value.int .i64 q27]) h') | _ => none) else (bif Nat.beq f 18 then (match args with | [.slice p1a p1n p1c, .slice p2a p2n p2c] => F_ref04_SameCodes ⟨p1a, p1n, p1c⟩ ⟨p2a, p2n, p2c⟩ h (fun q18 h' => K (Value.bool q18) h') | _ => none) else (bif Nat.beq f 19 then (match args with | [.slice p1a p1n p1c, .slice p2a p2n p2c] => F_ref01_SameInts ⟨p1a, p1n, p1c⟩ ⟨p2a, p2n, p2c⟩ h (fun q16 h' => K (Value.bool q16) h') | _ => none) else (bif Nat.beq f 11 then (match args with | [] => F_law06_lives  h (fun q1 h' => K (Value.bool q1) h') | _ => none) else none))))))
def HF_law06_SfanoWords : Hints := ⟨[], [], []⟩
noncomputable def G_law06_SfanoWords (F_ref01_Ints : Sl → Int → GH → (Sl → GH → Option β) → Option β) (F_sfano_Codes : Sl → GH → (Sl → Int → GH → Option β) → Option β) (F_ref06_Words : Sl → GH → (Sl → Int → GH → Option β) → Option β) (F_sfano_New : Sl → GH → (Option Addr → Int → GH → Option β) → Option β) (F_ref04_SameCodes : Sl → Sl → GH → (Bool → GH → Option β) → Option β) (F_ref01_SameInts : Sl → Sl → GH → (Bool → GH → Option β) → Option β) (F_law06_lives : GH → (Bool → GH → Option β) → Option β) (R : Nat) (a1 : Sl) (h : GH) (K : Bool → GH → Option β) : Option β := gfun Try.prog (CF_law06_SfanoWords F_ref01_Ints F_sfano_Codes F_ref06_Words F_sfano_New F_ref04_SameCodes F_ref01_SameInts F_law06_lives) HF_law06_SfanoWords R Try.f5 [Value.slice a1.a a1.n a1.c] h (fun v h' => exB (some v) fun u22 => K u22 h')
set_option maxRecDepth 100000 in
theorem F_law06_SfanoWords_gen (F_ref01_Ints : Sl → Int → GH → (Sl → GH → Option β) → Option β) (F_sfano_Codes : Sl → GH → (Sl → Int → GH → Option β) → Option β) (F_ref06_Words : Sl → GH → (Sl → Int → GH → Option β) → Option β) (F_sfano_New : Sl → GH → (Option Addr → Int → GH → Option β) → Option β) (F_ref04_SameCodes : Sl → Sl → GH → (Bool → GH → Option β) → Option β) (F_ref01_SameInts : Sl → Sl → GH → (Bool → GH → Option β) → Option β) (F_law06_lives : GH → (Bool → GH → Option β) → Option β) (R : Nat) (a1 : Sl) (h : GH) (K : Bool → GH → Option β) : G_law06_SfanoWords F_ref01_Ints F_sfano_Codes F_ref06_Words F_sfano_New F_ref04_SameCodes F_ref01_SameInts F_law06_lives R a1 h K =
    F_ref01_Ints a1 260 h fun r2 h3 => gappS 1 8 ⟨none, 0, 0⟩ r2 h3 fun s4 h5 => F_sfano_Codes s4 h5 fun r6 r7 h8 => F_ref06_Words r2 h8 fun r9 r10 h11 => F_sfano_New s4 h11 fun r12 r13 h14 => F_ref04_SameCodes r6 r9 h14 fun r15 h16 => (bif r15 then (bif r7 == r10 then (bif r13 == r10 then (bif r12.isNone == (r10 != 0) then F_ref01_SameInts s4 r2 h16 fun r17 h18 => (bif r17 then F_law06_lives h18 fun r19 h20 => K r19 h20 else K false h18) else K false h16) else K false h16) else K false h16) else K false h16) := by kernel_rfl
noncomputable def F_law06_SfanoWords (R : Nat) (a1 : Sl) (h : GH) (K : Bool → GH → Option β) : Option β := G_law06_SfanoWords (F_ref01_Ints R) (F_sfano_Codes R) (F_ref06_Words R) (F_sfano_New R) (F_ref04_SameCodes R) (F_ref01_SameInts R) F_law06_lives R a1 h K
set_option maxRecDepth 100000 in
theorem CF_law06_SfanoWords_sim {R : Nat} : SimOrc Try.prog (CF_law06_SfanoWords (F_ref01_Ints R) (F_sfano_Codes R) (F_ref06_Words R) (F_sfano_New R) (F_ref04_SameCodes R) (F_ref01_SameInts R) F_law06_lives (β := β)) := by
  intro f args h K r hc
  unfold CF_law06_SfanoWords at hc
  cases hb : Nat.beq f 9 with
  | true =>
    rw [hb] at hc
    simp only [cond_true] at hc
    obtain rfl := Nat.eq_of_beq_eq_true hb
    split at hc
    · exact any_call (F_ref01_Ints_sim (K := K) hc)
    · cases hc
  | false =>
  rw [hb] at hc
  simp only [cond_false] at hc
  cases hb : Nat.beq f 10 with
  | true =>
    rw [hb] at hc
    simp only [cond_true] at hc
    obtain rfl := Nat.eq_of_beq_eq_true hb
    split at hc
    · exact any_call (F_sfano_Codes_sim (K := K) hc)
    · cases hc
  | false =>
  rw [hb] at hc
  simp only [cond_false] at hc
  cases hb : Nat.beq f 16 with
  | true =>
    rw [hb] at hc
    simp only [cond_true] at hc
    obtain rfl := Nat.eq_of_beq_eq_true hb
    split at hc
    · exact any_call (F_ref06_Words_sim (K := K) hc)
    · cases hc
  | false =>
  rw [hb] at hc
  simp only [cond_false] at hc
  cases hb : Nat.beq f 17 with
  | true =>
    rw [hb] at hc
    simp only [cond_true] at hc
    obtain rfl := Nat.eq_of_beq_eq_true hb
    split at hc
    · exact any_call (F_sfano_New_sim (K := K) hc)
    · cases hc
  | false =>
  rw [hb] at hc
  simp only [cond_false] at hc
  cases hb : Nat.beq f 18 with
  | true =>
    rw [hb] at hc
    simp only [cond_true] at hc
    obtain rfl := Nat.eq_of_beq_eq_true hb
    split at hc
    · exact any_call (F_ref04_SameCodes_sim (K := K) hc)
    · cases hc
  | false =>
  rw [hb] at hc
  simp only [cond_false] at hc
  cases hb : Nat.beq f 19 with
  | true =>
    rw [hb] at hc
    simp only [cond_true] at hc
    obtain rfl := Nat.eq_of_beq_eq_true hb
    split at hc
    · exact any_call (F_ref01_SameInts_sim (K := K) hc)
    · cases hc
  | false =>
  rw [hb] at hc
  simp only [cond_false] at hc
  cases hb : Nat.beq f 11 with
  | true =>
    rw [hb] at hc
    simp only [cond_true] at hc
    obtain rfl := Nat.eq_of_beq_eq_true hb
    split at hc
    · exact any_call (F_law06_lives_sim (K := K) hc)
    · cases hc
  | false =>
  rw [hb] at hc
  simp only [cond_false] at hc
  cases hc
set_option maxRecDepth 100000 in
theorem F_law06_SfanoWords_sim {R : Nat} {r : β} {a1 : Sl} {h : GH} {K : Value → GH → Option β} (hc : F_law06_SfanoWords R a1 h (fun q0 h' => K (Value.bool q0) h') = some r) : ∃ v h', K v h' = some r ∧ CallSim Try.prog 5 [Value.slice a1.a a1.n a1.c] h v h' := by
  unfold F_law06_SfanoWords G_law06_SfanoWords at hc
  obtain ⟨v, h', hk, hs⟩ := gfun_sim CF_law06_SfanoWords_sim mixed_ok (fun f h => by cases h) Try.func5 (by kernel_rfl) hc
  obtain ⟨u0, e0, hk⟩ := exB_v hk; cases e0
  exact ⟨_, h', hk, hs⟩
/-! F20 duffel/duffelref01.Cut -/
def CF_ref01_Cut  : Orc β := fun f args h K => none
def HF_ref01_Cut : Hints := ⟨[], [], []⟩
noncomputable def G_ref01_Cut  (R : Nat) (a1 : Sl) (a2 : Int) (h : GH) (K : Sl → GH → Option β) : Option β := gfun Try.prog (CF_ref01_Cut ) HF_ref01_Cut R Try.f20 [Value.slice a1.a a1.n a1.c, Value.int .i64 a2] h (fun v h' => exS (some v) fun u5 => K u5 h')
set_option maxRecDepth 100000 in
theorem F_ref01_Cut_gen  (R : Nat) (a1 : Sl) (a2 : Int) (h : GH) (K : Sl → GH → Option β) : G_ref01_Cut  R a1 a2 h K =
    (bif decide (((a1.n : Nat) : Int) > a2) then bnd a2 a1.c fun m3 => K ⟨addO a1.a (0 * 1), m3 - 0, a1.c - 0⟩ h else K a1 h) := by kernel_rfl
noncomputable def F_ref01_Cut (R : Nat) (a1 : Sl) (a2 : Int) (h : GH) (K : Sl → GH → Option β) : Option β := G_ref01_Cut  R a1 a2 h K
theorem CF_ref01_Cut_sim : SimOrc Try.prog (CF_ref01_Cut (β := β)) := by
  intro f args h K r hc
  cases hc
set_option maxRecDepth 100000 in
theorem F_ref01_Cut_sim {R : Nat} {r : β} {a1 : Sl} {a2 : Int} {h : GH} {K : Value → GH → Option β} (hc : F_ref01_Cut R a1 a2 h (fun q0 h' => K (Value.slice q0.a q0.n q0.c) h') = some r) : ∃ v h', K v h' = some r ∧ CallSim Try.prog 20 [Value.slice a1.a a1.n a1.c, Value.int .i64 a2] h v h' := by
  unfold F_ref01_Cut G_ref01_Cut at hc
  obtain ⟨v, h', hk, hs⟩ := gfun_sim CF_ref01_Cut_sim mixed_ok (fun f h => by cases h) Try.func20 (by kernel_rfl) hc
  obtain ⟨u0, e0, hk⟩ := exS_v hk; cases e0
  exact ⟨_, h', hk, hs⟩
/-! F54 (*duffel/duffelref01.Reader).Left -/
def CF_ref01_Reader_Left  : Orc β := fun f args h K => none
def HF_ref01_Reader_Left : Hints := ⟨[], [], []⟩
noncomputable def G_ref01_Reader_Left  (R : Nat) (a1 : Option Addr) (h : GH) (K : Int → GH → Option β) : Option β := gfun Try.prog (CF_ref01_Reader_Left ) HF_ref01_Reader_Left R Try.f54 [Value.pointer a1] h (fun v h' => exI .i64 (some v) fun u12 => K u12 h')
set_option maxRecDepth 100000 in
theorem F_ref01_Reader_Left_gen  (R : Nat) (a1 : Option Addr) (h : GH) (K : Int → GH → Option β) : G_ref01_Reader_Left  R a1 h K =
    exA a1 fun g2 o3 => exI .i64 (h.cell ⟨g2, o3 + 2, none⟩) fun x4 => (bif x4 != 0 then K 0 h else exA a1 fun g5 o6 => exS (h.cell ⟨g5, o6 + 0, none⟩) fun x7 => exA a1 fun g8 o9 => exI .i64 (h.cell ⟨g8, o9 + 1, none⟩) fun x10 => K (IntKind.wrap .i64 ((IntKind.wrap .i64 (8 * ((x7.n : Nat) : Int))) - x10)) h) := by kernel_rfl
noncomputable def F_ref01_Reader_Left (R : Nat) (a1 : Option Addr) (h : GH) (K : Int → GH → Option β) : Option β := G_ref01_Reader_Left  R a1 h K
theorem CF_ref01_Reader_Left_sim : SimOrc Try.prog (CF_ref01_Reader_Left (β := β)) := by
  intro f args h K r hc
  cases hc
set_option maxRecDepth 100000 in
theorem F_ref01_Reader_Left_sim {R : Nat} {r : β} {a1 : Option Addr} {h : GH} {K : Value → GH → Option β} (hc : F_ref01_Reader_Left R a1 h (fun q0 h' => K (Value.int .i64 q0) h') = some r) : ∃ v h', K v h' = some r ∧ CallSim Try.prog 54 [Value.pointer a1] h v h' := by
  unfold F_ref01_Reader_Left G_ref01_Reader_Left at hc
  obtain ⟨v, h', hk, hs⟩ := gfun_sim CF_ref01_Reader_Left_sim mixed_ok (fun f h => by cases h) Try.func54 (by kernel_rfl) hc
  obtain ⟨u0, e0, hk⟩ := exI_v hk; cases e0
  exact ⟨_, h', hk, hs⟩
/-! F63 duffel/duffelref01.At -/
def CF_ref01_At  : Orc β := fun f args h K => none
def HF_ref01_At : Hints := ⟨[], [], []⟩
noncomputable def G_ref01_At  (R : Nat) (a1 : Sl) (a2 : Int) (h : GH) (K : Int → GH → Option β) : Option β := gfun Try.prog (CF_ref01_At ) HF_ref01_At R Try.f63 [Value.slice a1.a a1.n a1.c, Value.int .i64 a2] h (fun v h' => exI .u32 (some v) fun u7 => K u7 h')
set_option maxRecDepth 100000 in
theorem F_ref01_At_gen  (R : Nat) (a1 : Sl) (a2 : Int) (h : GH) (K : Int → GH → Option β) : G_ref01_At  R a1 a2 h K =
    (bif decide ((IntKind.wrap .i64 (Int.tdiv a2 8)) ≥ ((a1.n : Nat) : Int)) then K 0 h else exA a1.a fun g3 o4 => within (IntKind.wrap .i64 (Int.tdiv a2 8)) a1.n (exI .u8 (h.cell ⟨g3, o4 + (IntKind.wrap .i64 (Int.tdiv a2 8)).toNat * 1, none⟩) fun x5 => (bif decide ((IntKind.wrap .u64 (Int.tmod a2 8)) < 0) then none else K (Int.tmod (shrI .u32 (IntKind.wrap .u32 x5) (IntKind.wrap .u64 (Int.tmod a2 8))) 2) h))) := by kernel_rfl
noncomputable def F_ref01_At (R : Nat) (a1 : Sl) (a2 : Int) (h : GH) (K : Int → GH → Option β) : Option β := G_ref01_At  R a1 a2 h K
theorem CF_ref01_At_sim : SimOrc Try.prog (CF_ref01_At (β := β)) := by
  intro f args h K r hc
  cases hc
set_option maxRecDepth 100000 in
theorem F_ref01_At_sim {R : Nat} {r : β} {a1 : Sl} {a2 : Int} {h : GH} {K : Value → GH → Option β} (hc : F_ref01_At R a1 a2 h (fun q0 h' => K (Value.int .u32 q0) h') = some r) : ∃ v h', K v h' = some r ∧ CallSim Try.prog 63 [Value.slice a1.a a1.n a1.c, Value.int .i64 a2] h v h' := by
  unfold F_ref01_At G_ref01_At at hc
  obtain ⟨v, h', hk, hs⟩ := gfun_sim CF_ref01_At_sim mixed_ok (fun f h => by cases h) Try.func63 (by kernel_rfl) hc
  obtain ⟨u0, e0, hk⟩ := exI_v hk; cases e0
  exact ⟨_, h', hk, hs⟩
/-! F55 duffel/duffelref01.Number -/
def CF_ref01_Number (F_ref01_At : Sl → Int → GH → (Int → GH → Option β) → Option β) : Orc β := fun f args h K => bif Nat.beq f 63 then (match args with | [.slice p1a p1n p1c, .int .i64 p2] => F_ref01_At ⟨p1a, p1n, p1c⟩ p2 h (fun q6 h' => K (Value.int .u32 q6) h') | _ => none) else none
def HF_ref01_Number : Hints := ⟨[(3, [0, 1, 7, 8], [(0, [(7, .ty 29)])], none)], [], []⟩
noncomputable def BF_ref01_Number : Code := match Try.f55.body with | some c => c | none => .skip
noncomputable def F_ref01_Number_l0 (F_ref01_At : Sl → Int → GH → (Int → GH → Option β) → Option β) (R : Nat) (n : Nat) (y4 : Sl) (y5 : Int) (y6 : Int) (y7 : Int) (h : GH) (K0 : Int → GH → Option β) : Option β := gloop (gcode Try.prog (CF_ref01_Number F_ref01_At) Try.f55.ntmps HF_ref01_Number R (at_ [true, true, false, true, false, false] BF_ref01_Number)) [0, 1, 7, 8] n [(0, Value.slice y4.a y4.n y4.c), (1, Value.int .i64 y5), (7, Value.int .u32 y6), (8, Value.int .i64 y7)] h (fun i e' h' => bif Nat.beq i 0 then (exI .u32 (some (e'.get 7)) fun u14 => K0 u14 h') else none) (fun e' h' => none)
set_option maxRecDepth 100000 in
theorem F_ref01_Number_l0_succ (F_ref01_At : Sl → Int → GH → (Int → GH → Option β) → Option β) (R : Nat) (n : Nat) (y4 : Sl) (y5 : Int) (y6 : Int) (y7 : Int) (h : GH) (K0 : Int → GH → Option β) : F_ref01_Number_l0 F_ref01_At R (n + 1) y4 y5 y6 y7 h K0 =
    (bif decide (y7 ≥ 0) then F_ref01_At y4 (IntKind.wrap .i64 (y5 + y7)) h fun r9 h10 => F_ref01_Number_l0 F_ref01_At R n y4 y5 (IntKind.wrap .u32 ((IntKind.wrap .u32 (y6 * 2)) + r9)) (IntKind.wrap .i64 (y7 - 1)) h10 K0 else K0 y6 h) := by kernel_rfl
noncomputable def G_ref01_Number (F_ref01_At : Sl → Int → GH → (Int → GH → Option β) → Option β) (R : Nat) (a1 : Sl) (a2 : Int) (a3 : Int) (h : GH) (K : Int → GH → Option β) : Option β := gfun Try.prog (CF_ref01_Number F_ref01_At) HF_ref01_Number R Try.f55 [Value.slice a1.a a1.n a1.c, Value.int .i64 a2, Value.int .i64 a3] h (fun v h' => exI .u32 (some v) fun u15 => K u15 h')
set_option maxRecDepth 100000 in
theorem F_ref01_Number_gen (F_ref01_At : Sl → Int → GH → (Int → GH → Option β) → Option β) (R : Nat) (a1 : Sl) (a2 : Int) (a3 : Int) (h : GH) (K : Int → GH → Option β) : G_ref01_Number F_ref01_At R a1 a2 a3 h K =
    F_ref01_Number_l0 F_ref01_At R R a1 a2 0 (IntKind.wrap .i64 (a3 - 1)) h (fun w11 h12 => K w11 h12) := by kernel_rfl
noncomputable def F_ref01_Number (R : Nat) (a1 : Sl) (a2 : Int) (a3 : Int) (h : GH) (K : Int → GH → Option β) : Option β := G_ref01_Number (F_ref01_At R) R a1 a2 a3 h K
set_option maxRecDepth 100000 in
theorem CF_ref01_Number_sim {R : Nat} : SimOrc Try.prog (CF_ref01_Number (F_ref01_At R) (β := β)) := by
  intro f args h K r hc
  unfold CF_ref01_Number at hc
  cases hb : Nat.beq f 63 with
  | true =>
    rw [hb] at hc
    simp only [cond_true] at hc
    obtain rfl := Nat.eq_of_beq_eq_true hb
    split at hc
    · exact any_call (F_ref01_At_sim (K := K) hc)
    · cases hc
  | false =>
  rw [hb] at hc
  simp only [cond_false] at hc
  cases hc
set_option maxRecDepth 100000 in
theorem F_ref01_Number_sim {R : Nat} {r : β} {a1 : Sl} {a2 : Int} {a3 : Int} {h : GH} {K : Value → GH → Option β} (hc : F_ref01_Number R a1 a2 a3 h (fun q0 h' => K (Value.int .u32 q0) h') = some r) : ∃ v h', K v h' = some r ∧ CallSim Try.prog 55 [Value.slice a1.a a1.n a1.c, Value.int .i64 a2, Value.int .i64 a3] h v h' := by
  unfold F_ref01_Number G_ref01_Number at hc
  obtain ⟨v, h', hk, hs⟩ := gfun_sim CF_ref01_Number_sim mixed_ok (fun f h => by cases h) Try.func55 (by kernel_rfl) hc
  obtain ⟨u0, e0, hk⟩ := exI_v hk; cases e0
  exact ⟨_, h', hk, hs⟩
/-! F45 (*duffel/duffelref01.Reader).Bits -/
def CF_ref01_Reader_Bits (F_ref01_Reader_Left : Option Addr → GH → (Int → GH → Option β) → Option β) (F_ref01_Number : Sl → Int → Int → GH → (Int → GH → Option β) → Option β) : Orc β := fun f args h K => bif Nat.beq f 54 then (match args with | [.pointer p1] => F_ref01_Reader_Left p1 h (fun q11 h' => K (Value.int .i64 q11) h') | _ => none) else (bif Nat.beq f 55 then (match args with | [.slice p1a p1n p1c, .int .i64 p2, .int .i64 p3] => F_ref01_Number ⟨p1a, p1n, p1c⟩ p2 p3 h (fun q13 h' => K (Value.int .u32 q13) h') | _ => none) else none)
def HF_ref01_Reader_Bits : Hints := ⟨[], [], []⟩
noncomputable def G_ref01_Reader_Bits (F_ref01_Reader_Left : Option Addr → GH → (Int → GH → Option β) → Option β) (F_ref01_Number : Sl → Int → Int → GH → (Int → GH → Option β) → Option β) (R : Nat) (a1 : Option Addr) (a2 : Int) (h : GH) (K : Int → GH → Option β) : Option β := gfun Try.prog (CF_ref01_Reader_Bits F_ref01_Reader_Left F_ref01_Number) HF_ref01_Reader_Bits R Try.f45 [Value.pointer a1, Value.int .i64 a2] h (fun v h' => exI .u32 (some v) fun u32 => K u32 h')
set_option maxRecDepth 100000 in
theorem F_ref01_Reader_Bits_gen (F_ref01_Reader_Left : Option Addr → GH → (Int → GH → Option β) → Option β) (F_ref01_Number : Sl → Int → Int → GH → (Int → GH → Option β) → Option β) (R : Nat) (a1 : Option Addr) (a2 : Int) (h : GH) (K : Int → GH → Option β) : G_ref01_Reader_Bits F_ref01_Reader_Left F_ref01_Number R a1 a2 h K =
    exA a1 fun g3 o4 => exI .i64 (h.cell ⟨g3, o4 + 2, none⟩) fun x5 => (bif x5 != 0 then K 0 h else (bif decide (a2 < 0) then exA a1 fun g6 o7 => gput g6 (o7 + 2) [Value.int .i64 2] h fun h8 => K 0 h8 else (bif decide (a2 > 32) then exA a1 fun g9 o10 => gput g9 (o10 + 2) [Value.int .i64 2] h fun h11 => K 0 h11 else F_ref01_Reader_Left a1 h fun r12 h13 => (bif decide (a2 > r12) then exA a1 fun g14 o15 => gput g14 (o15 + 2) [Value.int .i64 3] h13 fun h16 => K 0 h16 else exA a1 fun g17 o18 => exI .i64 (h13.cell ⟨g17, o18 + 1, none⟩) fun x19 => exA a1 fun g20 o21 => gput g20 (o21 + 1) [Value.int .i64 (IntKind.wrap .i64 (x19 + a2))] h13 fun h22 => exA a1 fun g23 o24 => exS (h22.cell ⟨g23, o24 + 0, none⟩) fun x25 => exA a1 fun g26 o27 => exI .i64 (h22.cell ⟨g26, o27 + 1, none⟩) fun x28 => F_ref01_Number x25 (IntKind.wrap .i64 (x28 - a2)) a2 h22 fun r29 h30 => K r29 h30)))) := by kernel_rfl
noncomputable def F_ref01_Reader_Bits (R : Nat) (a1 : Option Addr) (a2 : Int) (h : GH) (K : Int → GH → Option β) : Option β := G_ref01_Reader_Bits (F_ref01_Reader_Left R) (F_ref01_Number R) R a1 a2 h K
set_option maxRecDepth 100000 in
theorem CF_ref01_Reader_Bits_sim {R : Nat} : SimOrc Try.prog (CF_ref01_Reader_Bits (F_ref01_Reader_Left R) (F_ref01_Number R) (β := β)) := by
  intro f args h K r hc
  unfold CF_ref01_Reader_Bits at hc
  cases hb : Nat.beq f 54 with
  | true =>
    rw [hb] at hc
    simp only [cond_true] at hc
    obtain rfl := Nat.eq_of_beq_eq_true hb
    split at hc
    · exact any_call (F_ref01_Reader_Left_sim (K := K) hc)
    · cases hc
  | false =>
  rw [hb] at hc
  simp only [cond_false] at hc
  cases hb : Nat.beq f 55 with
  | true =>
    rw [hb] at hc
    simp only [cond_true] at hc
    obtain rfl := Nat.eq_of_beq_eq_true hb
    split at hc
    · exact any_call (F_ref01_Number_sim (K := K) hc)
    · cases hc
  | false =>
  rw [hb] at hc
  simp only [cond_false] at hc
  cases hc
set_option maxRecDepth 100000 in
theorem F_ref01_Reader_Bits_sim {R : Nat} {r : β} {a1 : Option Addr} {a2 : Int} {h : GH} {K : Value → GH → Option β} (hc : F_ref01_Reader_Bits R a1 a2 h (fun q0 h' => K (Value.int .u32 q0) h') = some r) : ∃ v h', K v h' = some r ∧ CallSim Try.prog 45 [Value.pointer a1, Value.int .i64 a2] h v h' := by
  unfold F_ref01_Reader_Bits G_ref01_Reader_Bits at hc
  obtain ⟨v, h', hk, hs⟩ := gfun_sim CF_ref01_Reader_Bits_sim mixed_ok (fun f h => by cases h) Try.func45 (by kernel_rfl) hc
  obtain ⟨u0, e0, hk⟩ := exI_v hk; cases e0
  exact ⟨_, h', hk, hs⟩
/-! F23 duffel/duffelref06.Next -/
def CF_ref06_Next (F_ref01_Reader_Bits : Option Addr → Int → GH → (Int → GH → Option β) → Option β) : Orc β := fun f args h K => bif Nat.beq f 45 then (match args with | [.pointer p1, .int .i64 p2] => F_ref01_Reader_Bits p1 p2 h (fun q31 h' => K (Value.int .u32 q31) h') | _ => none) else none
def HF_ref06_Next : Hints := ⟨[(3, [0, 1, 6, 7], [(0, [])], some [(4, .ty 3), (5, .ty 3)]), (9, [0, 1, 6, 7, 8, 9], [(2, [(0, .ty 24), (1, .ty 51), (6, .ty 29), (7, .ty 3), (8, .ty 29)])], none), (14, [0, 1, 6, 7, 10], [(4, [(0, .ty 24), (1, .ty 51), (6, .ty 29), (7, .ty 3)])], some [(4, .ty 3), (5, .ty 3)])], [], []⟩
noncomputable def BF_ref06_Next : Code := match Try.f23.body with | some c => c | none => .skip
noncomputable def F_ref06_Next_l0 (F_ref01_Reader_Bits : Option Addr → Int → GH → (Int → GH → Option β) → Option β) (R : Nat) (n : Nat) (y3 : Sl) (y4 : Option Addr) (y5 : Int) (y6 : Int) (h : GH) (K0 : GH → Option β) (Kr : Int → Int → GH → Option β) : Option β := gloop (gcode Try.prog (CF_ref06_Next F_ref01_Reader_Bits) Try.f23.ntmps HF_ref06_Next R (at_ [true, true, false, true, false, false] BF_ref06_Next)) [0, 1, 6, 7] n [(0, Value.slice y3.a y3.n y3.c), (1, Value.pointer y4), (6, Value.int .u32 y5), (7, Value.int .i64 y6)] h (fun i e' h' => bif Nat.beq i 0 then (K0 h') else none) (fun e' h' => exI .i64 (some (e'.get 4)) fun u65 => exI .i64 (some (e'.get 5)) fun u66 => Kr u65 u66 h')
noncomputable def F_ref06_Next_l1 (F_ref01_Reader_Bits : Option Addr → Int → GH → (Int → GH → Option β) → Option β) (R : Nat) (n : Nat) (y17 : Sl) (y18 : Option Addr) (y19 : Int) (y20 : Int) (y21 : Int) (y22 : Int) (h : GH) (K2 : Sl → Option Addr → Int → Int → Int → GH → Option β) : Option β := gloop (gcode Try.prog (CF_ref06_Next F_ref01_Reader_Bits) Try.f23.ntmps HF_ref06_Next R (at_ [true, true, false, true, false, false, true, false, false, true, true, false, true, false, false] BF_ref06_Next)) [0, 1, 6, 7, 8, 9] n [(0, Value.slice y17.a y17.n y17.c), (1, Value.pointer y18), (6, Value.int .u32 y19), (7, Value.int .i64 y20), (8, Value.int .u32 y21), (9, Value.int .i64 y22)] h (fun i e' h' => bif Nat.beq i 2 then (exS (some (e'.get 0)) fun u67 => exP (some (e'.get 1)) fun u68 => exI .u32 (some (e'.get 6)) fun u69 => exI .i64 (some (e'.get 7)) fun u70 => exI .u32 (some (e'.get 8)) fun u71 => K2 u67 u68 u69 u70 u71 h') else none) (fun e' h' => none)
noncomputable def F_ref06_Next_l2 (F_ref01_Reader_Bits : Option Addr → Int → GH → (Int → GH → Option β) → Option β) (R : Nat) (n : Nat) (y34 : Sl) (y35 : Option Addr) (y36 : Int) (y37 : Int) (y38 : Int) (h : GH) (K4 : Sl → Option Addr → Int → Int → GH → Option β) (Kr : Int → Int → GH → Option β) : Option β := gloop (gcode Try.prog (CF_ref06_Next F_ref01_Reader_Bits) Try.f23.ntmps HF_ref06_Next R (at_ [true, true, false, true, false, false, true, false, false, true, true, true, true, true, false, false] BF_ref06_Next)) [0, 1, 6, 7, 10] n [(0, Value.slice y34.a y34.n y34.c), (1, Value.pointer y35), (6, Value.int .u32 y36), (7, Value.int .i64 y37), (10, Value.int .i64 y38)] h (fun i e' h' => bif Nat.beq i 4 then (exS (some (e'.get 0)) fun u72 => exP (some (e'.get 1)) fun u73 => exI .u32 (some (e'.get 6)) fun u74 => exI .i64 (some (e'.get 7)) fun u75 => K4 u72 u73 u74 u75 h') else none) (fun e' h' => exI .i64 (some (e'.get 4)) fun u76 => exI .i64 (some (e'.get 5)) fun u77 => Kr u76 u77 h')
set_option maxRecDepth 100000 in
theorem F_ref06_Next_l2_succ (F_ref01_Reader_Bits : Option Addr → Int → GH → (Int → GH → Option β) → Option β) (R : Nat) (n : Nat) (y34 : Sl) (y35 : Option Addr) (y36 : Int) (y37 : Int) (y38 : Int) (h : GH) (K4 : Sl → Option Addr → Int → Int → GH → Option β) (Kr : Int → Int → GH → Option β) : F_ref06_Next_l2 F_ref01_Reader_Bits R (n + 1) y34 y35 y36 y37 y38 h K4 Kr =
    (bif decide (y38 < ((y34.n : Nat) : Int)) then exA y34.a fun g45 o46 => within y38 y34.n (exI .i64 (h.cell ⟨g45, o46 + y38.toNat * 2 + 1, none⟩) fun x47 => (bif x47 == y37 then exA y34.a fun g48 o49 => within y38 y34.n (exI .u32 (h.cell ⟨g48, o49 + y38.toNat * 2 + 0, none⟩) fun x50 => (bif x50 == y36 then Kr y38 0 h else F_ref06_Next_l2 F_ref01_Reader_Bits R n y34 y35 y36 y37 (IntKind.wrap .i64 (y38 + 1)) h K4 Kr)) else F_ref06_Next_l2 F_ref01_Reader_Bits R n y34 y35 y36 y37 (IntKind.wrap .i64 (y38 + 1)) h K4 Kr)) else K4 y34 y35 y36 y37 h) := by kernel_rfl
set_option maxRecDepth 100000 in
theorem F_ref06_Next_l1_succ (F_ref01_Reader_Bits : Option Addr → Int → GH → (Int → GH → Option β) → Option β) (R : Nat) (n : Nat) (y17 : Sl) (y18 : Option Addr) (y19 : Int) (y20 : Int) (y21 : Int) (y22 : Int) (h : GH) (K2 : Sl → Option Addr → Int → Int → Int → GH → Option β) : F_ref06_Next_l1 F_ref01_Reader_Bits R (n + 1) y17 y18 y19 y20 y21 y22 h K2 =
    (bif decide (y22 < y20) then F_ref06_Next_l1 F_ref01_Reader_Bits R n y17 y18 y19 y20 (IntKind.wrap .u32 (y21 * 2)) (IntKind.wrap .i64 (y22 + 1)) h K2 else K2 y17 y18 y19 y20 y21 h) := by kernel_rfl
set_option maxRecDepth 100000 in
theorem F_ref06_Next_l0_succ (F_ref01_Reader_Bits : Option Addr → Int → GH → (Int → GH → Option β) → Option β) (R : Nat) (n : Nat) (y3 : Sl) (y4 : Option Addr) (y5 : Int) (y6 : Int) (h : GH) (K0 : GH → Option β) (Kr : Int → Int → GH → Option β) : F_ref06_Next_l0 F_ref01_Reader_Bits R (n + 1) y3 y4 y5 y6 h K0 Kr =
    (bif decide (y6 ≤ 16) then F_ref01_Reader_Bits y4 1 h fun r9 h10 => exA y4 fun g11 o12 => exI .i64 (h10.cell ⟨g11, o12 + 2, none⟩) fun x13 => (bif x13 != 0 then exA y4 fun g14 o15 => exI .i64 (h10.cell ⟨g14, o15 + 2, none⟩) fun x16 => Kr (-1) x16 h10 else F_ref06_Next_l1 F_ref01_Reader_Bits R R y3 y4 y5 y6 r9 1 h10 (fun w28 w29 w30 w31 w32 h33 => F_ref06_Next_l2 F_ref01_Reader_Bits R R w28 w29 (IntKind.wrap .u32 (w30 + w32)) w31 0 h33 (fun w51 w52 w53 w54 h55 => F_ref06_Next_l0 F_ref01_Reader_Bits R n w51 w52 w53 (IntKind.wrap .i64 (w54 + 1)) h55 K0 Kr) (fun w56 w57 h58 => Kr w56 w57 h58))) else K0 h) := by kernel_rfl
noncomputable def G_ref06_Next (F_ref01_Reader_Bits : Option Addr → Int → GH → (Int → GH → Option β) → Option β) (R : Nat) (a1 : Sl) (a2 : Option Addr) (h : GH) (K : Int → Int → GH → Option β) : Option β := gfun Try.prog (CF_ref06_Next F_ref01_Reader_Bits) HF_ref06_Next R Try.f23 [Value.slice a1.a a1.n a1.c, Value.pointer a2] h (fun v h' => exTup 2 v fun vs => exV (nth vs 0) fun v0 => exI .i64 (some v0) fun u78 => exV (nth vs 1) fun v1 => exI .i64 (some v1) fun u79 => K u78 u79 h')
set_option maxRecDepth 100000 in
theorem F_ref06_Next_gen (F_ref01_Reader_Bits : Option Addr → Int → GH → (Int → GH → Option β) → Option β) (R : Nat) (a1 : Sl) (a2 : Option Addr) (h : GH) (K : Int → Int → GH → Option β) : G_ref06_Next F_ref01_Reader_Bits R a1 a2 h K =
    F_ref06_Next_l0 F_ref01_Reader_Bits R R a1 a2 0 1 h (fun h59 => K (-1) 6 h59) (fun w60 w61 h62 => K w60 w61 h62) := by kernel_rfl
noncomputable def F_ref06_Next (R : Nat) (a1 : Sl) (a2 : Option Addr) (h : GH) (K : Int → Int → GH → Option β) : Option β := G_ref06_Next (F_ref01_Reader_Bits R) R a1 a2 h K
set_option maxRecDepth 100000 in
theorem CF_ref06_Next_sim {R : Nat} : SimOrc Try.prog (CF_ref06_Next (F_ref01_Reader_Bits R) (β := β)) := by
  intro f args h K r hc
  unfold CF_ref06_Next at hc
  cases hb : Nat.beq f 45 with
  | true =>
    rw [hb] at hc
    simp only [cond_true] at hc
    obtain rfl := Nat.eq_of_beq_eq_true hb
    split at hc
    · exact any_call (F_ref01_Reader_Bits_sim (K := K) hc)
    · cases hc
  | false =>
  rw [hb] at hc
  simp only [cond_false] at hc
  cases hc
set_option maxRecDepth 100000 in
theorem F_ref06_Next_sim {R : Nat} {r : β} {a1 : Sl} {a2 : Option Addr} {h : GH} {K : Value → GH → Option β} (hc : F_ref06_Next R a1 a2 h (fun q0 q1 h' => K (Value.tuple #[Value.int .i64 q0, Value.int .i64 q1]) h') = some r) : ∃ v h', K v h' = some r ∧ CallSim Try.prog 23 [Value.slice a1.a a1.n a1.c, Value.pointer a2] h v h' := by
  unfold F_ref06_Next G_ref06_Next at hc
  obtain ⟨v, h', hk, hs⟩ := gfun_sim CF_ref06_Next_sim mixed_ok (fun f h => by cases h) Try.func23 (by kernel_rfl) hc
  obtain ⟨vs, rfl, hl, hk⟩ := exTup_v hk
  obtain ⟨v0, t0, hk⟩ := exV_v hk
  obtain ⟨u0, e0, hk⟩ := exI_v hk; cases e0
  obtain ⟨v1, t1, hk⟩ := exV_v hk
  obtain ⟨u1, e1, hk⟩ := exI_v hk; cases e1
  obtain rfl := arr2 hl t0 t1
  exact ⟨_, h', hk, hs⟩
/-! F24 (*duffel/bitio.Reader).Read -/
def CF_bitio_Reader_Read  : Orc β := fun f args h K => none
def HF_bitio_Reader_Read : Hints := ⟨[], [], []⟩
noncomputable def G_bitio_Reader_Read  (R : Nat) (a1 : Option Addr) (h : GH) (K : Int → GH → Option β) : Option β := gfun Try.prog (CF_bitio_Reader_Read ) HF_bitio_Reader_Read R Try.f24 [Value.pointer a1] h (fun v h' => exI .i64 (some v) fun u9 => K u9 h')
set_option maxRecDepth 100000 in
theorem F_bitio_Reader_Read_gen  (R : Nat) (a1 : Option Addr) (h : GH) (K : Int → GH → Option β) : G_bitio_Reader_Read  R a1 h K =
    (bif a1.isNone then K 0 h else exA a1 fun g2 o3 => exI .i64 (h.cell ⟨g2, o3 + 1, none⟩) fun x4 => exA a1 fun g5 o6 => exI .i64 (h.cell ⟨g5, o6 + 3, none⟩) fun x7 => K (IntKind.wrap .i64 ((IntKind.wrap .i64 (8 * x4)) - x7)) h) := by kernel_rfl
noncomputable def F_bitio_Reader_Read (R : Nat) (a1 : Option Addr) (h : GH) (K : Int → GH → Option β) : Option β := G_bitio_Reader_Read  R a1 h K
theorem CF_bitio_Reader_Read_sim : SimOrc Try.prog (CF_bitio_Reader_Read (β := β)) := by
  intro f args h K r hc
  cases hc
set_option maxRecDepth 100000 in
theorem F_bitio_Reader_Read_sim {R : Nat} {r : β} {a1 : Option Addr} {h : GH} {K : Value → GH → Option β} (hc : F_bitio_Reader_Read R a1 h (fun q0 h' => K (Value.int .i64 q0) h') = some r) : ∃ v h', K v h' = some r ∧ CallSim Try.prog 24 [Value.pointer a1] h v h' := by
  unfold F_bitio_Reader_Read G_bitio_Reader_Read at hc
  obtain ⟨v, h', hk, hs⟩ := gfun_sim CF_bitio_Reader_Read_sim mixed_ok (fun f h => by cases h) Try.func24 (by kernel_rfl) hc
  obtain ⟨u0, e0, hk⟩ := exI_v hk; cases e0
  exact ⟨_, h', hk, hs⟩
/-! F6 duffel/duffellaw06.SfanoReads -/
def CF_law06_SfanoReads (F_ref01_Ints : Sl → Int → GH → (Sl → GH → Option β) → Option β) (F_ref01_Cut : Sl → Int → GH → (Sl → GH → Option β) → Option β) (F_sfano_New : Sl → GH → (Option Addr → Int → GH → Option β) → Option β) (F_ref06_Words : Sl → GH → (Sl → Int → GH → Option β) → Option β) (F_bitio_Open : Sl → GH → (Option Addr → GH → Option β) → Option β) (F_sfano_Decoder_Next : Option Addr → Option Addr → GH → (Int → Int → GH → Option β) → Option β) (F_ref06_Next : Sl → Option Addr → GH → (Int → Int → GH → Option β) → Option β) (F_bitio_Reader_Read : Option Addr → GH → (Int → GH → Option β) → Option β) (F_law06_lives : GH → (Bool → GH → Option β) → Option β) : Orc β := fun f args h K => bif Nat.beq f 9 then (match args with | [.slice p1a p1n p1c, .int .i64 p2] => F_ref01_Ints ⟨p1a, p1n, p1c⟩ p2 h (fun q4 h' => K (Value.slice q4.a q4.n q4.c) h') | _ => none) else (bif Nat.beq f 20 then (match args with | [.slice p1a p1n p1c, .int .i64 p2] => F_ref01_Cut ⟨p1a, p1n, p1c⟩ p2 h (fun q4 h' => K (Value.slice q4.a q4.n q4.c) h') | _ => none) else (bif Nat.beq f 17 then (match args with | [.slice p1a p1n p1c] => F_sfano_New ⟨p1a, p1n, p1c⟩ h (fun q26 q27 h' => K (Value.tuple #[Value.pointer q26, Value.int .i64 q27]) h') | _ => none) else (bif Nat.beq f 16 then (match args with | [.slice p1a p1n p1c] => F_ref06_Words ⟨p1a, p1n, p1c⟩ h (fun q63 q64 h' => K (Value.tuple #[Value.slice q63.a q63.n q63.c, Value.int .i64 q64]) h') | _ => none) else (bif Nat.beq f 21 then (match args with | [.slice p1a p1n p1c] => F_bitio_Open ⟨p1a, p1n, p1c⟩ h (fun q6 h' => K (Value.pointer q6) h') | _ => none) else (bif Nat.beq f 22 then (match args with | [.pointer p1, .pointer p2] => F_sfano_Decoder_Next p1 p2 h (fun q24 q25 h' => K (Value.tuple #[Value.int .i64 q24, Value.int .i64 q25]) h') | _ => none) else (bif Nat.beq f 23 then (match args with | [.slice p1a p1n p1c, .pointer p2] => F_ref06_Next ⟨p1a, p1n, p1c⟩ p2 h (fun q63 q64 h' => K (Value.tuple #[Value.int .i64 q63, Value.int .i64 q64]) h') | _ => none) else (bif Nat.beq f 24 then (match args with | [.pointer p1] => F_bitio_Reader_Read p1 h (fun q8 h' => K (Value.int .i64 q8) h') | _ => none) else (bif Nat.beq f 11 then (match args with | [] => F_law06_lives  h (fun q1 h' => K (Value.bool q1) h') | _ => none) else none))))))))
def HF_law06_SfanoReads : Hints := ⟨[(8, [5, 7, 8, 9, 10, 11], [(0, [])], some [(4, .ty 4)])], [], []⟩
noncomputable def BF_law06_SfanoReads : Code := match Try.f6.body with | some c => c | none => .skip
noncomputable def F_law06_SfanoReads_l0 (F_ref01_Ints : Sl → Int → GH → (Sl → GH → Option β) → Option β) (F_ref01_Cut : Sl → Int → GH → (Sl → GH → Option β) → Option β) (F_sfano_New : Sl → GH → (Option Addr → Int → GH → Option β) → Option β) (F_ref06_Words : Sl → GH → (Sl → Int → GH → Option β) → Option β) (F_bitio_Open : Sl → GH → (Option Addr → GH → Option β) → Option β) (F_sfano_Decoder_Next : Option Addr → Option Addr → GH → (Int → Int → GH → Option β) → Option β) (F_ref06_Next : Sl → Option Addr → GH → (Int → Int → GH → Option β) → Option β) (F_bitio_Reader_Read : Option Addr → GH → (Int → GH → Option β) → Option β) (F_law06_lives : GH → (Bool → GH → Option β) → Option β) (R : Nat) (n : Nat) (y17 : Option Addr) (y18 : Sl) (y19 : Int) (y20 : Option Addr) (y21 : Option Addr) (y22 : Int) (h : GH) (K0 : GH → Option β) (Kr : Bool → GH → Option β) : Option β := gloop (gcode Try.prog (CF_law06_SfanoReads F_ref01_Ints F_ref01_Cut F_sfano_New F_ref06_Words F_bitio_Open F_sfano_Decoder_Next F_ref06_Next F_bitio_Reader_Read F_law06_lives) Try.f6.ntmps HF_law06_SfanoReads R (at_ [true, true, true, true, true, true, false, true, false, false] BF_law06_SfanoReads)) [5, 7, 8, 9, 10, 11] n [(5, Value.pointer y17), (7, Value.slice y18.a y18.n y18.c), (8, Value.int .i64 y19), (9, Value.pointer y20), (10, Value.pointer y21), (11, Value.int .i64 y22)] h (fun i e' h' => bif Nat.beq i 0 then (K0 h') else none) (fun e' h' => exB (some (e'.get 4)) fun u41 => Kr u41 h')
set_option maxRecDepth 100000 in
theorem F_law06_SfanoReads_l0_succ (F_ref01_Ints : Sl → Int → GH → (Sl → GH → Option β) → Option β) (F_ref01_Cut : Sl → Int → GH → (Sl → GH → Option β) → Option β) (F_sfano_New : Sl → GH → (Option Addr → Int → GH → Option β) → Option β) (F_ref06_Words : Sl → GH → (Sl → Int → GH → Option β) → Option β) (F_bitio_Open : Sl → GH → (Option Addr → GH → Option β) → Option β) (F_sfano_Decoder_Next : Option Addr → Option Addr → GH → (Int → Int → GH → Option β) → Option β) (F_ref06_Next : Sl → Option Addr → GH → (Int → Int → GH → Option β) → Option β) (F_bitio_Reader_Read : Option Addr → GH → (Int → GH → Option β) → Option β) (F_law06_lives : GH → (Bool → GH → Option β) → Option β) (R : Nat) (n : Nat) (y17 : Option Addr) (y18 : Sl) (y19 : Int) (y20 : Option Addr) (y21 : Option Addr) (y22 : Int) (h : GH) (K0 : GH → Option β) (Kr : Bool → GH → Option β) : F_law06_SfanoReads_l0 F_ref01_Ints F_ref01_Cut F_sfano_New F_ref06_Words F_bitio_Open F_sfano_Decoder_Next F_ref06_Next F_bitio_Reader_Read F_law06_lives R (n + 1) y17 y18 y19 y20 y21 y22 h K0 Kr =
    (bif decide (y22 < 400) then (bif y19 == 0 then F_sfano_Decoder_Next y17 y20 h fun r24 r25 h26 => F_ref06_Next y18 y21 h26 fun r27 r28 h29 => (bif r24 != r27 then Kr false h29 else (bif r25 != r28 then Kr false h29 else F_bitio_Reader_Read y20 h29 fun r30 h31 => exA y21 fun g32 o33 => exI .i64 (h31.cell ⟨g32, o33 + 1, none⟩) fun x34 => (bif sameAt g32 (o33 + 1) 1 h29 h31 then (bif r30 != x34 then Kr false h31 else (bif r28 != 0 then K0 h31 else F_law06_SfanoReads_l0 F_ref01_Ints F_ref01_Cut F_sfano_New F_ref06_Words F_bitio_Open F_sfano_Decoder_Next F_ref06_Next F_bitio_Reader_Read F_law06_lives R n y17 y18 y19 y20 y21 (IntKind.wrap .i64 (y22 + 1)) h31 K0 Kr)) else none))) else K0 h) else K0 h) := by kernel_rfl
noncomputable def G_law06_SfanoReads (F_ref01_Ints : Sl → Int → GH → (Sl → GH → Option β) → Option β) (F_ref01_Cut : Sl → Int → GH → (Sl → GH → Option β) → Option β) (F_sfano_New : Sl → GH → (Option Addr → Int → GH → Option β) → Option β) (F_ref06_Words : Sl → GH → (Sl → Int → GH → Option β) → Option β) (F_bitio_Open : Sl → GH → (Option Addr → GH → Option β) → Option β) (F_sfano_Decoder_Next : Option Addr → Option Addr → GH → (Int → Int → GH → Option β) → Option β) (F_ref06_Next : Sl → Option Addr → GH → (Int → Int → GH → Option β) → Option β) (F_bitio_Reader_Read : Option Addr → GH → (Int → GH → Option β) → Option β) (F_law06_lives : GH → (Bool → GH → Option β) → Option β) (R : Nat) (a1 : Sl) (a2 : Sl) (h : GH) (K : Bool → GH → Option β) : Option β := gfun Try.prog (CF_law06_SfanoReads F_ref01_Ints F_ref01_Cut F_sfano_New F_ref06_Words F_bitio_Open F_sfano_Decoder_Next F_ref06_Next F_bitio_Reader_Read F_law06_lives) HF_law06_SfanoReads R Try.f6 [Value.slice a1.a a1.n a1.c, Value.slice a2.a a2.n a2.c] h (fun v h' => exB (some v) fun u42 => K u42 h')
set_option maxRecDepth 100000 in
theorem F_law06_SfanoReads_gen (F_ref01_Ints : Sl → Int → GH → (Sl → GH → Option β) → Option β) (F_ref01_Cut : Sl → Int → GH → (Sl → GH → Option β) → Option β) (F_sfano_New : Sl → GH → (Option Addr → Int → GH → Option β) → Option β) (F_ref06_Words : Sl → GH → (Sl → Int → GH → Option β) → Option β) (F_bitio_Open : Sl → GH → (Option Addr → GH → Option β) → Option β) (F_sfano_Decoder_Next : Option Addr → Option Addr → GH → (Int → Int → GH → Option β) → Option β) (F_ref06_Next : Sl → Option Addr → GH → (Int → Int → GH → Option β) → Option β) (F_bitio_Reader_Read : Option Addr → GH → (Int → GH → Option β) → Option β) (F_law06_lives : GH → (Bool → GH → Option β) → Option β) (R : Nat) (a1 : Sl) (a2 : Sl) (h : GH) (K : Bool → GH → Option β) : G_law06_SfanoReads F_ref01_Ints F_ref01_Cut F_sfano_New F_ref06_Words F_bitio_Open F_sfano_Decoder_Next F_ref06_Next F_bitio_Reader_Read F_law06_lives R a1 a2 h K =
    F_ref01_Ints a1 80 h fun r3 h4 => F_ref01_Cut a2 40 h4 fun r5 h6 => F_sfano_New r3 h6 fun r7 r8 h9 => F_ref06_Words r3 h9 fun r10 r11 h12 => (bif r8 != r11 then K false h12 else F_bitio_Open r5 h12 fun r13 h14 => gnew [Value.slice r5.a r5.n r5.c, Value.int .i64 0, Value.int .i64 0] 0 h14 fun g15 h16 => F_law06_SfanoReads_l0 F_ref01_Ints F_ref01_Cut F_sfano_New F_ref06_Words F_bitio_Open F_sfano_Decoder_Next F_ref06_Next F_bitio_Reader_Read F_law06_lives R R r7 r10 r11 r13 (some ⟨g15, 0, none⟩) 0 h16 (fun h35 => F_law06_lives h35 fun r36 h37 => K r36 h37) (fun w38 h39 => K w38 h39)) := by kernel_rfl
noncomputable def F_law06_SfanoReads (R : Nat) (a1 : Sl) (a2 : Sl) (h : GH) (K : Bool → GH → Option β) : Option β := G_law06_SfanoReads (F_ref01_Ints R) (F_ref01_Cut R) (F_sfano_New R) (F_ref06_Words R) (F_bitio_Open R) (F_sfano_Decoder_Next R) (F_ref06_Next R) (F_bitio_Reader_Read R) F_law06_lives R a1 a2 h K
set_option maxRecDepth 100000 in
theorem CF_law06_SfanoReads_sim {R : Nat} : SimOrc Try.prog (CF_law06_SfanoReads (F_ref01_Ints R) (F_ref01_Cut R) (F_sfano_New R) (F_ref06_Words R) (F_bitio_Open R) (F_sfano_Decoder_Next R) (F_ref06_Next R) (F_bitio_Reader_Read R) F_law06_lives (β := β)) := by
  intro f args h K r hc
  unfold CF_law06_SfanoReads at hc
  cases hb : Nat.beq f 9 with
  | true =>
    rw [hb] at hc
    simp only [cond_true] at hc
    obtain rfl := Nat.eq_of_beq_eq_true hb
    split at hc
    · exact any_call (F_ref01_Ints_sim (K := K) hc)
    · cases hc
  | false =>
  rw [hb] at hc
  simp only [cond_false] at hc
  cases hb : Nat.beq f 20 with
  | true =>
    rw [hb] at hc
    simp only [cond_true] at hc
    obtain rfl := Nat.eq_of_beq_eq_true hb
    split at hc
    · exact any_call (F_ref01_Cut_sim (K := K) hc)
    · cases hc
  | false =>
  rw [hb] at hc
  simp only [cond_false] at hc
  cases hb : Nat.beq f 17 with
  | true =>
    rw [hb] at hc
    simp only [cond_true] at hc
    obtain rfl := Nat.eq_of_beq_eq_true hb
    split at hc
    · exact any_call (F_sfano_New_sim (K := K) hc)
    · cases hc
  | false =>
  rw [hb] at hc
  simp only [cond_false] at hc
  cases hb : Nat.beq f 16 with
  | true =>
    rw [hb] at hc
    simp only [cond_true] at hc
    obtain rfl := Nat.eq_of_beq_eq_true hb
    split at hc
    · exact any_call (F_ref06_Words_sim (K := K) hc)
    · cases hc
  | false =>
  rw [hb] at hc
  simp only [cond_false] at hc
  cases hb : Nat.beq f 21 with
  | true =>
    rw [hb] at hc
    simp only [cond_true] at hc
    obtain rfl := Nat.eq_of_beq_eq_true hb
    split at hc
    · exact any_call (F_bitio_Open_sim (K := K) hc)
    · cases hc
  | false =>
  rw [hb] at hc
  simp only [cond_false] at hc
  cases hb : Nat.beq f 22 with
  | true =>
    rw [hb] at hc
    simp only [cond_true] at hc
    obtain rfl := Nat.eq_of_beq_eq_true hb
    split at hc
    · exact any_call (F_sfano_Decoder_Next_sim (K := K) hc)
    · cases hc
  | false =>
  rw [hb] at hc
  simp only [cond_false] at hc
  cases hb : Nat.beq f 23 with
  | true =>
    rw [hb] at hc
    simp only [cond_true] at hc
    obtain rfl := Nat.eq_of_beq_eq_true hb
    split at hc
    · exact any_call (F_ref06_Next_sim (K := K) hc)
    · cases hc
  | false =>
  rw [hb] at hc
  simp only [cond_false] at hc
  cases hb : Nat.beq f 24 with
  | true =>
    rw [hb] at hc
    simp only [cond_true] at hc
    obtain rfl := Nat.eq_of_beq_eq_true hb
    split at hc
    · exact any_call (F_bitio_Reader_Read_sim (K := K) hc)
    · cases hc
  | false =>
  rw [hb] at hc
  simp only [cond_false] at hc
  cases hb : Nat.beq f 11 with
  | true =>
    rw [hb] at hc
    simp only [cond_true] at hc
    obtain rfl := Nat.eq_of_beq_eq_true hb
    split at hc
    · exact any_call (F_law06_lives_sim (K := K) hc)
    · cases hc
  | false =>
  rw [hb] at hc
  simp only [cond_false] at hc
  cases hc
set_option maxRecDepth 100000 in
theorem F_law06_SfanoReads_sim {R : Nat} {r : β} {a1 : Sl} {a2 : Sl} {h : GH} {K : Value → GH → Option β} (hc : F_law06_SfanoReads R a1 a2 h (fun q0 h' => K (Value.bool q0) h') = some r) : ∃ v h', K v h' = some r ∧ CallSim Try.prog 6 [Value.slice a1.a a1.n a1.c, Value.slice a2.a a2.n a2.c] h v h' := by
  unfold F_law06_SfanoReads G_law06_SfanoReads at hc
  obtain ⟨v, h', hk, hs⟩ := gfun_sim CF_law06_SfanoReads_sim mixed_ok (fun f h => by cases h) Try.func6 (by kernel_rfl) hc
  obtain ⟨u0, e0, hk⟩ := exB_v hk; cases e0
  exact ⟨_, h', hk, hs⟩
/-! F27 duffel/bitio.New -/
def CF_bitio_New  : Orc β := fun f args h K => none
def HF_bitio_New : Hints := ⟨[], [], []⟩
noncomputable def G_bitio_New  (R : Nat)  (h : GH) (K : Option Addr → GH → Option β) : Option β := gfun Try.prog (CF_bitio_New ) HF_bitio_New R Try.f27 [] h (fun v h' => exP (some v) fun u4 => K u4 h')
set_option maxRecDepth 100000 in
theorem F_bitio_New_gen  (R : Nat)  (h : GH) (K : Option Addr → GH → Option β) : G_bitio_New  R  h K =
    gnew [Value.slice none 0 0, Value.int .u64 0, Value.int .i64 0] 0 h fun g1 h2 => K (some ⟨g1, 0, none⟩) h2 := by kernel_rfl
noncomputable def F_bitio_New (R : Nat)  (h : GH) (K : Option Addr → GH → Option β) : Option β := G_bitio_New  R  h K
theorem CF_bitio_New_sim : SimOrc Try.prog (CF_bitio_New (β := β)) := by
  intro f args h K r hc
  cases hc
set_option maxRecDepth 100000 in
theorem F_bitio_New_sim {R : Nat} {r : β}  {h : GH} {K : Value → GH → Option β} (hc : F_bitio_New R  h (fun q0 h' => K (Value.pointer q0) h') = some r) : ∃ v h', K v h' = some r ∧ CallSim Try.prog 27 [] h v h' := by
  unfold F_bitio_New G_bitio_New at hc
  obtain ⟨v, h', hk, hs⟩ := gfun_sim CF_bitio_New_sim mixed_ok (fun f h => by cases h) Try.func27 (by kernel_rfl) hc
  obtain ⟨u0, e0, hk⟩ := exP_v hk; cases e0
  exact ⟨_, h', hk, hs⟩
/-! F28 (*duffel/bitio.Writer).Put -/
def CF_bitio_Writer_Put  : Orc β := fun f args h K => none
def HF_bitio_Writer_Put : Hints := ⟨[(4, [0], [(0, [])], none)], [], []⟩
noncomputable def BF_bitio_Writer_Put : Code := match Try.f28.body with | some c => c | none => .skip
noncomputable def F_bitio_Writer_Put_l0  (R : Nat) (n : Nat) (y19 : Option Addr) (h : GH) (K0 : GH → Option β) : Option β := gloop (gcode Try.prog (CF_bitio_Writer_Put ) Try.f28.ntmps HF_bitio_Writer_Put R (at_ [true, true, true, true, false, false] BF_bitio_Writer_Put)) [0] n [(0, Value.pointer y19)] h (fun i e' h' => bif Nat.beq i 0 then (K0 h') else none) (fun e' h' => none)
set_option maxRecDepth 100000 in
theorem F_bitio_Writer_Put_l0_succ  (R : Nat) (n : Nat) (y19 : Option Addr) (h : GH) (K0 : GH → Option β) : F_bitio_Writer_Put_l0  R (n + 1) y19 h K0 =
    exA y19 fun g20 o21 => exI .i64 (h.cell ⟨g20, o21 + 2, none⟩) fun x22 => (bif decide (x22 ≥ 8) then exA y19 fun g23 o24 => exS (h.cell ⟨g23, o24 + 0, none⟩) fun x25 => exA y19 fun g26 o27 => exI .u64 (h.cell ⟨g26, o27 + 1, none⟩) fun x28 => gnew [Value.int .u8 (IntKind.wrap .u8 x28)] 1 h fun g29 h30 => gappS 1 1 x25 ⟨(some ⟨g29, 0, none⟩), 1, 1⟩ h30 fun s31 h32 => exA y19 fun g33 o34 => gput g33 (o34 + 0) [Value.slice s31.a s31.n s31.c] h32 fun h35 => exA y19 fun g36 o37 => exI .u64 (h35.cell ⟨g36, o37 + 1, none⟩) fun x38 => exA y19 fun g39 o40 => gput g39 (o40 + 1) [Value.int .u64 (shrI .u64 x38 8)] h35 fun h41 => exA y19 fun g42 o43 => exI .i64 (h41.cell ⟨g42, o43 + 2, none⟩) fun x44 => exA y19 fun g45 o46 => gput g45 (o46 + 2) [Value.int .i64 (IntKind.wrap .i64 (x44 - 8))] h41 fun h47 => F_bitio_Writer_Put_l0 R n y19 h47 K0 else K0 h) := by kernel_rfl
noncomputable def G_bitio_Writer_Put  (R : Nat) (a1 : Option Addr) (a2 : Int) (a3 : Int) (h : GH) (K : GH → Option β) : Option β := gfun Try.prog (CF_bitio_Writer_Put ) HF_bitio_Writer_Put R Try.f28 [Value.pointer a1, Value.int .u32 a2, Value.int .i64 a3] h (fun _ h' => K h')
set_option maxRecDepth 100000 in
theorem F_bitio_Writer_Put_gen  (R : Nat) (a1 : Option Addr) (a2 : Int) (a3 : Int) (h : GH) (K : GH → Option β) : G_bitio_Writer_Put  R a1 a2 a3 h K =
    (bif a1.isNone then K h else exA a1 fun g4 o5 => exI .u64 (h.cell ⟨g4, o5 + 1, none⟩) fun x6 => (bif decide ((if 32 < (if 0 > a3 then 0 else a3) then 32 else if 0 > a3 then 0 else a3) < 0) then none else exA a1 fun g7 o8 => exI .i64 (h.cell ⟨g7, o8 + 2, none⟩) fun x9 => (bif decide (x9 < 0) then none else exA a1 fun g10 o11 => gput g10 (o11 + 1) [Value.int .u64 (IntKind.wrap .u64 (BitVec.ofInt (IntKind.bits .u64) x6 ||| BitVec.ofInt (IntKind.bits .u64) (shlI .u64 (IntKind.wrap .u64 (BitVec.ofInt (IntKind.bits .u64) (IntKind.wrap .u64 a2) &&& BitVec.ofInt (IntKind.bits .u64) (IntKind.wrap .u64 ((shlI .u64 1 (if 32 < (if 0 > a3 then 0 else a3) then 32 else if 0 > a3 then 0 else a3)) - 1))).toNat) x9)).toNat)] h fun h12 => exA a1 fun g13 o14 => exI .i64 (h12.cell ⟨g13, o14 + 2, none⟩) fun x15 => exA a1 fun g16 o17 => gput g16 (o17 + 2) [Value.int .i64 (IntKind.wrap .i64 (x15 + (if 32 < (if 0 > a3 then 0 else a3) then 32 else if 0 > a3 then 0 else a3)))] h12 fun h18 => F_bitio_Writer_Put_l0 R R a1 h18 (fun h48 => K h48)))) := by kernel_rfl
noncomputable def F_bitio_Writer_Put (R : Nat) (a1 : Option Addr) (a2 : Int) (a3 : Int) (h : GH) (K : GH → Option β) : Option β := G_bitio_Writer_Put  R a1 a2 a3 h K
theorem CF_bitio_Writer_Put_sim : SimOrc Try.prog (CF_bitio_Writer_Put (β := β)) := by
  intro f args h K r hc
  cases hc
set_option maxRecDepth 100000 in
theorem F_bitio_Writer_Put_sim {R : Nat} {r : β} {a1 : Option Addr} {a2 : Int} {a3 : Int} {h : GH} {K : Value → GH → Option β} (hc : F_bitio_Writer_Put R a1 a2 a3 h (fun h' => K (Value.tuple #[]) h') = some r) : ∃ v h', K v h' = some r ∧ CallSim Try.prog 28 [Value.pointer a1, Value.int .u32 a2, Value.int .i64 a3] h v h' := by
  unfold F_bitio_Writer_Put G_bitio_Writer_Put at hc
  obtain ⟨v, h', hk, hs⟩ := gfun_sim CF_bitio_Writer_Put_sim mixed_ok (fun f h => by cases h) Try.func28 (by kernel_rfl) hc
  exact ⟨_, h', hk, hs.unit⟩
/-! F29 (*duffel/bitio.Writer).Bytes -/
def CF_bitio_Writer_Bytes (F_bytes_Clone : Sl → GH → (Sl → GH → Option β) → Option β) : Orc β := fun f args h K => bif Nat.beq f 42 then (match args with | [.slice p1a p1n p1c] => F_bytes_Clone ⟨p1a, p1n, p1c⟩ h (fun q6 h' => K (Value.slice q6.a q6.n q6.c) h') | _ => none) else none
def HF_bitio_Writer_Bytes : Hints := ⟨[], [], []⟩
noncomputable def G_bitio_Writer_Bytes (F_bytes_Clone : Sl → GH → (Sl → GH → Option β) → Option β) (R : Nat) (a1 : Option Addr) (h : GH) (K : Sl → GH → Option β) : Option β := gfun Try.prog (CF_bitio_Writer_Bytes F_bytes_Clone) HF_bitio_Writer_Bytes R Try.f29 [Value.pointer a1] h (fun v h' => exS (some v) fun u18 => K u18 h')
set_option maxRecDepth 100000 in
theorem F_bitio_Writer_Bytes_gen (F_bytes_Clone : Sl → GH → (Sl → GH → Option β) → Option β) (R : Nat) (a1 : Option Addr) (h : GH) (K : Sl → GH → Option β) : G_bitio_Writer_Bytes F_bytes_Clone R a1 h K =
    (bif a1.isNone then K ⟨none, 0, 0⟩ h else exA a1 fun g2 o3 => exS (h.cell ⟨g2, o3 + 0, none⟩) fun x4 => F_bytes_Clone x4 h fun r5 h6 => exA a1 fun g7 o8 => exI .i64 (h6.cell ⟨g7, o8 + 2, none⟩) fun x9 => (bif decide (x9 > 0) then exA a1 fun g10 o11 => exI .u64 (h6.cell ⟨g10, o11 + 1, none⟩) fun x12 => gnew [Value.int .u8 (IntKind.wrap .u8 x12)] 1 h6 fun g13 h14 => gappS 1 1 r5 ⟨(some ⟨g13, 0, none⟩), 1, 1⟩ h14 fun s15 h16 => K s15 h16 else K r5 h6)) := by kernel_rfl
noncomputable def F_bitio_Writer_Bytes (R : Nat) (a1 : Option Addr) (h : GH) (K : Sl → GH → Option β) : Option β := G_bitio_Writer_Bytes (F_bytes_Clone R) R a1 h K
set_option maxRecDepth 100000 in
theorem CF_bitio_Writer_Bytes_sim {R : Nat} : SimOrc Try.prog (CF_bitio_Writer_Bytes (F_bytes_Clone R) (β := β)) := by
  intro f args h K r hc
  unfold CF_bitio_Writer_Bytes at hc
  cases hb : Nat.beq f 42 with
  | true =>
    rw [hb] at hc
    simp only [cond_true] at hc
    obtain rfl := Nat.eq_of_beq_eq_true hb
    split at hc
    · exact any_call (F_bytes_Clone_sim (K := K) hc)
    · cases hc
  | false =>
  rw [hb] at hc
  simp only [cond_false] at hc
  cases hc
set_option maxRecDepth 100000 in
theorem F_bitio_Writer_Bytes_sim {R : Nat} {r : β} {a1 : Option Addr} {h : GH} {K : Value → GH → Option β} (hc : F_bitio_Writer_Bytes R a1 h (fun q0 h' => K (Value.slice q0.a q0.n q0.c) h') = some r) : ∃ v h', K v h' = some r ∧ CallSim Try.prog 29 [Value.pointer a1] h v h' := by
  unfold F_bitio_Writer_Bytes G_bitio_Writer_Bytes at hc
  obtain ⟨v, h', hk, hs⟩ := gfun_sim CF_bitio_Writer_Bytes_sim mixed_ok (fun f h => by cases h) Try.func29 (by kernel_rfl) hc
  obtain ⟨u0, e0, hk⟩ := exS_v hk; cases e0
  exact ⟨_, h', hk, hs⟩
/-! F30 (*duffel/bitio.Writer).Len -/
def CF_bitio_Writer_Len  : Orc β := fun f args h K => none
def HF_bitio_Writer_Len : Hints := ⟨[], [], []⟩
noncomputable def G_bitio_Writer_Len  (R : Nat) (a1 : Option Addr) (h : GH) (K : Int → GH → Option β) : Option β := gfun Try.prog (CF_bitio_Writer_Len ) HF_bitio_Writer_Len R Try.f30 [Value.pointer a1] h (fun v h' => exI .i64 (some v) fun u9 => K u9 h')
set_option maxRecDepth 100000 in
theorem F_bitio_Writer_Len_gen  (R : Nat) (a1 : Option Addr) (h : GH) (K : Int → GH → Option β) : G_bitio_Writer_Len  R a1 h K =
    (bif a1.isNone then K 0 h else exA a1 fun g2 o3 => exS (h.cell ⟨g2, o3 + 0, none⟩) fun x4 => exA a1 fun g5 o6 => exI .i64 (h.cell ⟨g5, o6 + 2, none⟩) fun x7 => K (IntKind.wrap .i64 ((IntKind.wrap .i64 (8 * ((x4.n : Nat) : Int))) + x7)) h) := by kernel_rfl
noncomputable def F_bitio_Writer_Len (R : Nat) (a1 : Option Addr) (h : GH) (K : Int → GH → Option β) : Option β := G_bitio_Writer_Len  R a1 h K
theorem CF_bitio_Writer_Len_sim : SimOrc Try.prog (CF_bitio_Writer_Len (β := β)) := by
  intro f args h K r hc
  cases hc
set_option maxRecDepth 100000 in
theorem F_bitio_Writer_Len_sim {R : Nat} {r : β} {a1 : Option Addr} {h : GH} {K : Value → GH → Option β} (hc : F_bitio_Writer_Len R a1 h (fun q0 h' => K (Value.int .i64 q0) h') = some r) : ∃ v h', K v h' = some r ∧ CallSim Try.prog 30 [Value.pointer a1] h v h' := by
  unfold F_bitio_Writer_Len G_bitio_Writer_Len at hc
  obtain ⟨v, h', hk, hs⟩ := gfun_sim CF_bitio_Writer_Len_sim mixed_ok (fun f h => by cases h) Try.func30 (by kernel_rfl) hc
  obtain ⟨u0, e0, hk⟩ := exI_v hk; cases e0
  exact ⟨_, h', hk, hs⟩
/-! F8 duffel/duffellaw06.SfanoBack -/
def CF_law06_SfanoBack (F_ref01_Ints : Sl → Int → GH → (Sl → GH → Option β) → Option β) (F_sfano_Pack : Sl → GH → (Sl → Int → GH → Option β) → Option β) (F_law06_lives : GH → (Bool → GH → Option β) → Option β) (F_bitio_Open : Sl → GH → (Option Addr → GH → Option β) → Option β) (F_sfano_Unpack : Option Addr → Int → GH → (Sl → Int → GH → Option β) → Option β) (F_ref01_SameInts : Sl → Sl → GH → (Bool → GH → Option β) → Option β) (F_sfano_Codes : Sl → GH → (Sl → Int → GH → Option β) → Option β) (F_sfano_New : Sl → GH → (Option Addr → Int → GH → Option β) → Option β) (F_bitio_New : GH → (Option Addr → GH → Option β) → Option β) (F_ref01_Within : Int → Int → Int → GH → (Int → GH → Option β) → Option β) (F_bitio_Writer_Put : Option Addr → Int → Int → GH → (GH → Option β) → Option β) (F_bitio_Writer_Bytes : Option Addr → GH → (Sl → GH → Option β) → Option β) (F_sfano_Decoder_Next : Option Addr → Option Addr → GH → (Int → Int → GH → Option β) → Option β) (F_bitio_Reader_Read : Option Addr → GH → (Int → GH → Option β) → Option β) (F_bitio_Writer_Len : Option Addr → GH → (Int → GH → Option β) → Option β) : Orc β := fun f args h K => bif Nat.beq f 9 then (match args with | [.slice p1a p1n p1c, .int .i64 p2] => F_ref01_Ints ⟨p1a, p1n, p1c⟩ p2 h (fun q4 h' => K (Value.slice q4.a q4.n q4.c) h') | _ => none) else (bif Nat.beq f 13 then (match args with | [.slice p1a p1n p1c] => F_sfano_Pack ⟨p1a, p1n, p1c⟩ h (fun q41 q42 h' => K (Value.tuple #[Value.slice q41.a q41.n q41.c, Value.int .i64 q42]) h') | _ => none) else (bif Nat.beq f 11 then (match args with | [] => F_law06_lives  h (fun q1 h' => K (Value.bool q1) h') | _ => none) else (bif Nat.beq f 21 then (match args with | [.slice p1a p1n p1c] => F_bitio_Open ⟨p1a, p1n, p1c⟩ h (fun q6 h' => K (Value.pointer q6) h') | _ => none) else (bif Nat.beq f 25 then (match args with | [.pointer p1, .int .i64 p2] => F_sfano_Unpack p1 p2 h (fun q48 q49 h' => K (Value.tuple #[Value.slice q48.a q48.n q48.c, Value.int .i64 q49]) h') | _ => none) else (bif Nat.beq f 19 then (match args with | [.slice p1a p1n p1c, .slice p2a p2n p2c] => F_ref01_SameInts ⟨p1a, p1n, p1c⟩ ⟨p2a, p2n, p2c⟩ h (fun q16 h' => K (Value.bool q16) h') | _ => none) else (bif Nat.beq f 10 then (match args with | [.slice p1a p1n p1c] => F_sfano_Codes ⟨p1a, p1n, p1c⟩ h (fun q86 q87 h' => K (Value.tuple #[Value.slice q86.a q86.n q86.c, Value.int .i64 q87]) h') | _ => none) else (bif Nat.beq f 17 then (match args with | [.slice p1a p1n p1c] => F_sfano_New ⟨p1a, p1n, p1c⟩ h (fun q26 q27 h' => K (Value.tuple #[Value.pointer q26, Value.int .i64 q27]) h') | _ => none) else (bif Nat.beq f 27 then (match args with | [] => F_bitio_New  h (fun q3 h' => K (Value.pointer q3) h') | _ => none) else (bif Nat.beq f 26 then (match args with | [.int .i64 p1, .int .i64 p2, .int .i64 p3] => F_ref01_Within p1 p2 p3 h (fun q4 h' => K (Value.int .i64 q4) h') | _ => none) else (bif Nat.beq f 28 then (match args with | [.pointer p1, .int .u32 p2, .int .i64 p3] => F_bitio_Writer_Put p1 p2 p3 h (fun h' => K (Value.tuple #[]) h') | _ => none) else (bif Nat.beq f 29 then (match args with | [.pointer p1] => F_bitio_Writer_Bytes p1 h (fun q17 h' => K (Value.slice q17.a q17.n q17.c) h') | _ => none) else (bif Nat.beq f 22 then (match args with | [.pointer p1, .pointer p2] => F_sfano_Decoder_Next p1 p2 h (fun q24 q25 h' => K (Value.tuple #[Value.int .i64 q24, Value.int .i64 q25]) h') | _ => none) else (bif Nat.beq f 24 then (match args with | [.pointer p1] => F_bitio_Reader_Read p1 h (fun q8 h' => K (Value.int .i64 q8) h') | _ => none) else (bif Nat.beq f 30 then (match args with | [.pointer p1] => F_bitio_Writer_Len p1 h (fun q8 h' => K (Value.int .i64 q8) h') | _ => none) else none))))))))))))))
def HF_law06_SfanoBack : Hints := ⟨[(16, [1, 9, 10, 11, 12], [(0, [(1, .ty 22), (9, .ty 24), (10, .ty 43), (11, .ty 67)])], none), (22, [1, 9, 10, 11, 14, 15], [(2, [(11, .ty 67), (14, .ty 49)])], some [(4, .ty 4)])], [], []⟩
noncomputable def BF_law06_SfanoBack : Code := match Try.f8.body with | some c => c | none => .skip
noncomputable def F_law06_SfanoBack_l0 (F_ref01_Ints : Sl → Int → GH → (Sl → GH → Option β) → Option β) (F_sfano_Pack : Sl → GH → (Sl → Int → GH → Option β) → Option β) (F_law06_lives : GH → (Bool → GH → Option β) → Option β) (F_bitio_Open : Sl → GH → (Option Addr → GH → Option β) → Option β) (F_sfano_Unpack : Option Addr → Int → GH → (Sl → Int → GH → Option β) → Option β) (F_ref01_SameInts : Sl → Sl → GH → (Bool → GH → Option β) → Option β) (F_sfano_Codes : Sl → GH → (Sl → Int → GH → Option β) → Option β) (F_sfano_New : Sl → GH → (Option Addr → Int → GH → Option β) → Option β) (F_bitio_New : GH → (Option Addr → GH → Option β) → Option β) (F_ref01_Within : Int → Int → Int → GH → (Int → GH → Option β) → Option β) (F_bitio_Writer_Put : Option Addr → Int → Int → GH → (GH → Option β) → Option β) (F_bitio_Writer_Bytes : Option Addr → GH → (Sl → GH → Option β) → Option β) (F_sfano_Decoder_Next : Option Addr → Option Addr → GH → (Int → Int → GH → Option β) → Option β) (F_bitio_Reader_Read : Option Addr → GH → (Int → GH → Option β) → Option β) (F_bitio_Writer_Len : Option Addr → GH → (Int → GH → Option β) → Option β) (R : Nat) (n : Nat) (y31 : Sl) (y32 : Sl) (y33 : Option Addr) (y34 : Option Addr) (y35 : Int) (h : GH) (K0 : Sl → Sl → Option Addr → Option Addr → GH → Option β) : Option β := gloop (gcode Try.prog (CF_law06_SfanoBack F_ref01_Ints F_sfano_Pack F_law06_lives F_bitio_Open F_sfano_Unpack F_ref01_SameInts F_sfano_Codes F_sfano_New F_bitio_New F_ref01_Within F_bitio_Writer_Put F_bitio_Writer_Bytes F_sfano_Decoder_Next F_bitio_Reader_Read F_bitio_Writer_Len) Try.f8.ntmps HF_law06_SfanoBack R (at_ [true, true, true, true, true, true, true, true, true, true, true, false, true, false, false] BF_law06_SfanoBack)) [1, 9, 10, 11, 12] n [(1, Value.slice y31.a y31.n y31.c), (9, Value.slice y32.a y32.n y32.c), (10, Value.pointer y33), (11, Value.pointer y34), (12, Value.int .i64 y35)] h (fun i e' h' => bif Nat.beq i 0 then (exS (some (e'.get 1)) fun u93 => exS (some (e'.get 9)) fun u94 => exP (some (e'.get 10)) fun u95 => exP (some (e'.get 11)) fun u96 => K0 u93 u94 u95 u96 h') else none) (fun e' h' => none)
noncomputable def F_law06_SfanoBack_l1 (F_ref01_Ints : Sl → Int → GH → (Sl → GH → Option β) → Option β) (F_sfano_Pack : Sl → GH → (Sl → Int → GH → Option β) → Option β) (F_law06_lives : GH → (Bool → GH → Option β) → Option β) (F_bitio_Open : Sl → GH → (Option Addr → GH → Option β) → Option β) (F_sfano_Unpack : Option Addr → Int → GH → (Sl → Int → GH → Option β) → Option β) (F_ref01_SameInts : Sl → Sl → GH → (Bool → GH → Option β) → Option β) (F_sfano_Codes : Sl → GH → (Sl → Int → GH → Option β) → Option β) (F_sfano_New : Sl → GH → (Option Addr → Int → GH → Option β) → Option β) (F_bitio_New : GH → (Option Addr → GH → Option β) → Option β) (F_ref01_Within : Int → Int → Int → GH → (Int → GH → Option β) → Option β) (F_bitio_Writer_Put : Option Addr → Int → Int → GH → (GH → Option β) → Option β) (F_bitio_Writer_Bytes : Option Addr → GH → (Sl → GH → Option β) → Option β) (F_sfano_Decoder_Next : Option Addr → Option Addr → GH → (Int → Int → GH → Option β) → Option β) (F_bitio_Reader_Read : Option Addr → GH → (Int → GH → Option β) → Option β) (F_bitio_Writer_Len : Option Addr → GH → (Int → GH → Option β) → Option β) (R : Nat) (n : Nat) (y64 : Sl) (y65 : Sl) (y66 : Option Addr) (y67 : Option Addr) (y68 : Option Addr) (y69 : Int) (h : GH) (K2 : Option Addr → Option Addr → GH → Option β) (Kr : Bool → GH → Option β) : Option β := gloop (gcode Try.prog (CF_law06_SfanoBack F_ref01_Ints F_sfano_Pack F_law06_lives F_bitio_Open F_sfano_Unpack F_ref01_SameInts F_sfano_Codes F_sfano_New F_bitio_New F_ref01_Within F_bitio_Writer_Put F_bitio_Writer_Bytes F_sfano_Decoder_Next F_bitio_Reader_Read F_bitio_Writer_Len) Try.f8.ntmps HF_law06_SfanoBack R (at_ [true, true, true, true, true, true, true, true, true, true, true, true, true, false, true, false, false] BF_law06_SfanoBack)) [1, 9, 10, 11, 14, 15] n [(1, Value.slice y64.a y64.n y64.c), (9, Value.slice y65.a y65.n y65.c), (10, Value.pointer y66), (11, Value.pointer y67), (14, Value.pointer y68), (15, Value.int .i64 y69)] h (fun i e' h' => bif Nat.beq i 2 then (exP (some (e'.get 11)) fun u97 => exP (some (e'.get 14)) fun u98 => K2 u97 u98 h') else none) (fun e' h' => exB (some (e'.get 4)) fun u99 => Kr u99 h')
set_option maxRecDepth 100000 in
theorem F_law06_SfanoBack_l1_succ (F_ref01_Ints : Sl → Int → GH → (Sl → GH → Option β) → Option β) (F_sfano_Pack : Sl → GH → (Sl → Int → GH → Option β) → Option β) (F_law06_lives : GH → (Bool → GH → Option β) → Option β) (F_bitio_Open : Sl → GH → (Option Addr → GH → Option β) → Option β) (F_sfano_Unpack : Option Addr → Int → GH → (Sl → Int → GH → Option β) → Option β) (F_ref01_SameInts : Sl → Sl → GH → (Bool → GH → Option β) → Option β) (F_sfano_Codes : Sl → GH → (Sl → Int → GH → Option β) → Option β) (F_sfano_New : Sl → GH → (Option Addr → Int → GH → Option β) → Option β) (F_bitio_New : GH → (Option Addr → GH → Option β) → Option β) (F_ref01_Within : Int → Int → Int → GH → (Int → GH → Option β) → Option β) (F_bitio_Writer_Put : Option Addr → Int → Int → GH → (GH → Option β) → Option β) (F_bitio_Writer_Bytes : Option Addr → GH → (Sl → GH → Option β) → Option β) (F_sfano_Decoder_Next : Option Addr → Option Addr → GH → (Int → Int → GH → Option β) → Option β) (F_bitio_Reader_Read : Option Addr → GH → (Int → GH → Option β) → Option β) (F_bitio_Writer_Len : Option Addr → GH → (Int → GH → Option β) → Option β) (R : Nat) (n : Nat) (y64 : Sl) (y65 : Sl) (y66 : Option Addr) (y67 : Option Addr) (y68 : Option Addr) (y69 : Int) (h : GH) (K2 : Option Addr → Option Addr → GH → Option β) (Kr : Bool → GH → Option β) : F_law06_SfanoBack_l1 F_ref01_Ints F_sfano_Pack F_law06_lives F_bitio_Open F_sfano_Unpack F_ref01_SameInts F_sfano_Codes F_sfano_New F_bitio_New F_ref01_Within F_bitio_Writer_Put F_bitio_Writer_Bytes F_sfano_Decoder_Next F_bitio_Reader_Read F_bitio_Writer_Len R (n + 1) y64 y65 y66 y67 y68 y69 h K2 Kr =
    (bif decide (y69 < ((y64.n : Nat) : Int)) then F_sfano_Decoder_Next y66 y68 h fun r73 r74 h75 => (bif r74 != 0 then Kr false h75 else exA y64.a fun g76 o77 => within y69 y64.n (exI .i64 (h75.cell ⟨g76, o77 + y69.toNat * 1, none⟩) fun x78 => F_ref01_Within x78 0 (IntKind.wrap .i64 (((y65.n : Nat) : Int) - 1)) h75 fun r79 h80 => (bif r73 != r79 then Kr false h80 else F_law06_SfanoBack_l1 F_ref01_Ints F_sfano_Pack F_law06_lives F_bitio_Open F_sfano_Unpack F_ref01_SameInts F_sfano_Codes F_sfano_New F_bitio_New F_ref01_Within F_bitio_Writer_Put F_bitio_Writer_Bytes F_sfano_Decoder_Next F_bitio_Reader_Read F_bitio_Writer_Len R n y64 y65 y66 y67 y68 (IntKind.wrap .i64 (y69 + 1)) h80 K2 Kr))) else K2 y67 y68 h) := by kernel_rfl
set_option maxRecDepth 100000 in
theorem F_law06_SfanoBack_l0_succ (F_ref01_Ints : Sl → Int → GH → (Sl → GH → Option β) → Option β) (F_sfano_Pack : Sl → GH → (Sl → Int → GH → Option β) → Option β) (F_law06_lives : GH → (Bool → GH → Option β) → Option β) (F_bitio_Open : Sl → GH → (Option Addr → GH → Option β) → Option β) (F_sfano_Unpack : Option Addr → Int → GH → (Sl → Int → GH → Option β) → Option β) (F_ref01_SameInts : Sl → Sl → GH → (Bool → GH → Option β) → Option β) (F_sfano_Codes : Sl → GH → (Sl → Int → GH → Option β) → Option β) (F_sfano_New : Sl → GH → (Option Addr → Int → GH → Option β) → Option β) (F_bitio_New : GH → (Option Addr → GH → Option β) → Option β) (F_ref01_Within : Int → Int → Int → GH → (Int → GH → Option β) → Option β) (F_bitio_Writer_Put : Option Addr → Int → Int → GH → (GH → Option β) → Option β) (F_bitio_Writer_Bytes : Option Addr → GH → (Sl → GH → Option β) → Option β) (F_sfano_Decoder_Next : Option Addr → Option Addr → GH → (Int → Int → GH → Option β) → Option β) (F_bitio_Reader_Read : Option Addr → GH → (Int → GH → Option β) → Option β) (F_bitio_Writer_Len : Option Addr → GH → (Int → GH → Option β) → Option β) (R : Nat) (n : Nat) (y31 : Sl) (y32 : Sl) (y33 : Option Addr) (y34 : Option Addr) (y35 : Int) (h : GH) (K0 : Sl → Sl → Option Addr → Option Addr → GH → Option β) : F_law06_SfanoBack_l0 F_ref01_Ints F_sfano_Pack F_law06_lives F_bitio_Open F_sfano_Unpack F_ref01_SameInts F_sfano_Codes F_sfano_New F_bitio_New F_ref01_Within F_bitio_Writer_Put F_bitio_Writer_Bytes F_sfano_Decoder_Next F_bitio_Reader_Read F_bitio_Writer_Len R (n + 1) y31 y32 y33 y34 y35 h K0 =
    (bif decide (y35 < ((y31.n : Nat) : Int)) then exA y31.a fun g40 o41 => within y35 y31.n (exI .i64 (h.cell ⟨g40, o41 + y35.toNat * 1, none⟩) fun x42 => F_ref01_Within x42 0 (IntKind.wrap .i64 (((y32.n : Nat) : Int) - 1)) h fun r43 h44 => exA y32.a fun g45 o46 => within r43 y32.n (exI .u32 (h44.cell ⟨g45, o46 + r43.toNat * 2, none⟩) fun x47 => exI .i64 (h44.cell ⟨g45, o46 + r43.toNat * 2 + 1, none⟩) fun x48 => gnew [Value.int .u32 0, Value.int .i64 0] 0 h44 fun g49 h50 => gput g49 (0) [Value.int .u32 x47, Value.int .i64 x48] h50 fun h51 => exI .u32 (h51.cell ⟨g49, 0 + 0, none⟩) fun x52 => exI .i64 (h51.cell ⟨g49, 0 + 1, none⟩) fun x53 => F_bitio_Writer_Put y34 x52 x53 h51 fun h54 => F_law06_SfanoBack_l0 F_ref01_Ints F_sfano_Pack F_law06_lives F_bitio_Open F_sfano_Unpack F_ref01_SameInts F_sfano_Codes F_sfano_New F_bitio_New F_ref01_Within F_bitio_Writer_Put F_bitio_Writer_Bytes F_sfano_Decoder_Next F_bitio_Reader_Read F_bitio_Writer_Len R n y31 y32 y33 y34 (IntKind.wrap .i64 (y35 + 1)) h54 K0)) else K0 y31 y32 y33 y34 h) := by kernel_rfl
noncomputable def G_law06_SfanoBack (F_ref01_Ints : Sl → Int → GH → (Sl → GH → Option β) → Option β) (F_sfano_Pack : Sl → GH → (Sl → Int → GH → Option β) → Option β) (F_law06_lives : GH → (Bool → GH → Option β) → Option β) (F_bitio_Open : Sl → GH → (Option Addr → GH → Option β) → Option β) (F_sfano_Unpack : Option Addr → Int → GH → (Sl → Int → GH → Option β) → Option β) (F_ref01_SameInts : Sl → Sl → GH → (Bool → GH → Option β) → Option β) (F_sfano_Codes : Sl → GH → (Sl → Int → GH → Option β) → Option β) (F_sfano_New : Sl → GH → (Option Addr → Int → GH → Option β) → Option β) (F_bitio_New : GH → (Option Addr → GH → Option β) → Option β) (F_ref01_Within : Int → Int → Int → GH → (Int → GH → Option β) → Option β) (F_bitio_Writer_Put : Option Addr → Int → Int → GH → (GH → Option β) → Option β) (F_bitio_Writer_Bytes : Option Addr → GH → (Sl → GH → Option β) → Option β) (F_sfano_Decoder_Next : Option Addr → Option Addr → GH → (Int → Int → GH → Option β) → Option β) (F_bitio_Reader_Read : Option Addr → GH → (Int → GH → Option β) → Option β) (F_bitio_Writer_Len : Option Addr → GH → (Int → GH → Option β) → Option β) (R : Nat) (a1 : Sl) (a2 : Sl) (h : GH) (K : Bool → GH → Option β) : Option β := gfun Try.prog (CF_law06_SfanoBack F_ref01_Ints F_sfano_Pack F_law06_lives F_bitio_Open F_sfano_Unpack F_ref01_SameInts F_sfano_Codes F_sfano_New F_bitio_New F_ref01_Within F_bitio_Writer_Put F_bitio_Writer_Bytes F_sfano_Decoder_Next F_bitio_Reader_Read F_bitio_Writer_Len) HF_law06_SfanoBack R Try.f8 [Value.slice a1.a a1.n a1.c, Value.slice a2.a a2.n a2.c] h (fun v h' => exB (some v) fun u100 => K u100 h')
set_option maxRecDepth 100000 in
theorem F_law06_SfanoBack_gen (F_ref01_Ints : Sl → Int → GH → (Sl → GH → Option β) → Option β) (F_sfano_Pack : Sl → GH → (Sl → Int → GH → Option β) → Option β) (F_law06_lives : GH → (Bool → GH → Option β) → Option β) (F_bitio_Open : Sl → GH → (Option Addr → GH → Option β) → Option β) (F_sfano_Unpack : Option Addr → Int → GH → (Sl → Int → GH → Option β) → Option β) (F_ref01_SameInts : Sl → Sl → GH → (Bool → GH → Option β) → Option β) (F_sfano_Codes : Sl → GH → (Sl → Int → GH → Option β) → Option β) (F_sfano_New : Sl → GH → (Option Addr → Int → GH → Option β) → Option β) (F_bitio_New : GH → (Option Addr → GH → Option β) → Option β) (F_ref01_Within : Int → Int → Int → GH → (Int → GH → Option β) → Option β) (F_bitio_Writer_Put : Option Addr → Int → Int → GH → (GH → Option β) → Option β) (F_bitio_Writer_Bytes : Option Addr → GH → (Sl → GH → Option β) → Option β) (F_sfano_Decoder_Next : Option Addr → Option Addr → GH → (Int → Int → GH → Option β) → Option β) (F_bitio_Reader_Read : Option Addr → GH → (Int → GH → Option β) → Option β) (F_bitio_Writer_Len : Option Addr → GH → (Int → GH → Option β) → Option β) (R : Nat) (a1 : Sl) (a2 : Sl) (h : GH) (K : Bool → GH → Option β) : G_law06_SfanoBack F_ref01_Ints F_sfano_Pack F_law06_lives F_bitio_Open F_sfano_Unpack F_ref01_SameInts F_sfano_Codes F_sfano_New F_bitio_New F_ref01_Within F_bitio_Writer_Put F_bitio_Writer_Bytes F_sfano_Decoder_Next F_bitio_Reader_Read F_bitio_Writer_Len R a1 a2 h K =
    F_ref01_Ints a1 260 h fun r3 h4 => F_ref01_Ints a2 100 h4 fun r5 h6 => F_sfano_Pack r3 h6 fun r7 r8 h9 => (bif r8 != 0 then (bif ((r7.n : Nat) : Int) == 0 then F_law06_lives h9 fun r10 h11 => K r10 h11 else K false h9) else F_bitio_Open r7 h9 fun r12 h13 => F_sfano_Unpack r12 ((r3.n : Nat) : Int) h13 fun r14 r15 h16 => (bif r15 != 0 then K false h16 else F_ref01_SameInts r3 r14 h16 fun r17 h18 => (bif !r17 then K false h18 else (bif decide (((r7.n : Nat) : Int) > (IntKind.wrap .i64 (((r3.n : Nat) : Int) + 1))) then K false h18 else F_sfano_Codes r3 h18 fun r19 r20 h21 => F_sfano_New r3 h21 fun r22 r23 h24 => (bif r20 != 0 then (bif r20 == r23 then F_law06_lives h24 fun r25 h26 => K r25 h26 else K false h24) else (bif r23 != 0 then (bif r20 == r23 then F_law06_lives h24 fun r27 h28 => K r27 h28 else K false h24) else (bif ((r19.n : Nat) : Int) == 0 then K false h24 else (bif ((r19.n : Nat) : Int) != ((r3.n : Nat) : Int) then K false h24 else F_bitio_New h24 fun r29 h30 => F_law06_SfanoBack_l0 F_ref01_Ints F_sfano_Pack F_law06_lives F_bitio_Open F_sfano_Unpack F_ref01_SameInts F_sfano_Codes F_sfano_New F_bitio_New F_ref01_Within F_bitio_Writer_Put F_bitio_Writer_Bytes F_sfano_Decoder_Next F_bitio_Reader_Read F_bitio_Writer_Len R R r5 r19 r22 r29 0 h30 (fun w55 w56 w57 w58 h59 => F_bitio_Writer_Bytes w58 h59 fun r60 h61 => F_bitio_Open r60 h61 fun r62 h63 => F_law06_SfanoBack_l1 F_ref01_Ints F_sfano_Pack F_law06_lives F_bitio_Open F_sfano_Unpack F_ref01_SameInts F_sfano_Codes F_sfano_New F_bitio_New F_ref01_Within F_bitio_Writer_Put F_bitio_Writer_Bytes F_sfano_Decoder_Next F_bitio_Reader_Read F_bitio_Writer_Len R R w55 w56 w57 w58 r62 0 h63 (fun w81 w82 h83 => F_bitio_Reader_Read w82 h83 fun r84 h85 => F_bitio_Writer_Len w81 h85 fun r86 h87 => (bif r84 == r86 then F_law06_lives h87 fun r88 h89 => K r88 h89 else K false h87)) (fun w90 h91 => K w90 h91)))))))))) := by kernel_rfl
noncomputable def F_law06_SfanoBack (R : Nat) (a1 : Sl) (a2 : Sl) (h : GH) (K : Bool → GH → Option β) : Option β := G_law06_SfanoBack (F_ref01_Ints R) (F_sfano_Pack R) F_law06_lives (F_bitio_Open R) (F_sfano_Unpack R) (F_ref01_SameInts R) (F_sfano_Codes R) (F_sfano_New R) (F_bitio_New R) (F_ref01_Within R) (F_bitio_Writer_Put R) (F_bitio_Writer_Bytes R) (F_sfano_Decoder_Next R) (F_bitio_Reader_Read R) (F_bitio_Writer_Len R) R a1 a2 h K
set_option maxRecDepth 100000 in
theorem CF_law06_SfanoBack_sim {R : Nat} : SimOrc Try.prog (CF_law06_SfanoBack (F_ref01_Ints R) (F_sfano_Pack R) F_law06_lives (F_bitio_Open R) (F_sfano_Unpack R) (F_ref01_SameInts R) (F_sfano_Codes R) (F_sfano_New R) (F_bitio_New R) (F_ref01_Within R) (F_bitio_Writer_Put R) (F_bitio_Writer_Bytes R) (F_sfano_Decoder_Next R) (F_bitio_Reader_Read R) (F_bitio_Writer_Len R) (β := β)) := by
  intro f args h K r hc
  unfold CF_law06_SfanoBack at hc
  cases hb : Nat.beq f 9 with
  | true =>
    rw [hb] at hc
    simp only [cond_true] at hc
    obtain rfl := Nat.eq_of_beq_eq_true hb
    split at hc
    · exact any_call (F_ref01_Ints_sim (K := K) hc)
    · cases hc
  | false =>
  rw [hb] at hc
  simp only [cond_false] at hc
  cases hb : Nat.beq f 13 with
  | true =>
    rw [hb] at hc
    simp only [cond_true] at hc
    obtain rfl := Nat.eq_of_beq_eq_true hb
    split at hc
    · exact any_call (F_sfano_Pack_sim (K := K) hc)
    · cases hc
  | false =>
  rw [hb] at hc
  simp only [cond_false] at hc
  cases hb : Nat.beq f 11 with
  | true =>
    rw [hb] at hc
    simp only [cond_true] at hc
    obtain rfl := Nat.eq_of_beq_eq_true hb
    split at hc
    · exact any_call (F_law06_lives_sim (K := K) hc)
    · cases hc
  | false =>
  rw [hb] at hc
  simp only [cond_false] at hc
  cases hb : Nat.beq f 21 with
  | true =>
    rw [hb] at hc
    simp only [cond_true] at hc
    obtain rfl := Nat.eq_of_beq_eq_true hb
    split at hc
    · exact any_call (F_bitio_Open_sim (K := K) hc)
    · cases hc
  | false =>
  rw [hb] at hc
  simp only [cond_false] at hc
  cases hb : Nat.beq f 25 with
  | true =>
    rw [hb] at hc
    simp only [cond_true] at hc
    obtain rfl := Nat.eq_of_beq_eq_true hb
    split at hc
    · exact any_call (F_sfano_Unpack_sim (K := K) hc)
    · cases hc
  | false =>
  rw [hb] at hc
  simp only [cond_false] at hc
  cases hb : Nat.beq f 19 with
  | true =>
    rw [hb] at hc
    simp only [cond_true] at hc
    obtain rfl := Nat.eq_of_beq_eq_true hb
    split at hc
    · exact any_call (F_ref01_SameInts_sim (K := K) hc)
    · cases hc
  | false =>
  rw [hb] at hc
  simp only [cond_false] at hc
  cases hb : Nat.beq f 10 with
  | true =>
    rw [hb] at hc
    simp only [cond_true] at hc
    obtain rfl := Nat.eq_of_beq_eq_true hb
    split at hc
    · exact any_call (F_sfano_Codes_sim (K := K) hc)
    · cases hc
  | false =>
  rw [hb] at hc
  simp only [cond_false] at hc
  cases hb : Nat.beq f 17 with
  | true =>
    rw [hb] at hc
    simp only [cond_true] at hc
    obtain rfl := Nat.eq_of_beq_eq_true hb
    split at hc
    · exact any_call (F_sfano_New_sim (K := K) hc)
    · cases hc
  | false =>
  rw [hb] at hc
  simp only [cond_false] at hc
  cases hb : Nat.beq f 27 with
  | true =>
    rw [hb] at hc
    simp only [cond_true] at hc
    obtain rfl := Nat.eq_of_beq_eq_true hb
    split at hc
    · exact any_call (F_bitio_New_sim (K := K) hc)
    · cases hc
  | false =>
  rw [hb] at hc
  simp only [cond_false] at hc
  cases hb : Nat.beq f 26 with
  | true =>
    rw [hb] at hc
    simp only [cond_true] at hc
    obtain rfl := Nat.eq_of_beq_eq_true hb
    split at hc
    · exact any_call (F_ref01_Within_sim (K := K) hc)
    · cases hc
  | false =>
  rw [hb] at hc
  simp only [cond_false] at hc
  cases hb : Nat.beq f 28 with
  | true =>
    rw [hb] at hc
    simp only [cond_true] at hc
    obtain rfl := Nat.eq_of_beq_eq_true hb
    split at hc
    · exact any_call (F_bitio_Writer_Put_sim (K := K) hc)
    · cases hc
  | false =>
  rw [hb] at hc
  simp only [cond_false] at hc
  cases hb : Nat.beq f 29 with
  | true =>
    rw [hb] at hc
    simp only [cond_true] at hc
    obtain rfl := Nat.eq_of_beq_eq_true hb
    split at hc
    · exact any_call (F_bitio_Writer_Bytes_sim (K := K) hc)
    · cases hc
  | false =>
  rw [hb] at hc
  simp only [cond_false] at hc
  cases hb : Nat.beq f 22 with
  | true =>
    rw [hb] at hc
    simp only [cond_true] at hc
    obtain rfl := Nat.eq_of_beq_eq_true hb
    split at hc
    · exact any_call (F_sfano_Decoder_Next_sim (K := K) hc)
    · cases hc
  | false =>
  rw [hb] at hc
  simp only [cond_false] at hc
  cases hb : Nat.beq f 24 with
  | true =>
    rw [hb] at hc
    simp only [cond_true] at hc
    obtain rfl := Nat.eq_of_beq_eq_true hb
    split at hc
    · exact any_call (F_bitio_Reader_Read_sim (K := K) hc)
    · cases hc
  | false =>
  rw [hb] at hc
  simp only [cond_false] at hc
  cases hb : Nat.beq f 30 with
  | true =>
    rw [hb] at hc
    simp only [cond_true] at hc
    obtain rfl := Nat.eq_of_beq_eq_true hb
    split at hc
    · exact any_call (F_bitio_Writer_Len_sim (K := K) hc)
    · cases hc
  | false =>
  rw [hb] at hc
  simp only [cond_false] at hc
  cases hc
set_option maxRecDepth 100000 in
theorem F_law06_SfanoBack_sim {R : Nat} {r : β} {a1 : Sl} {a2 : Sl} {h : GH} {K : Value → GH → Option β} (hc : F_law06_SfanoBack R a1 a2 h (fun q0 h' => K (Value.bool q0) h') = some r) : ∃ v h', K v h' = some r ∧ CallSim Try.prog 8 [Value.slice a1.a a1.n a1.c, Value.slice a2.a a2.n a2.c] h v h' := by
  unfold F_law06_SfanoBack G_law06_SfanoBack at hc
  obtain ⟨v, h', hk, hs⟩ := gfun_sim CF_law06_SfanoBack_sim mixed_ok (fun f h => by cases h) Try.func8 (by kernel_rfl) hc
  obtain ⟨u0, e0, hk⟩ := exB_v hk; cases e0
  exact ⟨_, h', hk, hs⟩
end
end Go.Proofs.Ytephmpbccajaaaa.Gx
