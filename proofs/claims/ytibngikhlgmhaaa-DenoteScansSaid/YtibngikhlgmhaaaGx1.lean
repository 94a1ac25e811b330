/- Functions of the program as the plain machine has them, each with its equation. Printed by a program of this place (wip/gx/gx.py) out of the translation. No condition. -/
import Derived.Test.YtibngikhlgmhaaaGxQ
import Derived.Test.YtibngikhlgmhaaaGx0
namespace Go.Proofs.Ytibngikhlgmhaaa.Gx
open Go
set_option linter.unusedVariables false
section
variable {β : Type}
/-! F83 duffel/duffelref24.at -/
def CF_ref24_at (F_ref02_Num : Sl → GH → (Int → GH → Option β) → Option β) : Orc β := fun f args h K => bif Nat.beq f 82 then (match args with | [.slice p1a p1n p1c] => F_ref02_Num ⟨p1a, p1n, p1c⟩ h (fun q11 h' => K (Value.int .u32 q11) h') | _ => none) else none
def HF_ref24_at : Hints := ⟨[], [], []⟩
noncomputable def G_ref24_at (F_ref02_Num : Sl → GH → (Int → GH → Option β) → Option β) (R : Nat) (a1 : Sl) (a2 : Int) (h : GH) (K : Int → GH → Option β) : Option β := gfun Try.prog (CF_ref24_at F_ref02_Num) HF_ref24_at R Try.f83 [Value.slice a1.a a1.n a1.c, Value.int .i64 a2] h (fun v h' => exI .i64 (some v) fun u8 => K u8 h')
set_option maxRecDepth 100000 in
theorem F_ref24_at_gen (F_ref02_Num : Sl → GH → (Int → GH → Option β) → Option β) (R : Nat) (a1 : Sl) (a2 : Int) (h : GH) (K : Int → GH → Option β) : G_ref24_at F_ref02_Num R a1 a2 h K =
    bnd (IntKind.wrap .i64 (a2 + 2)) a1.c fun m3 => bnd a2 m3 fun m4 => F_ref02_Num ⟨addO a1.a (m4 * 1), m3 - m4, a1.c - m4⟩ h fun r5 h6 => K (IntKind.wrap .i64 r5) h6 := by kernel_rfl
noncomputable def F_ref24_at (R : Nat) (a1 : Sl) (a2 : Int) (h : GH) (K : Int → GH → Option β) : Option β := G_ref24_at (F_ref02_Num R) R a1 a2 h K
set_option maxRecDepth 100000 in
theorem CF_ref24_at_sim {R : Nat} : SimOrc Try.prog (CF_ref24_at (F_ref02_Num R) (β := β)) := by
  intro f args h K r hc
  unfold CF_ref24_at at hc
  cases hb : Nat.beq f 82 with
  | true =>
    rw [hb] at hc
    simp only [cond_true] at hc
    obtain rfl := Nat.eq_of_beq_eq_true hb
    split at hc
    · exact any_call (F_ref02_Num_sim (K := K) hc)
    · cases hc
  | false =>
  rw [hb] at hc
  simp only [cond_false] at hc
  cases hc
set_option maxRecDepth 100000 in
theorem F_ref24_at_sim {R : Nat} {r : β} {a1 : Sl} {a2 : Int} {h : GH} {K : Value → GH → Option β} (hc : F_ref24_at R a1 a2 h (fun q0 h' => K (Value.int .i64 q0) h') = some r) : ∃ v h', K v h' = some r ∧ CallSim Try.prog 83 [Value.slice a1.a a1.n a1.c, Value.int .i64 a2] h v h' := by
  unfold F_ref24_at G_ref24_at at hc
  obtain ⟨v, h', hk, hs⟩ := gfun_sim (CF_ref24_at_sim (R := R)) mixed_ok (fun f h => by cases h) Try.func83 (by kernel_rfl) hc
  obtain ⟨u0, e0, hk⟩ := exI_v hk; cases e0
  exact ⟨_, h', hk, hs⟩
/-! F51 duffel/duffelref24.FindEnd -/
def CF_ref24_FindEnd (F_ref02_Num : Sl → GH → (Int → GH → Option β) → Option β) (F_ref24_at : Sl → Int → GH → (Int → GH → Option β) → Option β) : Orc β := fun f args h K => bif Nat.beq f 82 then (match args with | [.slice p1a p1n p1c] => F_ref02_Num ⟨p1a, p1n, p1c⟩ h (fun q11 h' => K (Value.int .u32 q11) h') | _ => none) else (bif Nat.beq f 83 then (match args with | [.slice p1a p1n p1c, .int .i64 p2] => F_ref24_at ⟨p1a, p1n, p1c⟩ p2 h (fun q7 h' => K (Value.int .i64 q7) h') | _ => none) else none)
def HF_ref24_FindEnd : Hints := ⟨[(3, [0, 3, 4], [(0, [(3, .ty 3)])], none)], [], []⟩
noncomputable def BF_ref24_FindEnd : Code := match Try.f51.body with | some c => c | none => .skip
noncomputable def F_ref24_FindEnd_l0 (F_ref02_Num : Sl → GH → (Int → GH → Option β) → Option β) (F_ref24_at : Sl → Int → GH → (Int → GH → Option β) → Option β) (R : Nat) (n : Nat) (y2 : Sl) (y3 : Int) (y4 : Int) (h : GH) (K0 : Int → GH → Option β) : Option β := gloop (gcode Try.prog (CF_ref24_FindEnd F_ref02_Num F_ref24_at) Try.f51.ntmps HF_ref24_FindEnd R (at_ [true, true, false, true, false, false] BF_ref24_FindEnd)) [0, 3, 4] n [(0, Value.slice y2.a y2.n y2.c), (3, Value.int .i64 y3), (4, Value.int .i64 y4)] h (fun i e' h' => bif Nat.beq i 0 then (exI .i64 (some (e'.get 3)) fun u15 => K0 u15 h') else none) (fun e' h' => none)
set_option maxRecDepth 100000 in
theorem F_ref24_FindEnd_l0_succ (F_ref02_Num : Sl → GH → (Int → GH → Option β) → Option β) (F_ref24_at : Sl → Int → GH → (Int → GH → Option β) → Option β) (R : Nat) (n : Nat) (y2 : Sl) (y3 : Int) (y4 : Int) (h : GH) (K0 : Int → GH → Option β) : F_ref24_FindEnd_l0 F_ref02_Num F_ref24_at R (n + 1) y2 y3 y4 h K0 =
    (bif decide ((IntKind.wrap .i64 (y4 + 22)) ≤ ((y2.n : Nat) : Int)) then bnd (IntKind.wrap .i64 (y4 + 4)) y2.c fun m6 => bnd y4 m6 fun m7 => F_ref02_Num ⟨addO y2.a (m7 * 1), m6 - m7, y2.c - m7⟩ h fun r8 h9 => (bif r8 == 101010256 then F_ref24_at y2 (IntKind.wrap .i64 (y4 + 20)) h9 fun r10 h11 => (bif (IntKind.wrap .i64 ((IntKind.wrap .i64 (y4 + 22)) + r10)) == ((y2.n : Nat) : Int) then F_ref24_FindEnd_l0 F_ref02_Num F_ref24_at R n y2 y4 (IntKind.wrap .i64 (y4 + 1)) h11 K0 else F_ref24_FindEnd_l0 F_ref02_Num F_ref24_at R n y2 y3 (IntKind.wrap .i64 (y4 + 1)) h11 K0) else F_ref24_FindEnd_l0 F_ref02_Num F_ref24_at R n y2 y3 (IntKind.wrap .i64 (y4 + 1)) h9 K0) else K0 y3 h) := by kernel_rfl
noncomputable def G_ref24_FindEnd (F_ref02_Num : Sl → GH → (Int → GH → Option β) → Option β) (F_ref24_at : Sl → Int → GH → (Int → GH → Option β) → Option β) (R : Nat) (a1 : Sl) (h : GH) (K : Int → GH → Option β) : Option β := gfun Try.prog (CF_ref24_FindEnd F_ref02_Num F_ref24_at) HF_ref24_FindEnd R Try.f51 [Value.slice a1.a a1.n a1.c] h (fun v h' => exI .i64 (some v) fun u16 => K u16 h')
set_option maxRecDepth 100000 in
theorem F_ref24_FindEnd_gen (F_ref02_Num : Sl → GH → (Int → GH → Option β) → Option β) (F_ref24_at : Sl → Int → GH → (Int → GH → Option β) → Option β) (R : Nat) (a1 : Sl) (h : GH) (K : Int → GH → Option β) : G_ref24_FindEnd F_ref02_Num F_ref24_at R a1 h K =
    F_ref24_FindEnd_l0 F_ref02_Num F_ref24_at R R a1 (-1) 0 h (fun w12 h13 => K w12 h13) := by kernel_rfl
noncomputable def F_ref24_FindEnd (R : Nat) (a1 : Sl) (h : GH) (K : Int → GH → Option β) : Option β := G_ref24_FindEnd (F_ref02_Num R) (F_ref24_at R) R a1 h K
set_option maxRecDepth 100000 in
theorem CF_ref24_FindEnd_sim {R : Nat} : SimOrc Try.prog (CF_ref24_FindEnd (F_ref02_Num R) (F_ref24_at R) (β := β)) := by
  intro f args h K r hc
  unfold CF_ref24_FindEnd at hc
  cases hb : Nat.beq f 82 with
  | true =>
    rw [hb] at hc
    simp only [cond_true] at hc
    obtain rfl := Nat.eq_of_beq_eq_true hb
    split at hc
    · exact any_call (F_ref02_Num_sim (K := K) hc)
    · cases hc
  | false =>
  rw [hb] at hc
  simp only [cond_false] at hc
  cases hb : Nat.beq f 83 with
  | true =>
    rw [hb] at hc
    simp only [cond_true] at hc
    obtain rfl := Nat.eq_of_beq_eq_true hb
    split at hc
    · exact any_call (F_ref24_at_sim (K := K) hc)
    · cases hc
  | false =>
  rw [hb] at hc
  simp only [cond_false] at hc
  cases hc
set_option maxRecDepth 100000 in
theorem F_ref24_FindEnd_sim {R : Nat} {r : β} {a1 : Sl} {h : GH} {K : Value → GH → Option β} (hc : F_ref24_FindEnd R a1 h (fun q0 h' => K (Value.int .i64 q0) h') = some r) : ∃ v h', K v h' = some r ∧ CallSim Try.prog 51 [Value.slice a1.a a1.n a1.c] h v h' := by
  unfold F_ref24_FindEnd G_ref24_FindEnd at hc
  obtain ⟨v, h', hk, hs⟩ := gfun_sim (CF_ref24_FindEnd_sim (R := R)) mixed_ok (fun f h => by cases h) Try.func51 (by kernel_rfl) hc
  obtain ⟨u0, e0, hk⟩ := exI_v hk; cases e0
  exact ⟨_, h', hk, hs⟩
/-! F72 (*duffel/duffelref02.Cursor).Take -/
def CF_ref02_Cursor_Take (F_ref01_Copy : Sl → GH → (Sl → GH → Option β) → Option β) : Orc β := fun f args h K => bif Nat.beq f 13 then (match args with | [.slice p1a p1n p1c] => F_ref01_Copy ⟨p1a, p1n, p1c⟩ h (fun q4 h' => K (Value.slice q4.a q4.n q4.c) h') | _ => none) else none
def HF_ref02_Cursor_Take : Hints := ⟨[], [], []⟩
noncomputable def G_ref02_Cursor_Take (F_ref01_Copy : Sl → GH → (Sl → GH → Option β) → Option β) (R : Nat) (a1 : Option Addr) (a2 : Int) (h : GH) (K : Sl → GH → Option β) : Option β := gfun Try.prog (CF_ref02_Cursor_Take F_ref01_Copy) HF_ref02_Cursor_Take R Try.f72 [Value.pointer a1, Value.int .i64 a2] h (fun v h' => exS (some v) fun u38 => K u38 h')
set_option maxRecDepth 100000 in
theorem F_ref02_Cursor_Take_gen (F_ref01_Copy : Sl → GH → (Sl → GH → Option β) → Option β) (R : Nat) (a1 : Option Addr) (a2 : Int) (h : GH) (K : Sl → GH → Option β) : G_ref02_Cursor_Take F_ref01_Copy R a1 a2 h K =
    exA a1 fun g3 o4 => exI .i64 (h.cell ⟨g3, o4 + 2, none⟩) fun x5 => (bif x5 != 0 then K ⟨none, 0, 0⟩ h else (bif decide (a2 < 0) then exA a1 fun g6 o7 => gput g6 (o7 + 2) [Value.int .i64 2] h fun h8 => K ⟨none, 0, 0⟩ h8 else exA a1 fun g9 o10 => exS (h.cell ⟨g9, o10 + 0, none⟩) fun x11 => exA a1 fun g12 o13 => exI .i64 (h.cell ⟨g12, o13 + 1, none⟩) fun x14 => (bif decide (a2 > (IntKind.wrap .i64 (((x11.n : Nat) : Int) - x14))) then exA a1 fun g15 o16 => gput g15 (o16 + 2) [Value.int .i64 3] h fun h17 => K ⟨none, 0, 0⟩ h17 else exA a1 fun g18 o19 => exI .i64 (h.cell ⟨g18, o19 + 1, none⟩) fun x20 => exA a1 fun g21 o22 => gput g21 (o22 + 1) [Value.int .i64 (IntKind.wrap .i64 (x20 + a2))] h fun h23 => exA a1 fun g24 o25 => exS (h23.cell ⟨g24, o25 + 0, none⟩) fun x26 => exA a1 fun g27 o28 => exI .i64 (h23.cell ⟨g27, o28 + 1, none⟩) fun x29 => exA a1 fun g30 o31 => exI .i64 (h23.cell ⟨g30, o31 + 1, none⟩) fun x32 => bnd x32 x26.c fun m33 => bnd (IntKind.wrap .i64 (x29 - a2)) m33 fun m34 => F_ref01_Copy ⟨addO x26.a (m34 * 1), m33 - m34, x26.c - m34⟩ h23 fun r35 h36 => K r35 h36))) := by kernel_rfl
noncomputable def F_ref02_Cursor_Take (R : Nat) (a1 : Option Addr) (a2 : Int) (h : GH) (K : Sl → GH → Option β) : Option β := G_ref02_Cursor_Take (F_ref01_Copy R) R a1 a2 h K
set_option maxRecDepth 100000 in
theorem CF_ref02_Cursor_Take_sim {R : Nat} : SimOrc Try.prog (CF_ref02_Cursor_Take (F_ref01_Copy R) (β := β)) := by
  intro f args h K r hc
  unfold CF_ref02_Cursor_Take at hc
  cases hb : Nat.beq f 13 with
  | true =>
    rw [hb] at hc
    simp only [cond_true] at hc
    obtain rfl := Nat.eq_of_beq_eq_true hb
    split at hc
    · exact any_call (F_ref01_Copy_sim (K := K) hc)
    · cases hc
  | false =>
  rw [hb] at hc
  simp only [cond_false] at hc
  cases hc
set_option maxRecDepth 100000 in
theorem F_ref02_Cursor_Take_sim {R : Nat} {r : β} {a1 : Option Addr} {a2 : Int} {h : GH} {K : Value → GH → Option β} (hc : F_ref02_Cursor_Take R a1 a2 h (fun q0 h' => K (Value.slice q0.a q0.n q0.c) h') = some r) : ∃ v h', K v h' = some r ∧ CallSim Try.prog 72 [Value.pointer a1, Value.int .i64 a2] h v h' := by
  unfold F_ref02_Cursor_Take G_ref02_Cursor_Take at hc
  obtain ⟨v, h', hk, hs⟩ := gfun_sim (CF_ref02_Cursor_Take_sim (R := R)) mixed_ok (fun f h => by cases h) Try.func72 (by kernel_rfl) hc
  obtain ⟨u0, e0, hk⟩ := exS_v hk; cases e0
  exact ⟨_, h', hk, hs⟩
/-! F94 duffel/duffelref24.sign -/
def CF_ref24_sign (F_ref02_Cursor_Take : Option Addr → Int → GH → (Sl → GH → Option β) → Option β) (F_ref02_Num : Sl → GH → (Int → GH → Option β) → Option β) : Orc β := fun f args h K => bif Nat.beq f 72 then (match args with | [.pointer p1, .int .i64 p2] => F_ref02_Cursor_Take p1 p2 h (fun q37 h' => K (Value.slice q37.a q37.n q37.c) h') | _ => none) else (bif Nat.beq f 82 then (match args with | [.slice p1a p1n p1c] => F_ref02_Num ⟨p1a, p1n, p1c⟩ h (fun q11 h' => K (Value.int .u32 q11) h') | _ => none) else none)
def HF_ref24_sign : Hints := ⟨[], [], []⟩
noncomputable def G_ref24_sign (F_ref02_Cursor_Take : Option Addr → Int → GH → (Sl → GH → Option β) → Option β) (F_ref02_Num : Sl → GH → (Int → GH → Option β) → Option β) (R : Nat) (a1 : Option Addr) (a2 : Int) (h : GH) (K : Int → GH → Option β) : Option β := gfun Try.prog (CF_ref24_sign F_ref02_Cursor_Take F_ref02_Num) HF_ref24_sign R Try.f94 [Value.pointer a1, Value.int .u32 a2] h (fun v h' => exI .i64 (some v) fun u14 => K u14 h')
set_option maxRecDepth 100000 in
theorem F_ref24_sign_gen (F_ref02_Cursor_Take : Option Addr → Int → GH → (Sl → GH → Option β) → Option β) (F_ref02_Num : Sl → GH → (Int → GH → Option β) → Option β) (R : Nat) (a1 : Option Addr) (a2 : Int) (h : GH) (K : Int → GH → Option β) : G_ref24_sign F_ref02_Cursor_Take F_ref02_Num R a1 a2 h K =
    F_ref02_Cursor_Take a1 4 h fun r3 h4 => exA a1 fun g5 o6 => exI .i64 (h4.cell ⟨g5, o6 + 2, none⟩) fun x7 => (bif x7 != 0 then exA a1 fun g8 o9 => exI .i64 (h4.cell ⟨g8, o9 + 2, none⟩) fun x10 => K x10 h4 else F_ref02_Num r3 h4 fun r11 h12 => (bif r11 != a2 then K 13 h12 else K 0 h12)) := by kernel_rfl
noncomputable def F_ref24_sign (R : Nat) (a1 : Option Addr) (a2 : Int) (h : GH) (K : Int → GH → Option β) : Option β := G_ref24_sign (F_ref02_Cursor_Take R) (F_ref02_Num R) R a1 a2 h K
set_option maxRecDepth 100000 in
theorem CF_ref24_sign_sim {R : Nat} : SimOrc Try.prog (CF_ref24_sign (F_ref02_Cursor_Take R) (F_ref02_Num R) (β := β)) := by
  intro f args h K r hc
  unfold CF_ref24_sign at hc
  cases hb : Nat.beq f 72 with
  | true =>
    rw [hb] at hc
    simp only [cond_true] at hc
    obtain rfl := Nat.eq_of_beq_eq_true hb
    split at hc
    · exact any_call (F_ref02_Cursor_Take_sim (K := K) hc)
    · cases hc
  | false =>
  rw [hb] at hc
  simp only [cond_false] at hc
  cases hb : Nat.beq f 82 with
  | true =>
    rw [hb] at hc
    simp only [cond_true] at hc
    obtain rfl := Nat.eq_of_beq_eq_true hb
    split at hc
    · exact any_call (F_ref02_Num_sim (K := K) hc)
    · cases hc
  | false =>
  rw [hb] at hc
  simp only [cond_false] at hc
  cases hc
set_option maxRecDepth 100000 in
theorem F_ref24_sign_sim {R : Nat} {r : β} {a1 : Option Addr} {a2 : Int} {h : GH} {K : Value → GH → Option β} (hc : F_ref24_sign R a1 a2 h (fun q0 h' => K (Value.int .i64 q0) h') = some r) : ∃ v h', K v h' = some r ∧ CallSim Try.prog 94 [Value.pointer a1, Value.int .u32 a2] h v h' := by
  unfold F_ref24_sign G_ref24_sign at hc
  obtain ⟨v, h', hk, hs⟩ := gfun_sim (CF_ref24_sign_sim (R := R)) mixed_ok (fun f h => by cases h) Try.func94 (by kernel_rfl) hc
  obtain ⟨u0, e0, hk⟩ := exI_v hk; cases e0
  exact ⟨_, h', hk, hs⟩
/-! F95 duffel/duffelref24.take -/
def CF_ref24_take (F_ref02_Cursor_Take : Option Addr → Int → GH → (Sl → GH → Option β) → Option β) : Orc β := fun f args h K => bif Nat.beq f 72 then (match args with | [.pointer p1, .int .i64 p2] => F_ref02_Cursor_Take p1 p2 h (fun q37 h' => K (Value.slice q37.a q37.n q37.c) h') | _ => none) else none
def HF_ref24_take : Hints := ⟨[(3, [0, 1, 5, 6], [(0, [(5, .ty 23)])], none)], [], []⟩
noncomputable def BF_ref24_take : Code := match Try.f95.body with | some c => c | none => .skip
noncomputable def F_ref24_take_l0 (F_ref02_Cursor_Take : Option Addr → Int → GH → (Sl → GH → Option β) → Option β) (R : Nat) (n : Nat) (y3 : Option Addr) (y4 : Sl) (y5 : Sl) (y6 : Int) (h : GH) (K0 : Sl → GH → Option β) : Option β := gloop (gcode Try.prog (CF_ref24_take F_ref02_Cursor_Take) Try.f95.ntmps HF_ref24_take R (at_ [true, true, false, true, false, false] BF_ref24_take)) [0, 1, 5, 6] n [(0, Value.pointer y3), (1, Value.slice y4.a y4.n y4.c), (5, Value.slice y5.a y5.n y5.c), (6, Value.int .i64 y6)] h (fun i e' h' => bif Nat.beq i 0 then (exS (some (e'.get 5)) fun u18 => K0 u18 h') else none) (fun e' h' => none)
set_option maxRecDepth 100000 in
theorem F_ref24_take_l0_succ (F_ref02_Cursor_Take : Option Addr → Int → GH → (Sl → GH → Option β) → Option β) (R : Nat) (n : Nat) (y3 : Option Addr) (y4 : Sl) (y5 : Sl) (y6 : Int) (h : GH) (K0 : Sl → GH → Option β) : F_ref24_take_l0 F_ref02_Cursor_Take R (n + 1) y3 y4 y5 y6 h K0 =
    (bif decide (y6 < ((y4.n : Nat) : Int)) then exA y4.a fun g8 o9 => within y6 y4.n (exI .i64 (h.cell ⟨g8, o9 + y6.toNat * 1, none⟩) fun x10 => F_ref02_Cursor_Take y3 x10 h fun r11 h12 => gappS 1 1 y5 r11 h12 fun s13 h14 => F_ref24_take_l0 F_ref02_Cursor_Take R n y3 y4 s13 (IntKind.wrap .i64 (y6 + 1)) h14 K0) else K0 y5 h) := by kernel_rfl
noncomputable def G_ref24_take (F_ref02_Cursor_Take : Option Addr → Int → GH → (Sl → GH → Option β) → Option β) (R : Nat) (a1 : Option Addr) (a2 : Sl) (h : GH) (K : Sl → GH → Option β) : Option β := gfun Try.prog (CF_ref24_take F_ref02_Cursor_Take) HF_ref24_take R Try.f95 [Value.pointer a1, Value.slice a2.a a2.n a2.c] h (fun v h' => exS (some v) fun u19 => K u19 h')
set_option maxRecDepth 100000 in
theorem F_ref24_take_gen (F_ref02_Cursor_Take : Option Addr → Int → GH → (Sl → GH → Option β) → Option β) (R : Nat) (a1 : Option Addr) (a2 : Sl) (h : GH) (K : Sl → GH → Option β) : G_ref24_take F_ref02_Cursor_Take R a1 a2 h K =
    F_ref24_take_l0 F_ref02_Cursor_Take R R a1 a2 ⟨none, 0, 0⟩ 0 h (fun w15 h16 => K w15 h16) := by kernel_rfl
noncomputable def F_ref24_take (R : Nat) (a1 : Option Addr) (a2 : Sl) (h : GH) (K : Sl → GH → Option β) : Option β := G_ref24_take (F_ref02_Cursor_Take R) R a1 a2 h K
set_option maxRecDepth 100000 in
theorem CF_ref24_take_sim {R : Nat} : SimOrc Try.prog (CF_ref24_take (F_ref02_Cursor_Take R) (β := β)) := by
  intro f args h K r hc
  unfold CF_ref24_take at hc
  cases hb : Nat.beq f 72 with
  | true =>
    rw [hb] at hc
    simp only [cond_true] at hc
    obtain rfl := Nat.eq_of_beq_eq_true hb
    split at hc
    · exact any_call (F_ref02_Cursor_Take_sim (K := K) hc)
    · cases hc
  | false =>
  rw [hb] at hc
  simp only [cond_false] at hc
  cases hc
set_option maxRecDepth 100000 in
theorem F_ref24_take_sim {R : Nat} {r : β} {a1 : Option Addr} {a2 : Sl} {h : GH} {K : Value → GH → Option β} (hc : F_ref24_take R a1 a2 h (fun q0 h' => K (Value.slice q0.a q0.n q0.c) h') = some r) : ∃ v h', K v h' = some r ∧ CallSim Try.prog 95 [Value.pointer a1, Value.slice a2.a a2.n a2.c] h v h' := by
  unfold F_ref24_take G_ref24_take at hc
  obtain ⟨v, h', hk, hs⟩ := gfun_sim (CF_ref24_take_sim (R := R)) mixed_ok (fun f h => by cases h) Try.func95 (by kernel_rfl) hc
  obtain ⟨u0, e0, hk⟩ := exS_v hk; cases e0
  exact ⟨_, h', hk, hs⟩
/-! F68 duffel/duffelref24.ReadEnd -/
def CF_ref24_ReadEnd (F_ref24_sign : Option Addr → Int → GH → (Int → GH → Option β) → Option β) (F_ref24_take : Option Addr → Sl → GH → (Sl → GH → Option β) → Option β) (F_ref24_at : Sl → Int → GH → (Int → GH → Option β) → Option β) (F_ref02_Num : Sl → GH → (Int → GH → Option β) → Option β) (F_ref02_Cursor_Take : Option Addr → Int → GH → (Sl → GH → Option β) → Option β) : Orc β := fun f args h K => bif Nat.beq f 94 then (match args with | [.pointer p1, .int .u32 p2] => F_ref24_sign p1 p2 h (fun q13 h' => K (Value.int .i64 q13) h') | _ => none) else (bif Nat.beq f 95 then (match args with | [.pointer p1, .slice p2a p2n p2c] => F_ref24_take p1 ⟨p2a, p2n, p2c⟩ h (fun q17 h' => K (Value.slice q17.a q17.n q17.c) h') | _ => none) else (bif Nat.beq f 83 then (match args with | [.slice p1a p1n p1c, .int .i64 p2] => F_ref24_at ⟨p1a, p1n, p1c⟩ p2 h (fun q7 h' => K (Value.int .i64 q7) h') | _ => none) else (bif Nat.beq f 82 then (match args with | [.slice p1a p1n p1c] => F_ref02_Num ⟨p1a, p1n, p1c⟩ h (fun q11 h' => K (Value.int .u32 q11) h') | _ => none) else (bif Nat.beq f 72 then (match args with | [.pointer p1, .int .i64 p2] => F_ref02_Cursor_Take p1 p2 h (fun q37 h' => K (Value.slice q37.a q37.n q37.c) h') | _ => none) else none))))
def HF_ref24_ReadEnd : Hints := ⟨[], [], []⟩
noncomputable def G_ref24_ReadEnd (F_ref24_sign : Option Addr → Int → GH → (Int → GH → Option β) → Option β) (F_ref24_take : Option Addr → Sl → GH → (Sl → GH → Option β) → Option β) (F_ref24_at : Sl → Int → GH → (Int → GH → Option β) → Option β) (F_ref02_Num : Sl → GH → (Int → GH → Option β) → Option β) (F_ref02_Cursor_Take : Option Addr → Int → GH → (Sl → GH → Option β) → Option β) (R : Nat) (a1 : Option Addr) (h : GH) (K : Int → Int → Int → Int → Int → Int → Sl → Int → GH → Option β) : Option β := gfun Try.prog (CF_ref24_ReadEnd F_ref24_sign F_ref24_take F_ref24_at F_ref02_Num F_ref02_Cursor_Take) HF_ref24_ReadEnd R Try.f68 [Value.pointer a1] h (fun v h' => exTup 2 v fun vs => exV (nth vs 0) fun v0 => exAg v0 fun c93 => (bif Nat.beq c93.length 7 then exI .i64 (nth c93 (0)) fun u94 => exI .i64 (nth c93 (0 + 1)) fun u95 => exI .i64 (nth c93 (0 + 1 + 1)) fun u96 => exI .i64 (nth c93 (0 + 1 + 1 + 1)) fun u97 => exI .u32 (nth c93 (0 + 1 + 1 + 1 + 1)) fun u98 => exI .u32 (nth c93 (0 + 1 + 1 + 1 + 1 + 1)) fun u99 => exS (nth c93 (0 + 1 + 1 + 1 + 1 + 1 + 1)) fun u100 => exV (nth vs 1) fun v1 => exI .i64 (some v1) fun u101 => K u94 u95 u96 u97 u98 u99 u100 u101 h' else none))
set_option maxRecDepth 100000 in
theorem F_ref24_ReadEnd_gen (F_ref24_sign : Option Addr → Int → GH → (Int → GH → Option β) → Option β) (F_ref24_take : Option Addr → Sl → GH → (Sl → GH → Option β) → Option β) (F_ref24_at : Sl → Int → GH → (Int → GH → Option β) → Option β) (F_ref02_Num : Sl → GH → (Int → GH → Option β) → Option β) (F_ref02_Cursor_Take : Option Addr → Int → GH → (Sl → GH → Option β) → Option β) (R : Nat) (a1 : Option Addr) (h : GH) (K : Int → Int → Int → Int → Int → Int → Sl → Int → GH → Option β) : G_ref24_ReadEnd F_ref24_sign F_ref24_take F_ref24_at F_ref02_Num F_ref02_Cursor_Take R a1 h K =
    gnew [Value.int .i64 0, Value.int .i64 0, Value.int .i64 0, Value.int .i64 0, Value.int .u32 0, Value.int .u32 0, Value.slice none 0 0] 0 h fun g2 h3 => F_ref24_sign a1 101010256 h3 fun r4 h5 => (bif r4 != 0 then gput g2 (0) [Value.int .i64 0, Value.int .i64 0, Value.int .i64 0, Value.int .i64 0, Value.int .u32 0, Value.int .u32 0, Value.slice none 0 0] h5 fun h6 => exI .i64 (h6.cell ⟨g2, 0, none⟩) fun x7 => exI .i64 (h6.cell ⟨g2, 0 + 1, none⟩) fun x8 => exI .i64 (h6.cell ⟨g2, 0 + 1 + 1, none⟩) fun x9 => exI .i64 (h6.cell ⟨g2, 0 + 1 + 1 + 1, none⟩) fun x10 => exI .u32 (h6.cell ⟨g2, 0 + 1 + 1 + 1 + 1, none⟩) fun x11 => exI .u32 (h6.cell ⟨g2, 0 + 1 + 1 + 1 + 1 + 1, none⟩) fun x12 => exS (h6.cell ⟨g2, 0 + 1 + 1 + 1 + 1 + 1 + 1, none⟩) fun x13 => K x7 x8 x9 x10 x11 x12 x13 r4 h6 else gnew [Value.int .i64 2, Value.int .i64 2, Value.int .i64 2, Value.int .i64 2, Value.int .i64 4, Value.int .i64 4, Value.int .i64 2] 1 h5 fun g14 h15 => F_ref24_take a1 ⟨(some ⟨g14, 0, none⟩), 7, 7⟩ h15 fun r16 h17 => exA a1 fun g18 o19 => exI .i64 (h17.cell ⟨g18, o19 + 2, none⟩) fun x20 => (bif x20 != 0 then exA a1 fun g21 o22 => exI .i64 (h17.cell ⟨g21, o22 + 2, none⟩) fun x23 => gput g2 (0) [Value.int .i64 0, Value.int .i64 0, Value.int .i64 0, Value.int .i64 0, Value.int .u32 0, Value.int .u32 0, Value.slice none 0 0] h17 fun h24 => (bif sameAt g21 (o22 + 2) 1 h17 h24 then exI .i64 (h24.cell ⟨g2, 0, none⟩) fun x25 => exI .i64 (h24.cell ⟨g2, 0 + 1, none⟩) fun x26 => exI .i64 (h24.cell ⟨g2, 0 + 1 + 1, none⟩) fun x27 => exI .i64 (h24.cell ⟨g2, 0 + 1 + 1 + 1, none⟩) fun x28 => exI .u32 (h24.cell ⟨g2, 0 + 1 + 1 + 1 + 1, none⟩) fun x29 => exI .u32 (h24.cell ⟨g2, 0 + 1 + 1 + 1 + 1 + 1, none⟩) fun x30 => exS (h24.cell ⟨g2, 0 + 1 + 1 + 1 + 1 + 1 + 1, none⟩) fun x31 => K x25 x26 x27 x28 x29 x30 x31 x23 h24 else none) else F_ref24_at r16 0 h17 fun r32 h33 => F_ref24_at r16 2 h33 fun r34 h35 => F_ref24_at r16 4 h35 fun r36 h37 => F_ref24_at r16 6 h37 fun r38 h39 => bnd 12 r16.c fun m40 => bnd 8 m40 fun m41 => F_ref02_Num ⟨addO r16.a (m41 * 1), m40 - m41, r16.c - m41⟩ h39 fun r42 h43 => bnd 16 r16.c fun m44 => bnd 12 m44 fun m45 => F_ref02_Num ⟨addO r16.a (m45 * 1), m44 - m45, r16.c - m45⟩ h43 fun r46 h47 => gnew [Value.int .i64 0, Value.int .i64 0, Value.int .i64 0, Value.int .i64 0, Value.int .u32 0, Value.int .u32 0, Value.slice none 0 0] 0 h47 fun g48 h49 => gput g48 (0) [Value.int .i64 r32, Value.int .i64 r34, Value.int .i64 r36, Value.int .i64 r38, Value.int .u32 r42, Value.int .u32 r46, Value.slice none 0 0] h49 fun h50 => F_ref24_at r16 16 h50 fun r51 h52 => F_ref02_Cursor_Take a1 r51 h52 fun r53 h54 => gput g48 (0 + 6) [Value.slice r53.a r53.n r53.c] h54 fun h55 => exA a1 fun g56 o57 => exI .i64 (h55.cell ⟨g56, o57 + 2, none⟩) fun x58 => (bif x58 != 0 then exA a1 fun g59 o60 => exI .i64 (h55.cell ⟨g59, o60 + 2, none⟩) fun x61 => gput g2 (0) [Value.int .i64 0, Value.int .i64 0, Value.int .i64 0, Value.int .i64 0, Value.int .u32 0, Value.int .u32 0, Value.slice none 0 0] h55 fun h62 => (bif sameAt g59 (o60 + 2) 1 h55 h62 then exI .i64 (h62.cell ⟨g2, 0, none⟩) fun x63 => exI .i64 (h62.cell ⟨g2, 0 + 1, none⟩) fun x64 => exI .i64 (h62.cell ⟨g2, 0 + 1 + 1, none⟩) fun x65 => exI .i64 (h62.cell ⟨g2, 0 + 1 + 1 + 1, none⟩) fun x66 => exI .u32 (h62.cell ⟨g2, 0 + 1 + 1 + 1 + 1, none⟩) fun x67 => exI .u32 (h62.cell ⟨g2, 0 + 1 + 1 + 1 + 1 + 1, none⟩) fun x68 => exS (h62.cell ⟨g2, 0 + 1 + 1 + 1 + 1 + 1 + 1, none⟩) fun x69 => K x63 x64 x65 x66 x67 x68 x69 x61 h62 else none) else exI .i64 (h55.cell ⟨g48, 0, none⟩) fun x70 => exI .i64 (h55.cell ⟨g48, 0 + 1, none⟩) fun x71 => exI .i64 (h55.cell ⟨g48, 0 + 1 + 1, none⟩) fun x72 => exI .i64 (h55.cell ⟨g48, 0 + 1 + 1 + 1, none⟩) fun x73 => exI .u32 (h55.cell ⟨g48, 0 + 1 + 1 + 1 + 1, none⟩) fun x74 => exI .u32 (h55.cell ⟨g48, 0 + 1 + 1 + 1 + 1 + 1, none⟩) fun x75 => exS (h55.cell ⟨g48, 0 + 1 + 1 + 1 + 1 + 1 + 1, none⟩) fun x76 => gput g2 (0) [Value.int .i64 x70, Value.int .i64 x71, Value.int .i64 x72, Value.int .i64 x73, Value.int .u32 x74, Value.int .u32 x75, Value.slice x76.a x76.n x76.c] h55 fun h77 => exI .i64 (h77.cell ⟨g2, 0, none⟩) fun x78 => exI .i64 (h77.cell ⟨g2, 0 + 1, none⟩) fun x79 => exI .i64 (h77.cell ⟨g2, 0 + 1 + 1, none⟩) fun x80 => exI .i64 (h77.cell ⟨g2, 0 + 1 + 1 + 1, none⟩) fun x81 => exI .u32 (h77.cell ⟨g2, 0 + 1 + 1 + 1 + 1, none⟩) fun x82 => exI .u32 (h77.cell ⟨g2, 0 + 1 + 1 + 1 + 1 + 1, none⟩) fun x83 => exS (h77.cell ⟨g2, 0 + 1 + 1 + 1 + 1 + 1 + 1, none⟩) fun x84 => K x78 x79 x80 x81 x82 x83 x84 0 h77))) := by kernel_rfl
noncomputable def F_ref24_ReadEnd (R : Nat) (a1 : Option Addr) (h : GH) (K : Int → Int → Int → Int → Int → Int → Sl → Int → GH → Option β) : Option β := G_ref24_ReadEnd (F_ref24_sign R) (F_ref24_take R) (F_ref24_at R) (F_ref02_Num R) (F_ref02_Cursor_Take R) R a1 h K
set_option maxRecDepth 100000 in
theorem CF_ref24_ReadEnd_sim {R : Nat} : SimOrc Try.prog (CF_ref24_ReadEnd (F_ref24_sign R) (F_ref24_take R) (F_ref24_at R) (F_ref02_Num R) (F_ref02_Cursor_Take R) (β := β)) := by
  intro f args h K r hc
  unfold CF_ref24_ReadEnd at hc
  cases hb : Nat.beq f 94 with
  | true =>
    rw [hb] at hc
    simp only [cond_true] at hc
    obtain rfl := Nat.eq_of_beq_eq_true hb
    split at hc
    · exact any_call (F_ref24_sign_sim (K := K) hc)
    · cases hc
  | false =>
  rw [hb] at hc
  simp only [cond_false] at hc
  cases hb : Nat.beq f 95 with
  | true =>
    rw [hb] at hc
    simp only [cond_true] at hc
    obtain rfl := Nat.eq_of_beq_eq_true hb
    split at hc
    · exact any_call (F_ref24_take_sim (K := K) hc)
    · cases hc
  | false =>
  rw [hb] at hc
  simp only [cond_false] at hc
  cases hb : Nat.beq f 83 with
  | true =>
    rw [hb] at hc
    simp only [cond_true] at hc
    obtain rfl := Nat.eq_of_beq_eq_true hb
    split at hc
    · exact any_call (F_ref24_at_sim (K := K) hc)
    · cases hc
  | false =>
  rw [hb] at hc
  simp only [cond_false] at hc
  cases hb : Nat.beq f 82 with
  | true =>
    rw [hb] at hc
    simp only [cond_true] at hc
    obtain rfl := Nat.eq_of_beq_eq_true hb
    split at hc
    · exact any_call (F_ref02_Num_sim (K := K) hc)
    · cases hc
  | false =>
  rw [hb] at hc
  simp only [cond_false] at hc
  cases hb : Nat.beq f 72 with
  | true =>
    rw [hb] at hc
    simp only [cond_true] at hc
    obtain rfl := Nat.eq_of_beq_eq_true hb
    split at hc
    · exact any_call (F_ref02_Cursor_Take_sim (K := K) hc)
    · cases hc
  | false =>
  rw [hb] at hc
  simp only [cond_false] at hc
  cases hc
set_option maxRecDepth 100000 in
theorem F_ref24_ReadEnd_sim {R : Nat} {r : β} {a1 : Option Addr} {h : GH} {K : Value → GH → Option β} (hc : F_ref24_ReadEnd R a1 h (fun q0 q1 q2 q3 q4 q5 q6 q7 h' => K (Value.tuple #[Value.agg #[Value.int .i64 q0, Value.int .i64 q1, Value.int .i64 q2, Value.int .i64 q3, Value.int .u32 q4, Value.int .u32 q5, Value.slice q6.a q6.n q6.c], Value.int .i64 q7]) h') = some r) : ∃ v h', K v h' = some r ∧ CallSim Try.prog 68 [Value.pointer a1] h v h' := by
  unfold F_ref24_ReadEnd G_ref24_ReadEnd at hc
  obtain ⟨v, h', hk, hs⟩ := gfun_sim (CF_ref24_ReadEnd_sim (R := R)) mixed_ok (fun f h => by cases h) Try.func68 (by kernel_rfl) hc
  obtain ⟨vs, rfl, hl, hk⟩ := exTup_v hk
  obtain ⟨v0, t0, hk⟩ := exV_v hk
  obtain ⟨cs0, f0, hk⟩ := exAg_v hk; cases f0; obtain ⟨hl0, hk⟩ := beq_v hk
  obtain ⟨u1, e1, hk⟩ := exI_v hk
  obtain ⟨u2, e2, hk⟩ := exI_v hk
  obtain ⟨u3, e3, hk⟩ := exI_v hk
  obtain ⟨u4, e4, hk⟩ := exI_v hk
  obtain ⟨u5, e5, hk⟩ := exI_v hk
  obtain ⟨u6, e6, hk⟩ := exI_v hk
  obtain ⟨u7, e7, hk⟩ := exS_v hk
  obtain rfl := arr7 hl0 e1 e2 e3 e4 e5 e6 e7
  obtain ⟨v1, t1, hk⟩ := exV_v hk
  obtain ⟨u8, e8, hk⟩ := exI_v hk; cases e8
  obtain rfl := arr2 hl t0 t1
  exact ⟨_, h', hk, hs⟩
/-! F39 duffel/duffelref26.end -/
def CF_ref26_end (F_ref24_FindEnd : Sl → GH → (Int → GH → Option β) → Option β) (F_ref24_ReadEnd : Option Addr → GH → (Int → Int → Int → Int → Int → Int → Sl → Int → GH → Option β) → Option β) : Orc β := fun f args h K => bif Nat.beq f 51 then (match args with | [.slice p1a p1n p1c] => F_ref24_FindEnd ⟨p1a, p1n, p1c⟩ h (fun q14 h' => K (Value.int .i64 q14) h') | _ => none) else (bif Nat.beq f 68 then (match args with | [.pointer p1] => F_ref24_ReadEnd p1 h (fun q85 q86 q87 q88 q89 q90 q91 q92 h' => K (Value.tuple #[Value.agg #[Value.int .i64 q85, Value.int .i64 q86, Value.int .i64 q87, Value.int .i64 q88, Value.int .u32 q89, Value.int .u32 q90, Value.slice q91.a q91.n q91.c], Value.int .i64 q92]) h') | _ => none) else none)
def HF_ref26_end : Hints := ⟨[], [], []⟩
noncomputable def G_ref26_end (F_ref24_FindEnd : Sl → GH → (Int → GH → Option β) → Option β) (F_ref24_ReadEnd : Option Addr → GH → (Int → Int → Int → Int → Int → Int → Sl → Int → GH → Option β) → Option β) (R : Nat) (a1 : Sl) (h : GH) (K : Int → Int → Int → Int → Int → Int → Sl → Int → Int → GH → Option β) : Option β := gfun Try.prog (CF_ref26_end F_ref24_FindEnd F_ref24_ReadEnd) HF_ref26_end R Try.f39 [Value.slice a1.a a1.n a1.c] h (fun v h' => exTup 3 v fun vs => exV (nth vs 0) fun v0 => exAg v0 fun c117 => (bif Nat.beq c117.length 7 then exI .i64 (nth c117 (0)) fun u118 => exI .i64 (nth c117 (0 + 1)) fun u119 => exI .i64 (nth c117 (0 + 1 + 1)) fun u120 => exI .i64 (nth c117 (0 + 1 + 1 + 1)) fun u121 => exI .u32 (nth c117 (0 + 1 + 1 + 1 + 1)) fun u122 => exI .u32 (nth c117 (0 + 1 + 1 + 1 + 1 + 1)) fun u123 => exS (nth c117 (0 + 1 + 1 + 1 + 1 + 1 + 1)) fun u124 => exV (nth vs 1) fun v1 => exI .i64 (some v1) fun u125 => exV (nth vs 2) fun v2 => exI .i64 (some v2) fun u126 => K u118 u119 u120 u121 u122 u123 u124 u125 u126 h' else none))
set_option maxRecDepth 100000 in
theorem F_ref26_end_gen (F_ref24_FindEnd : Sl → GH → (Int → GH → Option β) → Option β) (F_ref24_ReadEnd : Option Addr → GH → (Int → Int → Int → Int → Int → Int → Sl → Int → GH → Option β) → Option β) (R : Nat) (a1 : Sl) (h : GH) (K : Int → Int → Int → Int → Int → Int → Sl → Int → Int → GH → Option β) : G_ref26_end F_ref24_FindEnd F_ref24_ReadEnd R a1 h K =
    gnew [Value.int .i64 0, Value.int .i64 0, Value.int .i64 0, Value.int .i64 0, Value.int .u32 0, Value.int .u32 0, Value.slice none 0 0] 0 h fun g2 h3 => F_ref24_FindEnd a1 h3 fun r4 h5 => (bif decide (r4 < 0) then gput g2 (0) [Value.int .i64 0, Value.int .i64 0, Value.int .i64 0, Value.int .i64 0, Value.int .u32 0, Value.int .u32 0, Value.slice none 0 0] h5 fun h6 => exI .i64 (h6.cell ⟨g2, 0, none⟩) fun x7 => exI .i64 (h6.cell ⟨g2, 0 + 1, none⟩) fun x8 => exI .i64 (h6.cell ⟨g2, 0 + 1 + 1, none⟩) fun x9 => exI .i64 (h6.cell ⟨g2, 0 + 1 + 1 + 1, none⟩) fun x10 => exI .u32 (h6.cell ⟨g2, 0 + 1 + 1 + 1 + 1, none⟩) fun x11 => exI .u32 (h6.cell ⟨g2, 0 + 1 + 1 + 1 + 1 + 1, none⟩) fun x12 => exS (h6.cell ⟨g2, 0 + 1 + 1 + 1 + 1 + 1 + 1, none⟩) fun x13 => K x7 x8 x9 x10 x11 x12 x13 0 13 h6 else bnd r4 a1.n fun m14 => gnew [Value.slice (addO a1.a (m14 * 1)) (a1.n - m14) (a1.c - m14), Value.int .i64 0, Value.int .i64 0] 0 h5 fun g15 h16 => F_ref24_ReadEnd (some ⟨g15, 0, none⟩) h16 fun r17 r18 r19 r20 r21 r22 r23 r24 h25 => gnew [Value.int .i64 0, Value.int .i64 0, Value.int .i64 0, Value.int .i64 0, Value.int .u32 0, Value.int .u32 0, Value.slice none 0 0] 0 h25 fun g26 h27 => gput g26 (0) [Value.int .i64 r17, Value.int .i64 r18, Value.int .i64 r19, Value.int .i64 r20, Value.int .u32 r21, Value.int .u32 r22, Value.slice r23.a r23.n r23.c] h27 fun h28 => (bif r24 != 0 then gput g2 (0) [Value.int .i64 0, Value.int .i64 0, Value.int .i64 0, Value.int .i64 0, Value.int .u32 0, Value.int .u32 0, Value.slice none 0 0] h28 fun h29 => exI .i64 (h29.cell ⟨g2, 0, none⟩) fun x30 => exI .i64 (h29.cell ⟨g2, 0 + 1, none⟩) fun x31 => exI .i64 (h29.cell ⟨g2, 0 + 1 + 1, none⟩) fun x32 => exI .i64 (h29.cell ⟨g2, 0 + 1 + 1 + 1, none⟩) fun x33 => exI .u32 (h29.cell ⟨g2, 0 + 1 + 1 + 1 + 1, none⟩) fun x34 => exI .u32 (h29.cell ⟨g2, 0 + 1 + 1 + 1 + 1 + 1, none⟩) fun x35 => exS (h29.cell ⟨g2, 0 + 1 + 1 + 1 + 1 + 1 + 1, none⟩) fun x36 => K x30 x31 x32 x33 x34 x35 x36 0 r24 h29 else exI .i64 (h28.cell ⟨g26, 0 + 0, none⟩) fun x37 => (bif x37 != 0 then gput g2 (0) [Value.int .i64 0, Value.int .i64 0, Value.int .i64 0, Value.int .i64 0, Value.int .u32 0, Value.int .u32 0, Value.slice none 0 0] h28 fun h38 => exI .i64 (h38.cell ⟨g2, 0, none⟩) fun x39 => exI .i64 (h38.cell ⟨g2, 0 + 1, none⟩) fun x40 => exI .i64 (h38.cell ⟨g2, 0 + 1 + 1, none⟩) fun x41 => exI .i64 (h38.cell ⟨g2, 0 + 1 + 1 + 1, none⟩) fun x42 => exI .u32 (h38.cell ⟨g2, 0 + 1 + 1 + 1 + 1, none⟩) fun x43 => exI .u32 (h38.cell ⟨g2, 0 + 1 + 1 + 1 + 1 + 1, none⟩) fun x44 => exS (h38.cell ⟨g2, 0 + 1 + 1 + 1 + 1 + 1 + 1, none⟩) fun x45 => K x39 x40 x41 x42 x43 x44 x45 0 12 h38 else exI .i64 (h28.cell ⟨g26, 0 + 1, none⟩) fun x46 => (bif x46 != 0 then gput g2 (0) [Value.int .i64 0, Value.int .i64 0, Value.int .i64 0, Value.int .i64 0, Value.int .u32 0, Value.int .u32 0, Value.slice none 0 0] h28 fun h47 => exI .i64 (h47.cell ⟨g2, 0, none⟩) fun x48 => exI .i64 (h47.cell ⟨g2, 0 + 1, none⟩) fun x49 => exI .i64 (h47.cell ⟨g2, 0 + 1 + 1, none⟩) fun x50 => exI .i64 (h47.cell ⟨g2, 0 + 1 + 1 + 1, none⟩) fun x51 => exI .u32 (h47.cell ⟨g2, 0 + 1 + 1 + 1 + 1, none⟩) fun x52 => exI .u32 (h47.cell ⟨g2, 0 + 1 + 1 + 1 + 1 + 1, none⟩) fun x53 => exS (h47.cell ⟨g2, 0 + 1 + 1 + 1 + 1 + 1 + 1, none⟩) fun x54 => K x48 x49 x50 x51 x52 x53 x54 0 12 h47 else exI .i64 (h28.cell ⟨g26, 0 + 2, none⟩) fun x55 => exI .i64 (h28.cell ⟨g26, 0 + 3, none⟩) fun x56 => (bif x55 != x56 then gput g2 (0) [Value.int .i64 0, Value.int .i64 0, Value.int .i64 0, Value.int .i64 0, Value.int .u32 0, Value.int .u32 0, Value.slice none 0 0] h28 fun h57 => exI .i64 (h57.cell ⟨g2, 0, none⟩) fun x58 => exI .i64 (h57.cell ⟨g2, 0 + 1, none⟩) fun x59 => exI .i64 (h57.cell ⟨g2, 0 + 1 + 1, none⟩) fun x60 => exI .i64 (h57.cell ⟨g2, 0 + 1 + 1 + 1, none⟩) fun x61 => exI .u32 (h57.cell ⟨g2, 0 + 1 + 1 + 1 + 1, none⟩) fun x62 => exI .u32 (h57.cell ⟨g2, 0 + 1 + 1 + 1 + 1 + 1, none⟩) fun x63 => exS (h57.cell ⟨g2, 0 + 1 + 1 + 1 + 1 + 1 + 1, none⟩) fun x64 => K x58 x59 x60 x61 x62 x63 x64 0 12 h57 else exI .u32 (h28.cell ⟨g26, 0 + 4, none⟩) fun x65 => (bif x65 == 4294967295 then gput g2 (0) [Value.int .i64 0, Value.int .i64 0, Value.int .i64 0, Value.int .i64 0, Value.int .u32 0, Value.int .u32 0, Value.slice none 0 0] h28 fun h66 => exI .i64 (h66.cell ⟨g2, 0, none⟩) fun x67 => exI .i64 (h66.cell ⟨g2, 0 + 1, none⟩) fun x68 => exI .i64 (h66.cell ⟨g2, 0 + 1 + 1, none⟩) fun x69 => exI .i64 (h66.cell ⟨g2, 0 + 1 + 1 + 1, none⟩) fun x70 => exI .u32 (h66.cell ⟨g2, 0 + 1 + 1 + 1 + 1, none⟩) fun x71 => exI .u32 (h66.cell ⟨g2, 0 + 1 + 1 + 1 + 1 + 1, none⟩) fun x72 => exS (h66.cell ⟨g2, 0 + 1 + 1 + 1 + 1 + 1 + 1, none⟩) fun x73 => K x67 x68 x69 x70 x71 x72 x73 0 12 h66 else exI .u32 (h28.cell ⟨g26, 0 + 5, none⟩) fun x74 => (bif x74 == 4294967295 then gput g2 (0) [Value.int .i64 0, Value.int .i64 0, Value.int .i64 0, Value.int .i64 0, Value.int .u32 0, Value.int .u32 0, Value.slice none 0 0] h28 fun h75 => exI .i64 (h75.cell ⟨g2, 0, none⟩) fun x76 => exI .i64 (h75.cell ⟨g2, 0 + 1, none⟩) fun x77 => exI .i64 (h75.cell ⟨g2, 0 + 1 + 1, none⟩) fun x78 => exI .i64 (h75.cell ⟨g2, 0 + 1 + 1 + 1, none⟩) fun x79 => exI .u32 (h75.cell ⟨g2, 0 + 1 + 1 + 1 + 1, none⟩) fun x80 => exI .u32 (h75.cell ⟨g2, 0 + 1 + 1 + 1 + 1 + 1, none⟩) fun x81 => exS (h75.cell ⟨g2, 0 + 1 + 1 + 1 + 1 + 1 + 1, none⟩) fun x82 => K x76 x77 x78 x79 x80 x81 x82 0 12 h75 else exI .u32 (h28.cell ⟨g26, 0 + 5, none⟩) fun x83 => exI .u32 (h28.cell ⟨g26, 0 + 4, none⟩) fun x84 => (bif (IntKind.wrap .i64 ((IntKind.wrap .i64 x83) + (IntKind.wrap .i64 x84))) != r4 then gput g2 (0) [Value.int .i64 0, Value.int .i64 0, Value.int .i64 0, Value.int .i64 0, Value.int .u32 0, Value.int .u32 0, Value.slice none 0 0] h28 fun h85 => exI .i64 (h85.cell ⟨g2, 0, none⟩) fun x86 => exI .i64 (h85.cell ⟨g2, 0 + 1, none⟩) fun x87 => exI .i64 (h85.cell ⟨g2, 0 + 1 + 1, none⟩) fun x88 => exI .i64 (h85.cell ⟨g2, 0 + 1 + 1 + 1, none⟩) fun x89 => exI .u32 (h85.cell ⟨g2, 0 + 1 + 1 + 1 + 1, none⟩) fun x90 => exI .u32 (h85.cell ⟨g2, 0 + 1 + 1 + 1 + 1 + 1, none⟩) fun x91 => exS (h85.cell ⟨g2, 0 + 1 + 1 + 1 + 1 + 1 + 1, none⟩) fun x92 => K x86 x87 x88 x89 x90 x91 x92 0 14 h85 else exI .i64 (h28.cell ⟨g26, 0, none⟩) fun x93 => exI .i64 (h28.cell ⟨g26, 0 + 1, none⟩) fun x94 => exI .i64 (h28.cell ⟨g26, 0 + 1 + 1, none⟩) fun x95 => exI .i64 (h28.cell ⟨g26, 0 + 1 + 1 + 1, none⟩) fun x96 => exI .u32 (h28.cell ⟨g26, 0 + 1 + 1 + 1 + 1, none⟩) fun x97 => exI .u32 (h28.cell ⟨g26, 0 + 1 + 1 + 1 + 1 + 1, none⟩) fun x98 => exS (h28.cell ⟨g26, 0 + 1 + 1 + 1 + 1 + 1 + 1, none⟩) fun x99 => gput g2 (0) [Value.int .i64 x93, Value.int .i64 x94, Value.int .i64 x95, Value.int .i64 x96, Value.int .u32 x97, Value.int .u32 x98, Value.slice x99.a x99.n x99.c] h28 fun h100 => exI .i64 (h100.cell ⟨g2, 0, none⟩) fun x101 => exI .i64 (h100.cell ⟨g2, 0 + 1, none⟩) fun x102 => exI .i64 (h100.cell ⟨g2, 0 + 1 + 1, none⟩) fun x103 => exI .i64 (h100.cell ⟨g2, 0 + 1 + 1 + 1, none⟩) fun x104 => exI .u32 (h100.cell ⟨g2, 0 + 1 + 1 + 1 + 1, none⟩) fun x105 => exI .u32 (h100.cell ⟨g2, 0 + 1 + 1 + 1 + 1 + 1, none⟩) fun x106 => exS (h100.cell ⟨g2, 0 + 1 + 1 + 1 + 1 + 1 + 1, none⟩) fun x107 => K x101 x102 x103 x104 x105 x106 x107 r4 0 h100)))))))) := by kernel_rfl
noncomputable def F_ref26_end (R : Nat) (a1 : Sl) (h : GH) (K : Int → Int → Int → Int → Int → Int → Sl → Int → Int → GH → Option β) : Option β := G_ref26_end (F_ref24_FindEnd R) (F_ref24_ReadEnd R) R a1 h K
set_option maxRecDepth 100000 in
theorem CF_ref26_end_sim {R : Nat} : SimOrc Try.prog (CF_ref26_end (F_ref24_FindEnd R) (F_ref24_ReadEnd R) (β := β)) := by
  intro f args h K r hc
  unfold CF_ref26_end at hc
  cases hb : Nat.beq f 51 with
  | true =>
    rw [hb] at hc
    simp only [cond_true] at hc
    obtain rfl := Nat.eq_of_beq_eq_true hb
    split at hc
    · exact any_call (F_ref24_FindEnd_sim (K := K) hc)
    · cases hc
  | false =>
  rw [hb] at hc
  simp only [cond_false] at hc
  cases hb : Nat.beq f 68 with
  | true =>
    rw [hb] at hc
    simp only [cond_true] at hc
    obtain rfl := Nat.eq_of_beq_eq_true hb
    split at hc
    · exact any_call (F_ref24_ReadEnd_sim (K := K) hc)
    · cases hc
  | false =>
  rw [hb] at hc
  simp only [cond_false] at hc
  cases hc
set_option maxRecDepth 100000 in
theorem F_ref26_end_sim {R : Nat} {r : β} {a1 : Sl} {h : GH} {K : Value → GH → Option β} (hc : F_ref26_end R a1 h (fun q0 q1 q2 q3 q4 q5 q6 q7 q8 h' => K (Value.tuple #[Value.agg #[Value.int .i64 q0, Value.int .i64 q1, Value.int .i64 q2, Value.int .i64 q3, Value.int .u32 q4, Value.int .u32 q5, Value.slice q6.a q6.n q6.c], Value.int .i64 q7, Value.int .i64 q8]) h') = some r) : ∃ v h', K v h' = some r ∧ CallSim Try.prog 39 [Value.slice a1.a a1.n a1.c] h v h' := by
  unfold F_ref26_end G_ref26_end at hc
  obtain ⟨v, h', hk, hs⟩ := gfun_sim (CF_ref26_end_sim (R := R)) mixed_ok (fun f h => by cases h) Try.func39 (by kernel_rfl) hc
  obtain ⟨vs, rfl, hl, hk⟩ := exTup_v hk
  obtain ⟨v0, t0, hk⟩ := exV_v hk
  obtain ⟨cs0, f0, hk⟩ := exAg_v hk; cases f0; obtain ⟨hl0, hk⟩ := beq_v hk
  obtain ⟨u1, e1, hk⟩ := exI_v hk
  obtain ⟨u2, e2, hk⟩ := exI_v hk
  obtain ⟨u3, e3, hk⟩ := exI_v hk
  obtain ⟨u4, e4, hk⟩ := exI_v hk
  obtain ⟨u5, e5, hk⟩ := exI_v hk
  obtain ⟨u6, e6, hk⟩ := exI_v hk
  obtain ⟨u7, e7, hk⟩ := exS_v hk
  obtain rfl := arr7 hl0 e1 e2 e3 e4 e5 e6 e7
  obtain ⟨v1, t1, hk⟩ := exV_v hk
  obtain ⟨u8, e8, hk⟩ := exI_v hk; cases e8
  obtain ⟨v2, t2, hk⟩ := exV_v hk
  obtain ⟨u9, e9, hk⟩ := exI_v hk; cases e9
  obtain rfl := arr3 hl t0 t1 t2
  exact ⟨_, h', hk, hs⟩
/-! F96 duffel/duffelref24.head -/
def CF_ref24_head (F_ref24_at : Sl → Int → GH → (Int → GH → Option β) → Option β) (F_ref02_Num : Sl → GH → (Int → GH → Option β) → Option β) : Orc β := fun f args h K => bif Nat.beq f 83 then (match args with | [.slice p1a p1n p1c, .int .i64 p2] => F_ref24_at ⟨p1a, p1n, p1c⟩ p2 h (fun q7 h' => K (Value.int .i64 q7) h') | _ => none) else (bif Nat.beq f 82 then (match args with | [.slice p1a p1n p1c] => F_ref02_Num ⟨p1a, p1n, p1c⟩ h (fun q11 h' => K (Value.int .u32 q11) h') | _ => none) else none)
def HF_ref24_head : Hints := ⟨[], [], []⟩
noncomputable def G_ref24_head (F_ref24_at : Sl → Int → GH → (Int → GH → Option β) → Option β) (F_ref02_Num : Sl → GH → (Int → GH → Option β) → Option β) (R : Nat) (a1 : Sl) (h : GH) (K : Int → Int → Int → Int → Int → Int → Int → Int → Sl → Sl → GH → Option β) : Option β := gfun Try.prog (CF_ref24_head F_ref24_at F_ref02_Num) HF_ref24_head R Try.f96 [Value.slice a1.a a1.n a1.c] h (fun v h' => exAg v fun c47 => (bif Nat.beq c47.length 10 then exI .i64 (nth c47 (0)) fun u48 => exI .i64 (nth c47 (0 + 1)) fun u49 => exI .i64 (nth c47 (0 + 1 + 1)) fun u50 => exI .i64 (nth c47 (0 + 1 + 1 + 1)) fun u51 => exI .i64 (nth c47 (0 + 1 + 1 + 1 + 1)) fun u52 => exI .u32 (nth c47 (0 + 1 + 1 + 1 + 1 + 1)) fun u53 => exI .u32 (nth c47 (0 + 1 + 1 + 1 + 1 + 1 + 1)) fun u54 => exI .u32 (nth c47 (0 + 1 + 1 + 1 + 1 + 1 + 1 + 1)) fun u55 => exS (nth c47 (0 + 1 + 1 + 1 + 1 + 1 + 1 + 1 + 1)) fun u56 => exS (nth c47 (0 + 1 + 1 + 1 + 1 + 1 + 1 + 1 + 1 + 1)) fun u57 => K u48 u49 u50 u51 u52 u53 u54 u55 u56 u57 h' else none))
set_option maxRecDepth 100000 in
theorem F_ref24_head_gen (F_ref24_at : Sl → Int → GH → (Int → GH → Option β) → Option β) (F_ref02_Num : Sl → GH → (Int → GH → Option β) → Option β) (R : Nat) (a1 : Sl) (h : GH) (K : Int → Int → Int → Int → Int → Int → Int → Int → Sl → Sl → GH → Option β) : G_ref24_head F_ref24_at F_ref02_Num R a1 h K =
    gnew [Value.int .i64 0, Value.int .i64 0, Value.int .i64 0, Value.int .i64 0, Value.int .i64 0, Value.int .u32 0, Value.int .u32 0, Value.int .u32 0, Value.slice none 0 0, Value.slice none 0 0] 0 h fun g2 h3 => F_ref24_at a1 0 h3 fun r4 h5 => F_ref24_at a1 2 h5 fun r6 h7 => F_ref24_at a1 4 h7 fun r8 h9 => F_ref24_at a1 6 h9 fun r10 h11 => F_ref24_at a1 8 h11 fun r12 h13 => bnd 14 a1.c fun m14 => bnd 10 m14 fun m15 => F_ref02_Num ⟨addO a1.a (m15 * 1), m14 - m15, a1.c - m15⟩ h13 fun r16 h17 => bnd 18 a1.c fun m18 => bnd 14 m18 fun m19 => F_ref02_Num ⟨addO a1.a (m19 * 1), m18 - m19, a1.c - m19⟩ h17 fun r20 h21 => bnd 22 a1.c fun m22 => bnd 18 m22 fun m23 => F_ref02_Num ⟨addO a1.a (m23 * 1), m22 - m23, a1.c - m23⟩ h21 fun r24 h25 => gput g2 (0) [Value.int .i64 r4, Value.int .i64 r6, Value.int .i64 r8, Value.int .i64 r10, Value.int .i64 r12, Value.int .u32 r16, Value.int .u32 r20, Value.int .u32 r24, Value.slice none 0 0, Value.slice none 0 0] h25 fun h26 => exI .i64 (h26.cell ⟨g2, 0, none⟩) fun x27 => exI .i64 (h26.cell ⟨g2, 0 + 1, none⟩) fun x28 => exI .i64 (h26.cell ⟨g2, 0 + 1 + 1, none⟩) fun x29 => exI .i64 (h26.cell ⟨g2, 0 + 1 + 1 + 1, none⟩) fun x30 => exI .i64 (h26.cell ⟨g2, 0 + 1 + 1 + 1 + 1, none⟩) fun x31 => exI .u32 (h26.cell ⟨g2, 0 + 1 + 1 + 1 + 1 + 1, none⟩) fun x32 => exI .u32 (h26.cell ⟨g2, 0 + 1 + 1 + 1 + 1 + 1 + 1, none⟩) fun x33 => exI .u32 (h26.cell ⟨g2, 0 + 1 + 1 + 1 + 1 + 1 + 1 + 1, none⟩) fun x34 => exS (h26.cell ⟨g2, 0 + 1 + 1 + 1 + 1 + 1 + 1 + 1 + 1, none⟩) fun x35 => exS (h26.cell ⟨g2, 0 + 1 + 1 + 1 + 1 + 1 + 1 + 1 + 1 + 1, none⟩) fun x36 => K x27 x28 x29 x30 x31 x32 x33 x34 x35 x36 h26 := by kernel_rfl
noncomputable def F_ref24_head (R : Nat) (a1 : Sl) (h : GH) (K : Int → Int → Int → Int → Int → Int → Int → Int → Sl → Sl → GH → Option β) : Option β := G_ref24_head (F_ref24_at R) (F_ref02_Num R) R a1 h K
set_option maxRecDepth 100000 in
theorem CF_ref24_head_sim {R : Nat} : SimOrc Try.prog (CF_ref24_head (F_ref24_at R) (F_ref02_Num R) (β := β)) := by
  intro f args h K r hc
  unfold CF_ref24_head at hc
  cases hb : Nat.beq f 83 with
  | true =>
    rw [hb] at hc
    simp only [cond_true] at hc
    obtain rfl := Nat.eq_of_beq_eq_true hb
    split at hc
    · exact any_call (F_ref24_at_sim (K := K) hc)
    · cases hc
  | false =>
  rw [hb] at hc
  simp only [cond_false] at hc
  cases hb : Nat.beq f 82 with
  | true =>
    rw [hb] at hc
    simp only [cond_true] at hc
    obtain rfl := Nat.eq_of_beq_eq_true hb
    split at hc
    · exact any_call (F_ref02_Num_sim (K := K) hc)
    · cases hc
  | false =>
  rw [hb] at hc
  simp only [cond_false] at hc
  cases hc
set_option maxRecDepth 100000 in
theorem F_ref24_head_sim {R : Nat} {r : β} {a1 : Sl} {h : GH} {K : Value → GH → Option β} (hc : F_ref24_head R a1 h (fun q0 q1 q2 q3 q4 q5 q6 q7 q8 q9 h' => K (Value.agg #[Value.int .i64 q0, Value.int .i64 q1, Value.int .i64 q2, Value.int .i64 q3, Value.int .i64 q4, Value.int .u32 q5, Value.int .u32 q6, Value.int .u32 q7, Value.slice q8.a q8.n q8.c, Value.slice q9.a q9.n q9.c]) h') = some r) : ∃ v h', K v h' = some r ∧ CallSim Try.prog 96 [Value.slice a1.a a1.n a1.c] h v h' := by
  unfold F_ref24_head G_ref24_head at hc
  obtain ⟨v, h', hk, hs⟩ := gfun_sim (CF_ref24_head_sim (R := R)) mixed_ok (fun f h => by cases h) Try.func96 (by kernel_rfl) hc
  obtain ⟨cs0, f0, hk⟩ := exAg_v hk; cases f0; obtain ⟨hl0, hk⟩ := beq_v hk
  obtain ⟨u1, e1, hk⟩ := exI_v hk
  obtain ⟨u2, e2, hk⟩ := exI_v hk
  obtain ⟨u3, e3, hk⟩ := exI_v hk
  obtain ⟨u4, e4, hk⟩ := exI_v hk
  obtain ⟨u5, e5, hk⟩ := exI_v hk
  obtain ⟨u6, e6, hk⟩ := exI_v hk
  obtain ⟨u7, e7, hk⟩ := exI_v hk
  obtain ⟨u8, e8, hk⟩ := exI_v hk
  obtain ⟨u9, e9, hk⟩ := exS_v hk
  obtain ⟨u10, e10, hk⟩ := exS_v hk
  obtain rfl := arr10 hl0 e1 e2 e3 e4 e5 e6 e7 e8 e9 e10
  exact ⟨_, h', hk, hs⟩
/-! F69 duffel/duffelref24.ReadCentral -/
def CF_ref24_ReadCentral (F_ref24_sign : Option Addr → Int → GH → (Int → GH → Option β) → Option β) (F_ref24_take : Option Addr → Sl → GH → (Sl → GH → Option β) → Option β) (F_ref24_at : Sl → Int → GH → (Int → GH → Option β) → Option β) (F_ref24_head : Sl → GH → (Int → Int → Int → Int → Int → Int → Int → Int → Sl → Sl → GH → Option β) → Option β) (F_ref02_Num : Sl → GH → (Int → GH → Option β) → Option β) (F_ref02_Cursor_Take : Option Addr → Int → GH → (Sl → GH → Option β) → Option β) : Orc β := fun f args h K => bif Nat.beq f 94 then (match args with | [.pointer p1, .int .u32 p2] => F_ref24_sign p1 p2 h (fun q13 h' => K (Value.int .i64 q13) h') | _ => none) else (bif Nat.beq f 95 then (match args with | [.pointer p1, .slice p2a p2n p2c] => F_ref24_take p1 ⟨p2a, p2n, p2c⟩ h (fun q17 h' => K (Value.slice q17.a q17.n q17.c) h') | _ => none) else (bif Nat.beq f 83 then (match args with | [.slice p1a p1n p1c, .int .i64 p2] => F_ref24_at ⟨p1a, p1n, p1c⟩ p2 h (fun q7 h' => K (Value.int .i64 q7) h') | _ => none) else (bif Nat.beq f 96 then (match args with | [.slice p1a p1n p1c] => F_ref24_head ⟨p1a, p1n, p1c⟩ h (fun q37 q38 q39 q40 q41 q42 q43 q44 q45 q46 h' => K (Value.agg #[Value.int .i64 q37, Value.int .i64 q38, Value.int .i64 q39, Value.int .i64 q40, Value.int .i64 q41, Value.int .u32 q42, Value.int .u32 q43, Value.int .u32 q44, Value.slice q45.a q45.n q45.c, Value.slice q46.a q46.n q46.c]) h') | _ => none) else (bif Nat.beq f 82 then (match args with | [.slice p1a p1n p1c] => F_ref02_Num ⟨p1a, p1n, p1c⟩ h (fun q11 h' => K (Value.int .u32 q11) h') | _ => none) else (bif Nat.beq f 72 then (match args with | [.pointer p1, .int .i64 p2] => F_ref02_Cursor_Take p1 p2 h (fun q37 h' => K (Value.slice q37.a q37.n q37.c) h') | _ => none) else none)))))
def HF_ref24_ReadCentral : Hints := ⟨[], [], []⟩
noncomputable def G_ref24_ReadCentral (F_ref24_sign : Option Addr → Int → GH → (Int → GH → Option β) → Option β) (F_ref24_take : Option Addr → Sl → GH → (Sl → GH → Option β) → Option β) (F_ref24_at : Sl → Int → GH → (Int → GH → Option β) → Option β) (F_ref24_head : Sl → GH → (Int → Int → Int → Int → Int → Int → Int → Int → Sl → Sl → GH → Option β) → Option β) (F_ref02_Num : Sl → GH → (Int → GH → Option β) → Option β) (F_ref02_Cursor_Take : Option Addr → Int → GH → (Sl → GH → Option β) → Option β) (R : Nat) (a1 : Option Addr) (h : GH) (K : Int → Int → Int → Int → Int → Int → Int → Int → Sl → Sl → Int → Int → Int → Int → Int → Sl → Int → GH → Option β) : Option β := gfun Try.prog (CF_ref24_ReadCentral F_ref24_sign F_ref24_take F_ref24_at F_ref24_head F_ref02_Num F_ref02_Cursor_Take) HF_ref24_ReadCentral R Try.f69 [Value.pointer a1] h (fun v h' => exTup 2 v fun vs => exV (nth vs 0) fun v0 => exAg v0 fun c167 => (bif Nat.beq c167.length 16 then exI .i64 (nth c167 (0)) fun u168 => exI .i64 (nth c167 (0 + 1)) fun u169 => exI .i64 (nth c167 (0 + 1 + 1)) fun u170 => exI .i64 (nth c167 (0 + 1 + 1 + 1)) fun u171 => exI .i64 (nth c167 (0 + 1 + 1 + 1 + 1)) fun u172 => exI .u32 (nth c167 (0 + 1 + 1 + 1 + 1 + 1)) fun u173 => exI .u32 (nth c167 (0 + 1 + 1 + 1 + 1 + 1 + 1)) fun u174 => exI .u32 (nth c167 (0 + 1 + 1 + 1 + 1 + 1 + 1 + 1)) fun u175 => exS (nth c167 (0 + 1 + 1 + 1 + 1 + 1 + 1 + 1 + 1)) fun u176 => exS (nth c167 (0 + 1 + 1 + 1 + 1 + 1 + 1 + 1 + 1 + 1)) fun u177 => exI .i64 (nth c167 (0 + 1 + 1 + 1 + 1 + 1 + 1 + 1 + 1 + 1 + 1)) fun u178 => exI .i64 (nth c167 (0 + 1 + 1 + 1 + 1 + 1 + 1 + 1 + 1 + 1 + 1 + 1)) fun u179 => exI .i64 (nth c167 (0 + 1 + 1 + 1 + 1 + 1 + 1 + 1 + 1 + 1 + 1 + 1 + 1)) fun u180 => exI .u32 (nth c167 (0 + 1 + 1 + 1 + 1 + 1 + 1 + 1 + 1 + 1 + 1 + 1 + 1 + 1)) fun u181 => exI .u32 (nth c167 (0 + 1 + 1 + 1 + 1 + 1 + 1 + 1 + 1 + 1 + 1 + 1 + 1 + 1 + 1)) fun u182 => exS (nth c167 (0 + 1 + 1 + 1 + 1 + 1 + 1 + 1 + 1 + 1 + 1 + 1 + 1 + 1 + 1 + 1)) fun u183 => exV (nth vs 1) fun v1 => exI .i64 (some v1) fun u184 => K u168 u169 u170 u171 u172 u173 u174 u175 u176 u177 u178 u179 u180 u181 u182 u183 u184 h' else none))
set_option maxRecDepth 100000 in
theorem F_ref24_ReadCentral_gen (F_ref24_sign : Option Addr → Int → GH → (Int → GH → Option β) → Option β) (F_ref24_take : Option Addr → Sl → GH → (Sl → GH → Option β) → Option β) (F_ref24_at : Sl → Int → GH → (Int → GH → Option β) → Option β) (F_ref24_head : Sl → GH → (Int → Int → Int → Int → Int → Int → Int → Int → Sl → Sl → GH → Option β) → Option β) (F_ref02_Num : Sl → GH → (Int → GH → Option β) → Option β) (F_ref02_Cursor_Take : Option Addr → Int → GH → (Sl → GH → Option β) → Option β) (R : Nat) (a1 : Option Addr) (h : GH) (K : Int → Int → Int → Int → Int → Int → Int → Int → Sl → Sl → Int → Int → Int → Int → Int → Sl → Int → GH → Option β) : G_ref24_ReadCentral F_ref24_sign F_ref24_take F_ref24_at F_ref24_head F_ref02_Num F_ref02_Cursor_Take R a1 h K =
    gnew [Value.int .i64 0, Value.int .i64 0, Value.int .i64 0, Value.int .i64 0, Value.int .i64 0, Value.int .u32 0, Value.int .u32 0, Value.int .u32 0, Value.slice none 0 0, Value.slice none 0 0, Value.int .i64 0, Value.int .i64 0, Value.int .i64 0, Value.int .u32 0, Value.int .u32 0, Value.slice none 0 0] 0 h fun g2 h3 => F_ref24_sign a1 33639248 h3 fun r4 h5 => (bif r4 != 0 then gput g2 (0) [Value.int .i64 0, Value.int .i64 0, Value.int .i64 0, Value.int .i64 0, Value.int .i64 0, Value.int .u32 0, Value.int .u32 0, Value.int .u32 0, Value.slice none 0 0, Value.slice none 0 0, Value.int .i64 0, Value.int .i64 0, Value.int .i64 0, Value.int .u32 0, Value.int .u32 0, Value.slice none 0 0] h5 fun h6 => exI .i64 (h6.cell ⟨g2, 0, none⟩) fun x7 => exI .i64 (h6.cell ⟨g2, 0 + 1, none⟩) fun x8 => exI .i64 (h6.cell ⟨g2, 0 + 1 + 1, none⟩) fun x9 => exI .i64 (h6.cell ⟨g2, 0 + 1 + 1 + 1, none⟩) fun x10 => exI .i64 (h6.cell ⟨g2, 0 + 1 + 1 + 1 + 1, none⟩) fun x11 => exI .u32 (h6.cell ⟨g2, 0 + 1 + 1 + 1 + 1 + 1, none⟩) fun x12 => exI .u32 (h6.cell ⟨g2, 0 + 1 + 1 + 1 + 1 + 1 + 1, none⟩) fun x13 => exI .u32 (h6.cell ⟨g2, 0 + 1 + 1 + 1 + 1 + 1 + 1 + 1, none⟩) fun x14 => exS (h6.cell ⟨g2, 0 + 1 + 1 + 1 + 1 + 1 + 1 + 1 + 1, none⟩) fun x15 => exS (h6.cell ⟨g2, 0 + 1 + 1 + 1 + 1 + 1 + 1 + 1 + 1 + 1, none⟩) fun x16 => exI .i64 (h6.cell ⟨g2, 0 + 1 + 1 + 1 + 1 + 1 + 1 + 1 + 1 + 1 + 1, none⟩) fun x17 => exI .i64 (h6.cell ⟨g2, 0 + 1 + 1 + 1 + 1 + 1 + 1 + 1 + 1 + 1 + 1 + 1, none⟩) fun x18 => exI .i64 (h6.cell ⟨g2, 0 + 1 + 1 + 1 + 1 + 1 + 1 + 1 + 1 + 1 + 1 + 1 + 1, none⟩) fun x19 => exI .u32 (h6.cell ⟨g2, 0 + 1 + 1 + 1 + 1 + 1 + 1 + 1 + 1 + 1 + 1 + 1 + 1 + 1, none⟩) fun x20 => exI .u32 (h6.cell ⟨g2, 0 + 1 + 1 + 1 + 1 + 1 + 1 + 1 + 1 + 1 + 1 + 1 + 1 + 1 + 1, none⟩) fun x21 => exS (h6.cell ⟨g2, 0 + 1 + 1 + 1 + 1 + 1 + 1 + 1 + 1 + 1 + 1 + 1 + 1 + 1 + 1 + 1, none⟩) fun x22 => K x7 x8 x9 x10 x11 x12 x13 x14 x15 x16 x17 x18 x19 x20 x21 x22 r4 h6 else gnew [Value.int .i64 2, Value.int .i64 2, Value.int .i64 2, Value.int .i64 2, Value.int .i64 2, Value.int .i64 2, Value.int .i64 4, Value.int .i64 4, Value.int .i64 4, Value.int .i64 2, Value.int .i64 2, Value.int .i64 2, Value.int .i64 2, Value.int .i64 2, Value.int .i64 4, Value.int .i64 4] 1 h5 fun g23 h24 => F_ref24_take a1 ⟨(some ⟨g23, 0, none⟩), 16, 16⟩ h24 fun r25 h26 => exA a1 fun g27 o28 => exI .i64 (h26.cell ⟨g27, o28 + 2, none⟩) fun x29 => (bif x29 != 0 then exA a1 fun g30 o31 => exI .i64 (h26.cell ⟨g30, o31 + 2, none⟩) fun x32 => gput g2 (0) [Value.int .i64 0, Value.int .i64 0, Value.int .i64 0, Value.int .i64 0, Value.int .i64 0, Value.int .u32 0, Value.int .u32 0, Value.int .u32 0, Value.slice none 0 0, Value.slice none 0 0, Value.int .i64 0, Value.int .i64 0, Value.int .i64 0, Value.int .u32 0, Value.int .u32 0, Value.slice none 0 0] h26 fun h33 => (bif sameAt g30 (o31 + 2) 1 h26 h33 then exI .i64 (h33.cell ⟨g2, 0, none⟩) fun x34 => exI .i64 (h33.cell ⟨g2, 0 + 1, none⟩) fun x35 => exI .i64 (h33.cell ⟨g2, 0 + 1 + 1, none⟩) fun x36 => exI .i64 (h33.cell ⟨g2, 0 + 1 + 1 + 1, none⟩) fun x37 => exI .i64 (h33.cell ⟨g2, 0 + 1 + 1 + 1 + 1, none⟩) fun x38 => exI .u32 (h33.cell ⟨g2, 0 + 1 + 1 + 1 + 1 + 1, none⟩) fun x39 => exI .u32 (h33.cell ⟨g2, 0 + 1 + 1 + 1 + 1 + 1 + 1, none⟩) fun x40 => exI .u32 (h33.cell ⟨g2, 0 + 1 + 1 + 1 + 1 + 1 + 1 + 1, none⟩) fun x41 => exS (h33.cell ⟨g2, 0 + 1 + 1 + 1 + 1 + 1 + 1 + 1 + 1, none⟩) fun x42 => exS (h33.cell ⟨g2, 0 + 1 + 1 + 1 + 1 + 1 + 1 + 1 + 1 + 1, none⟩) fun x43 => exI .i64 (h33.cell ⟨g2, 0 + 1 + 1 + 1 + 1 + 1 + 1 + 1 + 1 + 1 + 1, none⟩) fun x44 => exI .i64 (h33.cell ⟨g2, 0 + 1 + 1 + 1 + 1 + 1 + 1 + 1 + 1 + 1 + 1 + 1, none⟩) fun x45 => exI .i64 (h33.cell ⟨g2, 0 + 1 + 1 + 1 + 1 + 1 + 1 + 1 + 1 + 1 + 1 + 1 + 1, none⟩) fun x46 => exI .u32 (h33.cell ⟨g2, 0 + 1 + 1 + 1 + 1 + 1 + 1 + 1 + 1 + 1 + 1 + 1 + 1 + 1, none⟩) fun x47 => exI .u32 (h33.cell ⟨g2, 0 + 1 + 1 + 1 + 1 + 1 + 1 + 1 + 1 + 1 + 1 + 1 + 1 + 1 + 1, none⟩) fun x48 => exS (h33.cell ⟨g2, 0 + 1 + 1 + 1 + 1 + 1 + 1 + 1 + 1 + 1 + 1 + 1 + 1 + 1 + 1 + 1, none⟩) fun x49 => K x34 x35 x36 x37 x38 x39 x40 x41 x42 x43 x44 x45 x46 x47 x48 x49 x32 h33 else none) else F_ref24_at r25 0 h26 fun r50 h51 => bnd 2 r25.n fun m52 => F_ref24_head ⟨addO r25.a (m52 * 1), r25.n - m52, r25.c - m52⟩ h51 fun r53 r54 r55 r56 r57 r58 r59 r60 r61 r62 h63 => F_ref24_at r25 30 h63 fun r64 h65 => F_ref24_at r25 32 h65 fun r66 h67 => bnd 38 r25.c fun m68 => bnd 34 m68 fun m69 => F_ref02_Num ⟨addO r25.a (m69 * 1), m68 - m69, r25.c - m69⟩ h67 fun r70 h71 => bnd 42 r25.c fun m72 => bnd 38 m72 fun m73 => F_ref02_Num ⟨addO r25.a (m73 * 1), m72 - m73, r25.c - m73⟩ h71 fun r74 h75 => gnew [Value.int .i64 0, Value.int .i64 0, Value.int .i64 0, Value.int .i64 0, Value.int .i64 0, Value.int .u32 0, Value.int .u32 0, Value.int .u32 0, Value.slice none 0 0, Value.slice none 0 0, Value.int .i64 0, Value.int .i64 0, Value.int .i64 0, Value.int .u32 0, Value.int .u32 0, Value.slice none 0 0] 0 h75 fun g76 h77 => gput g76 (0) [Value.int .i64 r53, Value.int .i64 r54, Value.int .i64 r55, Value.int .i64 r56, Value.int .i64 r57, Value.int .u32 r58, Value.int .u32 r59, Value.int .u32 r60, Value.slice r61.a r61.n r61.c, Value.slice r62.a r62.n r62.c, Value.int .i64 r50, Value.int .i64 r64, Value.int .i64 r66, Value.int .u32 r70, Value.int .u32 r74, Value.slice none 0 0] h77 fun h78 => F_ref24_at r25 24 h78 fun r79 h80 => F_ref02_Cursor_Take a1 r79 h80 fun r81 h82 => gput g76 (0 + 0 + 8) [Value.slice r81.a r81.n r81.c] h82 fun h83 => F_ref24_at r25 26 h83 fun r84 h85 => F_ref02_Cursor_Take a1 r84 h85 fun r86 h87 => gput g76 (0 + 0 + 9) [Value.slice r86.a r86.n r86.c] h87 fun h88 => F_ref24_at r25 28 h88 fun r89 h90 => F_ref02_Cursor_Take a1 r89 h90 fun r91 h92 => gput g76 (0 + 15) [Value.slice r91.a r91.n r91.c] h92 fun h93 => exA a1 fun g94 o95 => exI .i64 (h93.cell ⟨g94, o95 + 2, none⟩) fun x96 => (bif x96 != 0 then exA a1 fun g97 o98 => exI .i64 (h93.cell ⟨g97, o98 + 2, none⟩) fun x99 => gput g2 (0) [Value.int .i64 0, Value.int .i64 0, Value.int .i64 0, Value.int .i64 0, Value.int .i64 0, Value.int .u32 0, Value.int .u32 0, Value.int .u32 0, Value.slice none 0 0, Value.slice none 0 0, Value.int .i64 0, Value.int .i64 0, Value.int .i64 0, Value.int .u32 0, Value.int .u32 0, Value.slice none 0 0] h93 fun h100 => (bif sameAt g97 (o98 + 2) 1 h93 h100 then exI .i64 (h100.cell ⟨g2, 0, none⟩) fun x101 => exI .i64 (h100.cell ⟨g2, 0 + 1, none⟩) fun x102 => exI .i64 (h100.cell ⟨g2, 0 + 1 + 1, none⟩) fun x103 => exI .i64 (h100.cell ⟨g2, 0 + 1 + 1 + 1, none⟩) fun x104 => exI .i64 (h100.cell ⟨g2, 0 + 1 + 1 + 1 + 1, none⟩) fun x105 => exI .u32 (h100.cell ⟨g2, 0 + 1 + 1 + 1 + 1 + 1, none⟩) fun x106 => exI .u32 (h100.cell ⟨g2, 0 + 1 + 1 + 1 + 1 + 1 + 1, none⟩) fun x107 => exI .u32 (h100.cell ⟨g2, 0 + 1 + 1 + 1 + 1 + 1 + 1 + 1, none⟩) fun x108 => exS (h100.cell ⟨g2, 0 + 1 + 1 + 1 + 1 + 1 + 1 + 1 + 1, none⟩) fun x109 => exS (h100.cell ⟨g2, 0 + 1 + 1 + 1 + 1 + 1 + 1 + 1 + 1 + 1, none⟩) fun x110 => exI .i64 (h100.cell ⟨g2, 0 + 1 + 1 + 1 + 1 + 1 + 1 + 1 + 1 + 1 + 1, none⟩) fun x111 => exI .i64 (h100.cell ⟨g2, 0 + 1 + 1 + 1 + 1 + 1 + 1 + 1 + 1 + 1 + 1 + 1, none⟩) fun x112 => exI .i64 (h100.cell ⟨g2, 0 + 1 + 1 + 1 + 1 + 1 + 1 + 1 + 1 + 1 + 1 + 1 + 1, none⟩) fun x113 => exI .u32 (h100.cell ⟨g2, 0 + 1 + 1 + 1 + 1 + 1 + 1 + 1 + 1 + 1 + 1 + 1 + 1 + 1, none⟩) fun x114 => exI .u32 (h100.cell ⟨g2, 0 + 1 + 1 + 1 + 1 + 1 + 1 + 1 + 1 + 1 + 1 + 1 + 1 + 1 + 1, none⟩) fun x115 => exS (h100.cell ⟨g2, 0 + 1 + 1 + 1 + 1 + 1 + 1 + 1 + 1 + 1 + 1 + 1 + 1 + 1 + 1 + 1, none⟩) fun x116 => K x101 x102 x103 x104 x105 x106 x107 x108 x109 x110 x111 x112 x113 x114 x115 x116 x99 h100 else none) else exI .i64 (h93.cell ⟨g76, 0, none⟩) fun x117 => exI .i64 (h93.cell ⟨g76, 0 + 1, none⟩) fun x118 => exI .i64 (h93.cell ⟨g76, 0 + 1 + 1, none⟩) fun x119 => exI .i64 (h93.cell ⟨g76, 0 + 1 + 1 + 1, none⟩) fun x120 => exI .i64 (h93.cell ⟨g76, 0 + 1 + 1 + 1 + 1, none⟩) fun x121 => exI .u32 (h93.cell ⟨g76, 0 + 1 + 1 + 1 + 1 + 1, none⟩) fun x122 => exI .u32 (h93.cell ⟨g76, 0 + 1 + 1 + 1 + 1 + 1 + 1, none⟩) fun x123 => exI .u32 (h93.cell ⟨g76, 0 + 1 + 1 + 1 + 1 + 1 + 1 + 1, none⟩) fun x124 => exS (h93.cell ⟨g76, 0 + 1 + 1 + 1 + 1 + 1 + 1 + 1 + 1, none⟩) fun x125 => exS (h93.cell ⟨g76, 0 + 1 + 1 + 1 + 1 + 1 + 1 + 1 + 1 + 1, none⟩) fun x126 => exI .i64 (h93.cell ⟨g76, 0 + 1 + 1 + 1 + 1 + 1 + 1 + 1 + 1 + 1 + 1, none⟩) fun x127 => exI .i64 (h93.cell ⟨g76, 0 + 1 + 1 + 1 + 1 + 1 + 1 + 1 + 1 + 1 + 1 + 1, none⟩) fun x128 => exI .i64 (h93.cell ⟨g76, 0 + 1 + 1 + 1 + 1 + 1 + 1 + 1 + 1 + 1 + 1 + 1 + 1, none⟩) fun x129 => exI .u32 (h93.cell ⟨g76, 0 + 1 + 1 + 1 + 1 + 1 + 1 + 1 + 1 + 1 + 1 + 1 + 1 + 1, none⟩) fun x130 => exI .u32 (h93.cell ⟨g76, 0 + 1 + 1 + 1 + 1 + 1 + 1 + 1 + 1 + 1 + 1 + 1 + 1 + 1 + 1, none⟩) fun x131 => exS (h93.cell ⟨g76, 0 + 1 + 1 + 1 + 1 + 1 + 1 + 1 + 1 + 1 + 1 + 1 + 1 + 1 + 1 + 1, none⟩) fun x132 => gput g2 (0) [Value.int .i64 x117, Value.int .i64 x118, Value.int .i64 x119, Value.int .i64 x120, Value.int .i64 x121, Value.int .u32 x122, Value.int .u32 x123, Value.int .u32 x124, Value.slice x125.a x125.n x125.c, Value.slice x126.a x126.n x126.c, Value.int .i64 x127, Value.int .i64 x128, Value.int .i64 x129, Value.int .u32 x130, Value.int .u32 x131, Value.slice x132.a x132.n x132.c] h93 fun h133 => exI .i64 (h133.cell ⟨g2, 0, none⟩) fun x134 => exI .i64 (h133.cell ⟨g2, 0 + 1, none⟩) fun x135 => exI .i64 (h133.cell ⟨g2, 0 + 1 + 1, none⟩) fun x136 => exI .i64 (h133.cell ⟨g2, 0 + 1 + 1 + 1, none⟩) fun x137 => exI .i64 (h133.cell ⟨g2, 0 + 1 + 1 + 1 + 1, none⟩) fun x138 => exI .u32 (h133.cell ⟨g2, 0 + 1 + 1 + 1 + 1 + 1, none⟩) fun x139 => exI .u32 (h133.cell ⟨g2, 0 + 1 + 1 + 1 + 1 + 1 + 1, none⟩) fun x140 => exI .u32 (h133.cell ⟨g2, 0 + 1 + 1 + 1 + 1 + 1 + 1 + 1, none⟩) fun x141 => exS (h133.cell ⟨g2, 0 + 1 + 1 + 1 + 1 + 1 + 1 + 1 + 1, none⟩) fun x142 => exS (h133.cell ⟨g2, 0 + 1 + 1 + 1 + 1 + 1 + 1 + 1 + 1 + 1, none⟩) fun x143 => exI .i64 (h133.cell ⟨g2, 0 + 1 + 1 + 1 + 1 + 1 + 1 + 1 + 1 + 1 + 1, none⟩) fun x144 => exI .i64 (h133.cell ⟨g2, 0 + 1 + 1 + 1 + 1 + 1 + 1 + 1 + 1 + 1 + 1 + 1, none⟩) fun x145 => exI .i64 (h133.cell ⟨g2, 0 + 1 + 1 + 1 + 1 + 1 + 1 + 1 + 1 + 1 + 1 + 1 + 1, none⟩) fun x146 => exI .u32 (h133.cell ⟨g2, 0 + 1 + 1 + 1 + 1 + 1 + 1 + 1 + 1 + 1 + 1 + 1 + 1 + 1, none⟩) fun x147 => exI .u32 (h133.cell ⟨g2, 0 + 1 + 1 + 1 + 1 + 1 + 1 + 1 + 1 + 1 + 1 + 1 + 1 + 1 + 1, none⟩) fun x148 => exS (h133.cell ⟨g2, 0 + 1 + 1 + 1 + 1 + 1 + 1 + 1 + 1 + 1 + 1 + 1 + 1 + 1 + 1 + 1, none⟩) fun x149 => K x134 x135 x136 x137 x138 x139 x140 x141 x142 x143 x144 x145 x146 x147 x148 x149 0 h133))) := by kernel_rfl
noncomputable def F_ref24_ReadCentral (R : Nat) (a1 : Option Addr) (h : GH) (K : Int → Int → Int → Int → Int → Int → Int → Int → Sl → Sl → Int → Int → Int → Int → Int → Sl → Int → GH → Option β) : Option β := G_ref24_ReadCentral (F_ref24_sign R) (F_ref24_take R) (F_ref24_at R) (F_ref24_head R) (F_ref02_Num R) (F_ref02_Cursor_Take R) R a1 h K
set_option maxRecDepth 100000 in
theorem CF_ref24_ReadCentral_sim {R : Nat} : SimOrc Try.prog (CF_ref24_ReadCentral (F_ref24_sign R) (F_ref24_take R) (F_ref24_at R) (F_ref24_head R) (F_ref02_Num R) (F_ref02_Cursor_Take R) (β := β)) := by
  intro f args h K r hc
  unfold CF_ref24_ReadCentral at hc
  cases hb : Nat.beq f 94 with
  | true =>
    rw [hb] at hc
    simp only [cond_true] at hc
    obtain rfl := Nat.eq_of_beq_eq_true hb
    split at hc
    · exact any_call (F_ref24_sign_sim (K := K) hc)
    · cases hc
  | false =>
  rw [hb] at hc
  simp only [cond_false] at hc
  cases hb : Nat.beq f 95 with
  | true =>
    rw [hb] at hc
    simp only [cond_true] at hc
    obtain rfl := Nat.eq_of_beq_eq_true hb
    split at hc
    · exact any_call (F_ref24_take_sim (K := K) hc)
    · cases hc
  | false =>
  rw [hb] at hc
  simp only [cond_false] at hc
  cases hb : Nat.beq f 83 with
  | true =>
    rw [hb] at hc
    simp only [cond_true] at hc
    obtain rfl := Nat.eq_of_beq_eq_true hb
    split at hc
    · exact any_call (F_ref24_at_sim (K := K) hc)
    · cases hc
  | false =>
  rw [hb] at hc
  simp only [cond_false] at hc
  cases hb : Nat.beq f 96 with
  | true =>
    rw [hb] at hc
    simp only [cond_true] at hc
    obtain rfl := Nat.eq_of_beq_eq_true hb
    split at hc
    · exact any_call (F_ref24_head_sim (K := K) hc)
    · cases hc
  | false =>
  rw [hb] at hc
  simp only [cond_false] at hc
  cases hb : Nat.beq f 82 with
  | true =>
    rw [hb] at hc
    simp only [cond_true] at hc
    obtain rfl := Nat.eq_of_beq_eq_true hb
    split at hc
    · exact any_call (F_ref02_Num_sim (K := K) hc)
    · cases hc
  | false =>
  rw [hb] at hc
  simp only [cond_false] at hc
  cases hb : Nat.beq f 72 with
  | true =>
    rw [hb] at hc
    simp only [cond_true] at hc
    obtain rfl := Nat.eq_of_beq_eq_true hb
    split at hc
    · exact any_call (F_ref02_Cursor_Take_sim (K := K) hc)
    · cases hc
  | false =>
  rw [hb] at hc
  simp only [cond_false] at hc
  cases hc
set_option maxRecDepth 100000 in
theorem F_ref24_ReadCentral_sim {R : Nat} {r : β} {a1 : Option Addr} {h : GH} {K : Value → GH → Option β} (hc : F_ref24_ReadCentral R a1 h (fun q0 q1 q2 q3 q4 q5 q6 q7 q8 q9 q10 q11 q12 q13 q14 q15 q16 h' => K (Value.tuple #[Value.agg #[Value.int .i64 q0, Value.int .i64 q1, Value.int .i64 q2, Value.int .i64 q3, Value.int .i64 q4, Value.int .u32 q5, Value.int .u32 q6, Value.int .u32 q7, Value.slice q8.a q8.n q8.c, Value.slice q9.a q9.n q9.c, Value.int .i64 q10, Value.int .i64 q11, Value.int .i64 q12, Value.int .u32 q13, Value.int .u32 q14, Value.slice q15.a q15.n q15.c], Value.int .i64 q16]) h') = some r) : ∃ v h', K v h' = some r ∧ CallSim Try.prog 69 [Value.pointer a1] h v h' := by
  unfold F_ref24_ReadCentral G_ref24_ReadCentral at hc
  obtain ⟨v, h', hk, hs⟩ := gfun_sim (CF_ref24_ReadCentral_sim (R := R)) mixed_ok (fun f h => by cases h) Try.func69 (by kernel_rfl) hc
  obtain ⟨vs, rfl, hl, hk⟩ := exTup_v hk
  obtain ⟨v0, t0, hk⟩ := exV_v hk
  obtain ⟨cs0, f0, hk⟩ := exAg_v hk; cases f0; obtain ⟨hl0, hk⟩ := beq_v hk
  obtain ⟨u1, e1, hk⟩ := exI_v hk
  obtain ⟨u2, e2, hk⟩ := exI_v hk
  obtain ⟨u3, e3, hk⟩ := exI_v hk
  obtain ⟨u4, e4, hk⟩ := exI_v hk
  obtain ⟨u5, e5, hk⟩ := exI_v hk
  obtain ⟨u6, e6, hk⟩ := exI_v hk
  obtain ⟨u7, e7, hk⟩ := exI_v hk
  obtain ⟨u8, e8, hk⟩ := exI_v hk
  obtain ⟨u9, e9, hk⟩ := exS_v hk
  obtain ⟨u10, e10, hk⟩ := exS_v hk
  obtain ⟨u11, e11, hk⟩ := exI_v hk
  obtain ⟨u12, e12, hk⟩ := exI_v hk
  obtain ⟨u13, e13, hk⟩ := exI_v hk
  obtain ⟨u14, e14, hk⟩ := exI_v hk
  obtain ⟨u15, e15, hk⟩ := exI_v hk
  obtain ⟨u16, e16, hk⟩ := exS_v hk
  obtain rfl := arr16 hl0 e1 e2 e3 e4 e5 e6 e7 e8 e9 e10 e11 e12 e13 e14 e15 e16
  obtain ⟨v1, t1, hk⟩ := exV_v hk
  obtain ⟨u17, e17, hk⟩ := exI_v hk; cases e17
  obtain rfl := arr2 hl t0 t1
  exact ⟨_, h', hk, hs⟩
/-! F42 (*duffel/duffelref02.Cursor).Left -/
def CF_ref02_Cursor_Left  : Orc β := fun f args h K => none
def HF_ref02_Cursor_Left : Hints := ⟨[], [], []⟩
noncomputable def G_ref02_Cursor_Left  (R : Nat) (a1 : Option Addr) (h : GH) (K : Int → GH → Option β) : Option β := gfun Try.prog (CF_ref02_Cursor_Left ) HF_ref02_Cursor_Left R Try.f42 [Value.pointer a1] h (fun v h' => exI .i64 (some v) fun u12 => K u12 h')
set_option maxRecDepth 100000 in
theorem F_ref02_Cursor_Left_gen  (R : Nat) (a1 : Option Addr) (h : GH) (K : Int → GH → Option β) : G_ref02_Cursor_Left  R a1 h K =
    exA a1 fun g2 o3 => exI .i64 (h.cell ⟨g2, o3 + 2, none⟩) fun x4 => (bif x4 != 0 then K 0 h else exA a1 fun g5 o6 => exS (h.cell ⟨g5, o6 + 0, none⟩) fun x7 => exA a1 fun g8 o9 => exI .i64 (h.cell ⟨g8, o9 + 1, none⟩) fun x10 => K (IntKind.wrap .i64 (((x7.n : Nat) : Int) - x10)) h) := by kernel_rfl
noncomputable def F_ref02_Cursor_Left (R : Nat) (a1 : Option Addr) (h : GH) (K : Int → GH → Option β) : Option β := G_ref02_Cursor_Left  R a1 h K
theorem CF_ref02_Cursor_Left_sim : SimOrc Try.prog (CF_ref02_Cursor_Left (β := β)) := by
  intro f args h K r hc
  cases hc
set_option maxRecDepth 100000 in
theorem F_ref02_Cursor_Left_sim {R : Nat} {r : β} {a1 : Option Addr} {h : GH} {K : Value → GH → Option β} (hc : F_ref02_Cursor_Left R a1 h (fun q0 h' => K (Value.int .i64 q0) h') = some r) : ∃ v h', K v h' = some r ∧ CallSim Try.prog 42 [Value.pointer a1] h v h' := by
  unfold F_ref02_Cursor_Left G_ref02_Cursor_Left at hc
  obtain ⟨v, h', hk, hs⟩ := gfun_sim CF_ref02_Cursor_Left_sim mixed_ok (fun f h => by cases h) Try.func42 (by kernel_rfl) hc
  obtain ⟨u0, e0, hk⟩ := exI_v hk; cases e0
  exact ⟨_, h', hk, hs⟩
/-! F30 duffel/duffelref25.Known -/
def CF_ref25_Known  : Orc β := fun f args h K => none
def HF_ref25_Known : Hints := ⟨[], [], []⟩
noncomputable def G_ref25_Known  (R : Nat) (a1 : Int) (h : GH) (K : Bool → GH → Option β) : Option β := gfun Try.prog (CF_ref25_Known ) HF_ref25_Known R Try.f30 [Value.int .i64 a1] h (fun v h' => exB (some v) fun u3 => K u3 h')
set_option maxRecDepth 100000 in
theorem F_ref25_Known_gen  (R : Nat) (a1 : Int) (h : GH) (K : Bool → GH → Option β) : G_ref25_Known  R a1 h K =
    (bif decide (a1 ≥ 0) then (bif decide (a1 ≤ 9) then K (a1 != 7) h else K false h) else K false h) := by kernel_rfl
noncomputable def F_ref25_Known (R : Nat) (a1 : Int) (h : GH) (K : Bool → GH → Option β) : Option β := G_ref25_Known  R a1 h K
theorem CF_ref25_Known_sim : SimOrc Try.prog (CF_ref25_Known (β := β)) := by
  intro f args h K r hc
  cases hc
set_option maxRecDepth 100000 in
theorem F_ref25_Known_sim {R : Nat} {r : β} {a1 : Int} {h : GH} {K : Value → GH → Option β} (hc : F_ref25_Known R a1 h (fun q0 h' => K (Value.bool q0) h') = some r) : ∃ v h', K v h' = some r ∧ CallSim Try.prog 30 [Value.int .i64 a1] h v h' := by
  unfold F_ref25_Known G_ref25_Known at hc
  obtain ⟨v, h', hk, hs⟩ := gfun_sim CF_ref25_Known_sim mixed_ok (fun f h => by cases h) Try.func30 (by kernel_rfl) hc
  obtain ⟨u0, e0, hk⟩ := exB_v hk; cases e0
  exact ⟨_, h', hk, hs⟩
/-! F31 duffel/duffelref25.Allowed -/
def CF_ref25_Allowed  : Orc β := fun f args h K => none
def HF_ref25_Allowed : Hints := ⟨[], [], []⟩
noncomputable def G_ref25_Allowed  (R : Nat) (a1 : Int) (h : GH) (K : Int → GH → Option β) : Option β := gfun Try.prog (CF_ref25_Allowed ) HF_ref25_Allowed R Try.f31 [Value.int .i64 a1] h (fun v h' => exI .i64 (some v) fun u3 => K u3 h')
set_option maxRecDepth 100000 in
theorem F_ref25_Allowed_gen  (R : Nat) (a1 : Int) (h : GH) (K : Int → GH → Option β) : G_ref25_Allowed  R a1 h K =
    (bif a1 == 6 then K 6 h else (bif a1 == 8 then K 6 h else (bif a1 == 9 then K 6 h else K 0 h))) := by kernel_rfl
noncomputable def F_ref25_Allowed (R : Nat) (a1 : Int) (h : GH) (K : Int → GH → Option β) : Option β := G_ref25_Allowed  R a1 h K
theorem CF_ref25_Allowed_sim : SimOrc Try.prog (CF_ref25_Allowed (β := β)) := by
  intro f args h K r hc
  cases hc
set_option maxRecDepth 100000 in
theorem F_ref25_Allowed_sim {R : Nat} {r : β} {a1 : Int} {h : GH} {K : Value → GH → Option β} (hc : F_ref25_Allowed R a1 h (fun q0 h' => K (Value.int .i64 q0) h') = some r) : ∃ v h', K v h' = some r ∧ CallSim Try.prog 31 [Value.int .i64 a1] h v h' := by
  unfold F_ref25_Allowed G_ref25_Allowed at hc
  obtain ⟨v, h', hk, hs⟩ := gfun_sim CF_ref25_Allowed_sim mixed_ok (fun f h => by cases h) Try.func31 (by kernel_rfl) hc
  obtain ⟨u0, e0, hk⟩ := exI_v hk; cases e0
  exact ⟨_, h', hk, hs⟩
/-! F58 duffel/duffelref23.Read -/
def CF_ref23_Read (F_ref02_Num : Sl → GH → (Int → GH → Option β) → Option β) (F_ref01_Copy : Sl → GH → (Sl → GH → Option β) → Option β) : Orc β := fun f args h K => bif Nat.beq f 82 then (match args with | [.slice p1a p1n p1c] => F_ref02_Num ⟨p1a, p1n, p1c⟩ h (fun q11 h' => K (Value.int .u32 q11) h') | _ => none) else (bif Nat.beq f 13 then (match args with | [.slice p1a p1n p1c] => F_ref01_Copy ⟨p1a, p1n, p1c⟩ h (fun q4 h' => K (Value.slice q4.a q4.n q4.c) h') | _ => none) else none)
def HF_ref23_Read : Hints := ⟨[(3, [0, 4, 5], [(0, [(4, .ty 103)])], some [(2, .ty 103), (3, .ty 3)])], [], []⟩
noncomputable def BF_ref23_Read : Code := match Try.f58.body with | some c => c | none => .skip
noncomputable def F_ref23_Read_l0 (F_ref02_Num : Sl → GH → (Int → GH → Option β) → Option β) (F_ref01_Copy : Sl → GH → (Sl → GH → Option β) → Option β) (R : Nat) (n : Nat) (y2 : Sl) (y3 : Sl) (y4 : Int) (h : GH) (K0 : Sl → GH → Option β) (Kr : Sl → Int → GH → Option β) : Option β := gloop (gcode Try.prog (CF_ref23_Read F_ref02_Num F_ref01_Copy) Try.f58.ntmps HF_ref23_Read R (at_ [true, true, true, false, false, false] BF_ref23_Read)) [0, 4, 5] n [(0, Value.slice y2.a y2.n y2.c), (4, Value.slice y3.a y3.n y3.c), (5, Value.int .i64 y4)] h (fun i e' h' => bif Nat.beq i 0 then (exS (some (e'.get 4)) fun u31 => K0 u31 h') else none) (fun e' h' => exS (some (e'.get 2)) fun u32 => exI .i64 (some (e'.get 3)) fun u33 => Kr u32 u33 h')
set_option maxRecDepth 100000 in
theorem F_ref23_Read_l0_succ (F_ref02_Num : Sl → GH → (Int → GH → Option β) → Option β) (F_ref01_Copy : Sl → GH → (Sl → GH → Option β) → Option β) (R : Nat) (n : Nat) (y2 : Sl) (y3 : Sl) (y4 : Int) (h : GH) (K0 : Sl → GH → Option β) (Kr : Sl → Int → GH → Option β) : F_ref23_Read_l0 F_ref02_Num F_ref01_Copy R (n + 1) y2 y3 y4 h K0 Kr =
    (bif decide (y4 < ((y2.n : Nat) : Int)) then (bif decide ((IntKind.wrap .i64 (((y2.n : Nat) : Int) - y4)) < 4) then Kr ⟨none, 0, 0⟩ 3 h else bnd (IntKind.wrap .i64 (y4 + 4)) y2.c fun m8 => bnd (IntKind.wrap .i64 (y4 + 2)) m8 fun m9 => F_ref02_Num ⟨addO y2.a (m9 * 1), m8 - m9, y2.c - m9⟩ h fun r10 h11 => (bif decide ((IntKind.wrap .i64 r10) > (IntKind.wrap .i64 ((IntKind.wrap .i64 (((y2.n : Nat) : Int) - y4)) - 4))) then Kr ⟨none, 0, 0⟩ 3 h11 else bnd (IntKind.wrap .i64 (y4 + 2)) y2.c fun m12 => bnd y4 m12 fun m13 => F_ref02_Num ⟨addO y2.a (m13 * 1), m12 - m13, y2.c - m13⟩ h11 fun r14 h15 => bnd (IntKind.wrap .i64 ((IntKind.wrap .i64 (y4 + 4)) + (IntKind.wrap .i64 r10))) y2.c fun m16 => bnd (IntKind.wrap .i64 (y4 + 4)) m16 fun m17 => F_ref01_Copy ⟨addO y2.a (m17 * 1), m16 - m17, y2.c - m17⟩ h15 fun r18 h19 => gnew [Value.int .i64 (IntKind.wrap .i64 r14), Value.slice r18.a r18.n r18.c] 2 h19 fun g20 h21 => gappS 2 32 y3 ⟨(some ⟨g20, 0, none⟩), 1, 1⟩ h21 fun s22 h23 => F_ref23_Read_l0 F_ref02_Num F_ref01_Copy R n y2 s22 (IntKind.wrap .i64 ((IntKind.wrap .i64 (y4 + 4)) + (IntKind.wrap .i64 r10))) h23 K0 Kr)) else K0 y3 h) := by kernel_rfl
noncomputable def G_ref23_Read (F_ref02_Num : Sl → GH → (Int → GH → Option β) → Option β) (F_ref01_Copy : Sl → GH → (Sl → GH → Option β) → Option β) (R : Nat) (a1 : Sl) (h : GH) (K : Sl → Int → GH → Option β) : Option β := gfun Try.prog (CF_ref23_Read F_ref02_Num F_ref01_Copy) HF_ref23_Read R Try.f58 [Value.slice a1.a a1.n a1.c] h (fun v h' => exTup 2 v fun vs => exV (nth vs 0) fun v0 => exS (some v0) fun u34 => exV (nth vs 1) fun v1 => exI .i64 (some v1) fun u35 => K u34 u35 h')
set_option maxRecDepth 100000 in
theorem F_ref23_Read_gen (F_ref02_Num : Sl → GH → (Int → GH → Option β) → Option β) (F_ref01_Copy : Sl → GH → (Sl → GH → Option β) → Option β) (R : Nat) (a1 : Sl) (h : GH) (K : Sl → Int → GH → Option β) : G_ref23_Read F_ref02_Num F_ref01_Copy R a1 h K =
    F_ref23_Read_l0 F_ref02_Num F_ref01_Copy R R a1 ⟨none, 0, 0⟩ 0 h (fun w24 h25 => K w24 0 h25) (fun w26 w27 h28 => K w26 w27 h28) := by kernel_rfl
noncomputable def F_ref23_Read (R : Nat) (a1 : Sl) (h : GH) (K : Sl → Int → GH → Option β) : Option β := G_ref23_Read (F_ref02_Num R) (F_ref01_Copy R) R a1 h K
set_option maxRecDepth 100000 in
theorem CF_ref23_Read_sim {R : Nat} : SimOrc Try.prog (CF_ref23_Read (F_ref02_Num R) (F_ref01_Copy R) (β := β)) := by
  intro f args h K r hc
  unfold CF_ref23_Read at hc
  cases hb : Nat.beq f 82 with
  | true =>
    rw [hb] at hc
    simp only [cond_true] at hc
    obtain rfl := Nat.eq_of_beq_eq_true hb
    split at hc
    · exact any_call (F_ref02_Num_sim (K := K) hc)
    · cases hc
  | false =>
  rw [hb] at hc
  simp only [cond_false] at hc
  cases hb : Nat.beq f 13 with
  | true =>
    rw [hb] at hc
    simp only [cond_true] at hc
    obtain rfl := Nat.eq_of_beq_eq_true hb
    split at hc
    · exact any_call (F_ref01_Copy_sim (K := K) hc)
    · cases hc
  | false =>
  rw [hb] at hc
  simp only [cond_false] at hc
  cases hc
set_option maxRecDepth 100000 in
theorem F_ref23_Read_sim {R : Nat} {r : β} {a1 : Sl} {h : GH} {K : Value → GH → Option β} (hc : F_ref23_Read R a1 h (fun q0 q1 h' => K (Value.tuple #[Value.slice q0.a q0.n q0.c, Value.int .i64 q1]) h') = some r) : ∃ v h', K v h' = some r ∧ CallSim Try.prog 58 [Value.slice a1.a a1.n a1.c] h v h' := by
  unfold F_ref23_Read G_ref23_Read at hc
  obtain ⟨v, h', hk, hs⟩ := gfun_sim (CF_ref23_Read_sim (R := R)) mixed_ok (fun f h => by cases h) Try.func58 (by kernel_rfl) hc
  obtain ⟨vs, rfl, hl, hk⟩ := exTup_v hk
  obtain ⟨v0, t0, hk⟩ := exV_v hk
  obtain ⟨u0, e0, hk⟩ := exS_v hk; cases e0
  obtain ⟨v1, t1, hk⟩ := exV_v hk
  obtain ⟨u1, e1, hk⟩ := exI_v hk; cases e1
  obtain rfl := arr2 hl t0 t1
  exact ⟨_, h', hk, hs⟩
/-! F32 duffel/duffelref26.list -/
def CF_ref26_list (F_ref23_Read : Sl → GH → (Sl → Int → GH → Option β) → Option β) : Orc β := fun f args h K => bif Nat.beq f 58 then (match args with | [.slice p1a p1n p1c] => F_ref23_Read ⟨p1a, p1n, p1c⟩ h (fun q29 q30 h' => K (Value.tuple #[Value.slice q29.a q29.n q29.c, Value.int .i64 q30]) h') | _ => none) else none
def HF_ref26_list : Hints := ⟨[(5, [3, 5], [(0, [])], some [(2, .ty 3)])], [], []⟩
noncomputable def BF_ref26_list : Code := match Try.f32.body with | some c => c | none => .skip
noncomputable def F_ref26_list_l0 (F_ref23_Read : Sl → GH → (Sl → Int → GH → Option β) → Option β) (R : Nat) (n : Nat) (y5 : Sl) (y6 : Int) (h : GH) (K0 : GH → Option β) (Kr : Int → GH → Option β) : Option β := gloop (gcode Try.prog (CF_ref26_list F_ref23_Read) Try.f32.ntmps HF_ref26_list R (at_ [true, true, true, false, true, false, false] BF_ref26_list)) [3, 5] n [(3, Value.slice y5.a y5.n y5.c), (5, Value.int .i64 y6)] h (fun i e' h' => bif Nat.beq i 0 then (K0 h') else none) (fun e' h' => exI .i64 (some (e'.get 2)) fun u15 => Kr u15 h')
set_option maxRecDepth 100000 in
theorem F_ref26_list_l0_succ (F_ref23_Read : Sl → GH → (Sl → Int → GH → Option β) → Option β) (R : Nat) (n : Nat) (y5 : Sl) (y6 : Int) (h : GH) (K0 : GH → Option β) (Kr : Int → GH → Option β) : F_ref26_list_l0 F_ref23_Read R (n + 1) y5 y6 h K0 Kr =
    (bif decide (y6 < ((y5.n : Nat) : Int)) then exA y5.a fun g8 o9 => within y6 y5.n (exI .i64 (h.cell ⟨g8, o9 + y6.toNat * 2 + 0, none⟩) fun x10 => (bif x10 == 1 then Kr 12 h else F_ref26_list_l0 F_ref23_Read R n y5 (IntKind.wrap .i64 (y6 + 1)) h K0 Kr)) else K0 h) := by kernel_rfl
noncomputable def G_ref26_list (F_ref23_Read : Sl → GH → (Sl → Int → GH → Option β) → Option β) (R : Nat) (a1 : Sl) (h : GH) (K : Int → GH → Option β) : Option β := gfun Try.prog (CF_ref26_list F_ref23_Read) HF_ref26_list R Try.f32 [Value.slice a1.a a1.n a1.c] h (fun v h' => exI .i64 (some v) fun u16 => K u16 h')
set_option maxRecDepth 100000 in
theorem F_ref26_list_gen (F_ref23_Read : Sl → GH → (Sl → Int → GH → Option β) → Option β) (R : Nat) (a1 : Sl) (h : GH) (K : Int → GH → Option β) : G_ref26_list F_ref23_Read R a1 h K =
    F_ref23_Read a1 h fun r2 r3 h4 => (bif r3 != 0 then K 4 h4 else F_ref26_list_l0 F_ref23_Read R R r2 0 h4 (fun h11 => K 0 h11) (fun w12 h13 => K w12 h13)) := by kernel_rfl
noncomputable def F_ref26_list (R : Nat) (a1 : Sl) (h : GH) (K : Int → GH → Option β) : Option β := G_ref26_list (F_ref23_Read R) R a1 h K
set_option maxRecDepth 100000 in
theorem CF_ref26_list_sim {R : Nat} : SimOrc Try.prog (CF_ref26_list (F_ref23_Read R) (β := β)) := by
  intro f args h K r hc
  unfold CF_ref26_list at hc
  cases hb : Nat.beq f 58 with
  | true =>
    rw [hb] at hc
    simp only [cond_true] at hc
    obtain rfl := Nat.eq_of_beq_eq_true hb
    split at hc
    · exact any_call (F_ref23_Read_sim (K := K) hc)
    · cases hc
  | false =>
  rw [hb] at hc
  simp only [cond_false] at hc
  cases hc
set_option maxRecDepth 100000 in
theorem F_ref26_list_sim {R : Nat} {r : β} {a1 : Sl} {h : GH} {K : Value → GH → Option β} (hc : F_ref26_list R a1 h (fun q0 h' => K (Value.int .i64 q0) h') = some r) : ∃ v h', K v h' = some r ∧ CallSim Try.prog 32 [Value.slice a1.a a1.n a1.c] h v h' := by
  unfold F_ref26_list G_ref26_list at hc
  obtain ⟨v, h', hk, hs⟩ := gfun_sim (CF_ref26_list_sim (R := R)) mixed_ok (fun f h => by cases h) Try.func32 (by kernel_rfl) hc
  obtain ⟨u0, e0, hk⟩ := exI_v hk; cases e0
  exact ⟨_, h', hk, hs⟩
/-! F88 duffel/duffelref22.Month -/
def CF_ref22_Month  : Orc β := fun f args h K => none
def HF_ref22_Month : Hints := ⟨[], [], []⟩
noncomputable def G_ref22_Month  (R : Nat) (a1 : Int) (a2 : Int) (h : GH) (K : Int → GH → Option β) : Option β := gfun Try.prog (CF_ref22_Month ) HF_ref22_Month R Try.f88 [Value.int .i64 a1, Value.int .i64 a2] h (fun v h' => exI .i64 (some v) fun u9 => K u9 h')
set_option maxRecDepth 100000 in
theorem F_ref22_Month_gen  (R : Nat) (a1 : Int) (a2 : Int) (h : GH) (K : Int → GH → Option β) : G_ref22_Month  R a1 a2 h K =
    gnew [Value.int .i64 31, Value.int .i64 28, Value.int .i64 31, Value.int .i64 30, Value.int .i64 31, Value.int .i64 30, Value.int .i64 31, Value.int .i64 31, Value.int .i64 30, Value.int .i64 31, Value.int .i64 30, Value.int .i64 31] 1 h fun g3 h4 => (bif a2 == 2 then (bif (Int.tmod a1 4) == 0 then (bif a1 != 2100 then K 29 h4 else within (IntKind.wrap .i64 (a2 - 1)) 12 (exI .i64 (h4.cell ⟨g3, 0 + (IntKind.wrap .i64 (a2 - 1)).toNat * 1, none⟩) fun x5 => K x5 h4)) else within (IntKind.wrap .i64 (a2 - 1)) 12 (exI .i64 (h4.cell ⟨g3, 0 + (IntKind.wrap .i64 (a2 - 1)).toNat * 1, none⟩) fun x6 => K x6 h4)) else within (IntKind.wrap .i64 (a2 - 1)) 12 (exI .i64 (h4.cell ⟨g3, 0 + (IntKind.wrap .i64 (a2 - 1)).toNat * 1, none⟩) fun x7 => K x7 h4)) := by kernel_rfl
noncomputable def F_ref22_Month (R : Nat) (a1 : Int) (a2 : Int) (h : GH) (K : Int → GH → Option β) : Option β := G_ref22_Month  R a1 a2 h K
theorem CF_ref22_Month_sim : SimOrc Try.prog (CF_ref22_Month (β := β)) := by
  intro f args h K r hc
  cases hc
set_option maxRecDepth 100000 in
theorem F_ref22_Month_sim {R : Nat} {r : β} {a1 : Int} {a2 : Int} {h : GH} {K : Value → GH → Option β} (hc : F_ref22_Month R a1 a2 h (fun q0 h' => K (Value.int .i64 q0) h') = some r) : ∃ v h', K v h' = some r ∧ CallSim Try.prog 88 [Value.int .i64 a1, Value.int .i64 a2] h v h' := by
  unfold F_ref22_Month G_ref22_Month at hc
  obtain ⟨v, h', hk, hs⟩ := gfun_sim CF_ref22_Month_sim mixed_ok (fun f h => by cases h) Try.func88 (by kernel_rfl) hc
  obtain ⟨u0, e0, hk⟩ := exI_v hk; cases e0
  exact ⟨_, h', hk, hs⟩
/-! F59 duffel/duffelref22.Is -/
def CF_ref22_Is (F_ref22_Month : Int → Int → GH → (Int → GH → Option β) → Option β) : Orc β := fun f args h K => bif Nat.beq f 88 then (match args with | [.int .i64 p1, .int .i64 p2] => F_ref22_Month p1 p2 h (fun q8 h' => K (Value.int .i64 q8) h') | _ => none) else none
def HF_ref22_Is : Hints := ⟨[], [], []⟩
noncomputable def G_ref22_Is (F_ref22_Month : Int → Int → GH → (Int → GH → Option β) → Option β) (R : Nat) (a1 : Int) (a2 : Int) (a3 : Int) (a4 : Int) (a5 : Int) (a6 : Int) (h : GH) (K : Bool → GH → Option β) : Option β := gfun Try.prog (CF_ref22_Is F_ref22_Month) HF_ref22_Is R Try.f59 [Value.agg #[Value.int .i64 a1, Value.int .i64 a2, Value.int .i64 a3, Value.int .i64 a4, Value.int .i64 a5, Value.int .i64 a6]] h (fun v h' => exB (some v) fun u27 => K u27 h')
set_option maxRecDepth 100000 in
theorem F_ref22_Is_gen (F_ref22_Month : Int → Int → GH → (Int → GH → Option β) → Option β) (R : Nat) (a1 : Int) (a2 : Int) (a3 : Int) (a4 : Int) (a5 : Int) (a6 : Int) (h : GH) (K : Bool → GH → Option β) : G_ref22_Is F_ref22_Month R a1 a2 a3 a4 a5 a6 h K =
    gnew [Value.int .i64 a1, Value.int .i64 a2, Value.int .i64 a3, Value.int .i64 a4, Value.int .i64 a5, Value.int .i64 a6] 0 h fun g7 h8 => exI .i64 (h8.cell ⟨g7, 0 + 0, none⟩) fun x9 => (bif decide (x9 < 1980) then K false h8 else exI .i64 (h8.cell ⟨g7, 0 + 0, none⟩) fun x10 => (bif decide (x10 > 2107) then K false h8 else exI .i64 (h8.cell ⟨g7, 0 + 1, none⟩) fun x11 => (bif decide (x11 < 1) then K false h8 else exI .i64 (h8.cell ⟨g7, 0 + 1, none⟩) fun x12 => (bif decide (x12 > 12) then K false h8 else exI .i64 (h8.cell ⟨g7, 0 + 2, none⟩) fun x13 => (bif decide (x13 < 1) then K false h8 else exI .i64 (h8.cell ⟨g7, 0 + 2, none⟩) fun x14 => exI .i64 (h8.cell ⟨g7, 0 + 0, none⟩) fun x15 => exI .i64 (h8.cell ⟨g7, 0 + 1, none⟩) fun x16 => F_ref22_Month x15 x16 h8 fun r17 h18 => (bif sameAt g7 (0 + 2) 1 h8 h18 then (bif decide (x14 > r17) then K false h18 else exI .i64 (h18.cell ⟨g7, 0 + 3, none⟩) fun x19 => (bif decide ((0 : Int) ≤ x19) then exI .i64 (h18.cell ⟨g7, 0 + 3, none⟩) fun x20 => (bif decide (x20 ≤ 23) then exI .i64 (h18.cell ⟨g7, 0 + 4, none⟩) fun x21 => (bif decide ((0 : Int) ≤ x21) then exI .i64 (h18.cell ⟨g7, 0 + 4, none⟩) fun x22 => (bif decide (x22 ≤ 59) then exI .i64 (h18.cell ⟨g7, 0 + 5, none⟩) fun x23 => (bif decide ((0 : Int) ≤ x23) then exI .i64 (h18.cell ⟨g7, 0 + 5, none⟩) fun x24 => (bif decide (x24 ≤ 58) then exI .i64 (h18.cell ⟨g7, 0 + 5, none⟩) fun x25 => K ((Int.tmod x25 2) == 0) h18 else K false h18) else K false h18) else K false h18) else K false h18) else K false h18) else K false h18)) else none)))))) := by kernel_rfl
noncomputable def F_ref22_Is (R : Nat) (a1 : Int) (a2 : Int) (a3 : Int) (a4 : Int) (a5 : Int) (a6 : Int) (h : GH) (K : Bool → GH → Option β) : Option β := G_ref22_Is (F_ref22_Month R) R a1 a2 a3 a4 a5 a6 h K
set_option maxRecDepth 100000 in
theorem CF_ref22_Is_sim {R : Nat} : SimOrc Try.prog (CF_ref22_Is (F_ref22_Month R) (β := β)) := by
  intro f args h K r hc
  unfold CF_ref22_Is at hc
  cases hb : Nat.beq f 88 with
  | true =>
    rw [hb] at hc
    simp only [cond_true] at hc
    obtain rfl := Nat.eq_of_beq_eq_true hb
    split at hc
    · exact any_call (F_ref22_Month_sim (K := K) hc)
    · cases hc
  | false =>
  rw [hb] at hc
  simp only [cond_false] at hc
  cases hc
set_option maxRecDepth 100000 in
theorem F_ref22_Is_sim {R : Nat} {r : β} {a1 : Int} {a2 : Int} {a3 : Int} {a4 : Int} {a5 : Int} {a6 : Int} {h : GH} {K : Value → GH → Option β} (hc : F_ref22_Is R a1 a2 a3 a4 a5 a6 h (fun q0 h' => K (Value.bool q0) h') = some r) : ∃ v h', K v h' = some r ∧ CallSim Try.prog 59 [Value.agg #[Value.int .i64 a1, Value.int .i64 a2, Value.int .i64 a3, Value.int .i64 a4, Value.int .i64 a5, Value.int .i64 a6]] h v h' := by
  unfold F_ref22_Is G_ref22_Is at hc
  obtain ⟨v, h', hk, hs⟩ := gfun_sim (CF_ref22_Is_sim (R := R)) mixed_ok (fun f h => by cases h) Try.func59 (by kernel_rfl) hc
  obtain ⟨u0, e0, hk⟩ := exB_v hk; cases e0
  exact ⟨_, h', hk, hs⟩
/-! F33 duffel/duffelref22.Unpack -/
def CF_ref22_Unpack (F_ref22_Is : Int → Int → Int → Int → Int → Int → GH → (Bool → GH → Option β) → Option β) : Orc β := fun f args h K => bif Nat.beq f 59 then (match args with | [.agg ⟨[.int .i64 p1, .int .i64 p2, .int .i64 p3, .int .i64 p4, .int .i64 p5, .int .i64 p6]⟩] => F_ref22_Is p1 p2 p3 p4 p5 p6 h (fun q26 h' => K (Value.bool q26) h') | _ => none) else none
def HF_ref22_Unpack : Hints := ⟨[], [], []⟩
noncomputable def G_ref22_Unpack (F_ref22_Is : Int → Int → Int → Int → Int → Int → GH → (Bool → GH → Option β) → Option β) (R : Nat) (a1 : Int) (a2 : Int) (h : GH) (K : Int → Int → Int → Int → Int → Int → Int → GH → Option β) : Option β := gfun Try.prog (CF_ref22_Unpack F_ref22_Is) HF_ref22_Unpack R Try.f33 [Value.int .i64 a1, Value.int .i64 a2] h (fun v h' => exTup 2 v fun vs => exV (nth vs 0) fun v0 => exAg v0 fun c71 => (bif Nat.beq c71.length 6 then exI .i64 (nth c71 (0)) fun u72 => exI .i64 (nth c71 (0 + 1)) fun u73 => exI .i64 (nth c71 (0 + 1 + 1)) fun u74 => exI .i64 (nth c71 (0 + 1 + 1 + 1)) fun u75 => exI .i64 (nth c71 (0 + 1 + 1 + 1 + 1)) fun u76 => exI .i64 (nth c71 (0 + 1 + 1 + 1 + 1 + 1)) fun u77 => exV (nth vs 1) fun v1 => exI .i64 (some v1) fun u78 => K u72 u73 u74 u75 u76 u77 u78 h' else none))
set_option maxRecDepth 100000 in
theorem F_ref22_Unpack_gen (F_ref22_Is : Int → Int → Int → Int → Int → Int → GH → (Bool → GH → Option β) → Option β) (R : Nat) (a1 : Int) (a2 : Int) (h : GH) (K : Int → Int → Int → Int → Int → Int → Int → GH → Option β) : G_ref22_Unpack F_ref22_Is R a1 a2 h K =
    gnew [Value.int .i64 0, Value.int .i64 0, Value.int .i64 0, Value.int .i64 0, Value.int .i64 0, Value.int .i64 0] 0 h fun g3 h4 => (bif decide (a1 < 0) then gput g3 (0) [Value.int .i64 0, Value.int .i64 0, Value.int .i64 0, Value.int .i64 0, Value.int .i64 0, Value.int .i64 0] h4 fun h5 => exI .i64 (h5.cell ⟨g3, 0, none⟩) fun x6 => exI .i64 (h5.cell ⟨g3, 0 + 1, none⟩) fun x7 => exI .i64 (h5.cell ⟨g3, 0 + 1 + 1, none⟩) fun x8 => exI .i64 (h5.cell ⟨g3, 0 + 1 + 1 + 1, none⟩) fun x9 => exI .i64 (h5.cell ⟨g3, 0 + 1 + 1 + 1 + 1, none⟩) fun x10 => exI .i64 (h5.cell ⟨g3, 0 + 1 + 1 + 1 + 1 + 1, none⟩) fun x11 => K x6 x7 x8 x9 x10 x11 2 h5 else (bif decide (a1 > 65535) then gput g3 (0) [Value.int .i64 0, Value.int .i64 0, Value.int .i64 0, Value.int .i64 0, Value.int .i64 0, Value.int .i64 0] h4 fun h12 => exI .i64 (h12.cell ⟨g3, 0, none⟩) fun x13 => exI .i64 (h12.cell ⟨g3, 0 + 1, none⟩) fun x14 => exI .i64 (h12.cell ⟨g3, 0 + 1 + 1, none⟩) fun x15 => exI .i64 (h12.cell ⟨g3, 0 + 1 + 1 + 1, none⟩) fun x16 => exI .i64 (h12.cell ⟨g3, 0 + 1 + 1 + 1 + 1, none⟩) fun x17 => exI .i64 (h12.cell ⟨g3, 0 + 1 + 1 + 1 + 1 + 1, none⟩) fun x18 => K x13 x14 x15 x16 x17 x18 2 h12 else (bif decide (a2 < 0) then gput g3 (0) [Value.int .i64 0, Value.int .i64 0, Value.int .i64 0, Value.int .i64 0, Value.int .i64 0, Value.int .i64 0] h4 fun h19 => exI .i64 (h19.cell ⟨g3, 0, none⟩) fun x20 => exI .i64 (h19.cell ⟨g3, 0 + 1, none⟩) fun x21 => exI .i64 (h19.cell ⟨g3, 0 + 1 + 1, none⟩) fun x22 => exI .i64 (h19.cell ⟨g3, 0 + 1 + 1 + 1, none⟩) fun x23 => exI .i64 (h19.cell ⟨g3, 0 + 1 + 1 + 1 + 1, none⟩) fun x24 => exI .i64 (h19.cell ⟨g3, 0 + 1 + 1 + 1 + 1 + 1, none⟩) fun x25 => K x20 x21 x22 x23 x24 x25 2 h19 else (bif decide (a2 > 65535) then gput g3 (0) [Value.int .i64 0, Value.int .i64 0, Value.int .i64 0, Value.int .i64 0, Value.int .i64 0, Value.int .i64 0] h4 fun h26 => exI .i64 (h26.cell ⟨g3, 0, none⟩) fun x27 => exI .i64 (h26.cell ⟨g3, 0 + 1, none⟩) fun x28 => exI .i64 (h26.cell ⟨g3, 0 + 1 + 1, none⟩) fun x29 => exI .i64 (h26.cell ⟨g3, 0 + 1 + 1 + 1, none⟩) fun x30 => exI .i64 (h26.cell ⟨g3, 0 + 1 + 1 + 1 + 1, none⟩) fun x31 => exI .i64 (h26.cell ⟨g3, 0 + 1 + 1 + 1 + 1 + 1, none⟩) fun x32 => K x27 x28 x29 x30 x31 x32 2 h26 else gnew [Value.int .i64 0, Value.int .i64 0, Value.int .i64 0, Value.int .i64 0, Value.int .i64 0, Value.int .i64 0] 0 h4 fun g33 h34 => gput g33 (0) [Value.int .i64 (IntKind.wrap .i64 (1980 + (IntKind.wrap .i64 (Int.tdiv a2 512)))), Value.int .i64 (Int.tmod (IntKind.wrap .i64 (Int.tdiv a2 32)) 16), Value.int .i64 (Int.tmod a2 32), Value.int .i64 (IntKind.wrap .i64 (Int.tdiv a1 2048)), Value.int .i64 (Int.tmod (IntKind.wrap .i64 (Int.tdiv a1 32)) 64), Value.int .i64 (IntKind.wrap .i64 (2 * (Int.tmod a1 32)))] h34 fun h35 => exI .i64 (h35.cell ⟨g33, 0, none⟩) fun x36 => exI .i64 (h35.cell ⟨g33, 0 + 1, none⟩) fun x37 => exI .i64 (h35.cell ⟨g33, 0 + 1 + 1, none⟩) fun x38 => exI .i64 (h35.cell ⟨g33, 0 + 1 + 1 + 1, none⟩) fun x39 => exI .i64 (h35.cell ⟨g33, 0 + 1 + 1 + 1 + 1, none⟩) fun x40 => exI .i64 (h35.cell ⟨g33, 0 + 1 + 1 + 1 + 1 + 1, none⟩) fun x41 => F_ref22_Is x36 x37 x38 x39 x40 x41 h35 fun r42 h43 => (bif !r42 then gput g3 (0) [Value.int .i64 0, Value.int .i64 0, Value.int .i64 0, Value.int .i64 0, Value.int .i64 0, Value.int .i64 0] h43 fun h44 => exI .i64 (h44.cell ⟨g3, 0, none⟩) fun x45 => exI .i64 (h44.cell ⟨g3, 0 + 1, none⟩) fun x46 => exI .i64 (h44.cell ⟨g3, 0 + 1 + 1, none⟩) fun x47 => exI .i64 (h44.cell ⟨g3, 0 + 1 + 1 + 1, none⟩) fun x48 => exI .i64 (h44.cell ⟨g3, 0 + 1 + 1 + 1 + 1, none⟩) fun x49 => exI .i64 (h44.cell ⟨g3, 0 + 1 + 1 + 1 + 1 + 1, none⟩) fun x50 => K x45 x46 x47 x48 x49 x50 17 h44 else exI .i64 (h43.cell ⟨g33, 0, none⟩) fun x51 => exI .i64 (h43.cell ⟨g33, 0 + 1, none⟩) fun x52 => exI .i64 (h43.cell ⟨g33, 0 + 1 + 1, none⟩) fun x53 => exI .i64 (h43.cell ⟨g33, 0 + 1 + 1 + 1, none⟩) fun x54 => exI .i64 (h43.cell ⟨g33, 0 + 1 + 1 + 1 + 1, none⟩) fun x55 => exI .i64 (h43.cell ⟨g33, 0 + 1 + 1 + 1 + 1 + 1, none⟩) fun x56 => gput g3 (0) [Value.int .i64 x51, Value.int .i64 x52, Value.int .i64 x53, Value.int .i64 x54, Value.int .i64 x55, Value.int .i64 x56] h43 fun h57 => exI .i64 (h57.cell ⟨g3, 0, none⟩) fun x58 => exI .i64 (h57.cell ⟨g3, 0 + 1, none⟩) fun x59 => exI .i64 (h57.cell ⟨g3, 0 + 1 + 1, none⟩) fun x60 => exI .i64 (h57.cell ⟨g3, 0 + 1 + 1 + 1, none⟩) fun x61 => exI .i64 (h57.cell ⟨g3, 0 + 1 + 1 + 1 + 1, none⟩) fun x62 => exI .i64 (h57.cell ⟨g3, 0 + 1 + 1 + 1 + 1 + 1, none⟩) fun x63 => K x58 x59 x60 x61 x62 x63 0 h57))))) := by kernel_rfl
noncomputable def F_ref22_Unpack (R : Nat) (a1 : Int) (a2 : Int) (h : GH) (K : Int → Int → Int → Int → Int → Int → Int → GH → Option β) : Option β := G_ref22_Unpack (F_ref22_Is R) R a1 a2 h K
set_option maxRecDepth 100000 in
theorem CF_ref22_Unpack_sim {R : Nat} : SimOrc Try.prog (CF_ref22_Unpack (F_ref22_Is R) (β := β)) := by
  intro f args h K r hc
  unfold CF_ref22_Unpack at hc
  cases hb : Nat.beq f 59 with
  | true =>
    rw [hb] at hc
    simp only [cond_true] at hc
    obtain rfl := Nat.eq_of_beq_eq_true hb
    split at hc
    · exact any_call (F_ref22_Is_sim (K := K) hc)
    · cases hc
  | false =>
  rw [hb] at hc
  simp only [cond_false] at hc
  cases hc
set_option maxRecDepth 100000 in
theorem F_ref22_Unpack_sim {R : Nat} {r : β} {a1 : Int} {a2 : Int} {h : GH} {K : Value → GH → Option β} (hc : F_ref22_Unpack R a1 a2 h (fun q0 q1 q2 q3 q4 q5 q6 h' => K (Value.tuple #[Value.agg #[Value.int .i64 q0, Value.int .i64 q1, Value.int .i64 q2, Value.int .i64 q3, Value.int .i64 q4, Value.int .i64 q5], Value.int .i64 q6]) h') = some r) : ∃ v h', K v h' = some r ∧ CallSim Try.prog 33 [Value.int .i64 a1, Value.int .i64 a2] h v h' := by
  unfold F_ref22_Unpack G_ref22_Unpack at hc
  obtain ⟨v, h', hk, hs⟩ := gfun_sim (CF_ref22_Unpack_sim (R := R)) mixed_ok (fun f h => by cases h) Try.func33 (by kernel_rfl) hc
  obtain ⟨vs, rfl, hl, hk⟩ := exTup_v hk
  obtain ⟨v0, t0, hk⟩ := exV_v hk
  obtain ⟨cs0, f0, hk⟩ := exAg_v hk; cases f0; obtain ⟨hl0, hk⟩ := beq_v hk
  obtain ⟨u1, e1, hk⟩ := exI_v hk
  obtain ⟨u2, e2, hk⟩ := exI_v hk
  obtain ⟨u3, e3, hk⟩ := exI_v hk
  obtain ⟨u4, e4, hk⟩ := exI_v hk
  obtain ⟨u5, e5, hk⟩ := exI_v hk
  obtain ⟨u6, e6, hk⟩ := exI_v hk
  obtain rfl := arr6 hl0 e1 e2 e3 e4 e5 e6
  obtain ⟨v1, t1, hk⟩ := exV_v hk
  obtain ⟨u7, e7, hk⟩ := exI_v hk; cases e7
  obtain rfl := arr2 hl t0 t1
  exact ⟨_, h', hk, hs⟩
/-! F10 duffel/duffelref26.CheckCentral -/
def CF_ref26_CheckCentral (F_ref25_Known : Int → GH → (Bool → GH → Option β) → Option β) (F_ref25_Allowed : Int → GH → (Int → GH → Option β) → Option β) (F_ref26_list : Sl → GH → (Int → GH → Option β) → Option β) (F_ref22_Unpack : Int → Int → GH → (Int → Int → Int → Int → Int → Int → Int → GH → Option β) → Option β) : Orc β := fun f args h K => bif Nat.beq f 30 then (match args with | [.int .i64 p1] => F_ref25_Known p1 h (fun q2 h' => K (Value.bool q2) h') | _ => none) else (bif Nat.beq f 31 then (match args with | [.int .i64 p1] => F_ref25_Allowed p1 h (fun q2 h' => K (Value.int .i64 q2) h') | _ => none) else (bif Nat.beq f 32 then (match args with | [.slice p1a p1n p1c] => F_ref26_list ⟨p1a, p1n, p1c⟩ h (fun q14 h' => K (Value.int .i64 q14) h') | _ => none) else (bif Nat.beq f 33 then (match args with | [.int .i64 p1, .int .i64 p2] => F_ref22_Unpack p1 p2 h (fun q64 q65 q66 q67 q68 q69 q70 h' => K (Value.tuple #[Value.agg #[Value.int .i64 q64, Value.int .i64 q65, Value.int .i64 q66, Value.int .i64 q67, Value.int .i64 q68, Value.int .i64 q69], Value.int .i64 q70]) h') | _ => none) else none)))
def HF_ref26_CheckCentral : Hints := ⟨[(4, [1, 3, 4, 5], [(0, [(1, .ty 15), (3, .ty 15)])], some [(2, .ty 3)])], [], []⟩
noncomputable def BF_ref26_CheckCentral : Code := match Try.f10.body with | some c => c | none => .skip
noncomputable def F_ref26_CheckCentral_l0 (F_ref25_Known : Int → GH → (Bool → GH → Option β) → Option β) (F_ref25_Allowed : Int → GH → (Int → GH → Option β) → Option β) (F_ref26_list : Sl → GH → (Int → GH → Option β) → Option β) (F_ref22_Unpack : Int → Int → GH → (Int → Int → Int → Int → Int → Int → Int → GH → Option β) → Option β) (R : Nat) (n : Nat) (y42 : Option Addr) (y43 : Option Addr) (y44 : Sl) (y45 : Int) (h : GH) (K0 : Option Addr → Option Addr → GH → Option β) (Kr : Int → GH → Option β) : Option β := gloop (gcode Try.prog (CF_ref26_CheckCentral F_ref25_Known F_ref25_Allowed F_ref26_list F_ref22_Unpack) Try.f10.ntmps HF_ref26_CheckCentral R (at_ [true, true, true, false, true, false, false] BF_ref26_CheckCentral)) [1, 3, 4, 5] n [(1, Value.pointer y42), (3, Value.pointer y43), (4, Value.slice y44.a y44.n y44.c), (5, Value.int .i64 y45)] h (fun i e' h' => bif Nat.beq i 0 then (exP (some (e'.get 1)) fun u378 => exP (some (e'.get 3)) fun u379 => K0 u378 u379 h') else none) (fun e' h' => exI .i64 (some (e'.get 2)) fun u380 => Kr u380 h')
set_option maxRecDepth 100000 in
theorem F_ref26_CheckCentral_l0_succ (F_ref25_Known : Int → GH → (Bool → GH → Option β) → Option β) (F_ref25_Allowed : Int → GH → (Int → GH → Option β) → Option β) (F_ref26_list : Sl → GH → (Int → GH → Option β) → Option β) (F_ref22_Unpack : Int → Int → GH → (Int → Int → Int → Int → Int → Int → Int → GH → Option β) → Option β) (R : Nat) (n : Nat) (y42 : Option Addr) (y43 : Option Addr) (y44 : Sl) (y45 : Int) (h : GH) (K0 : Option Addr → Option Addr → GH → Option β) (Kr : Int → GH → Option β) : F_ref26_CheckCentral_l0 F_ref25_Known F_ref25_Allowed F_ref26_list F_ref22_Unpack R (n + 1) y42 y43 y44 y45 h K0 Kr =
    (bif decide (y45 < ((y44.n : Nat) : Int)) then exA y44.a fun g49 o50 => within y45 y44.n (exI .i64 (h.cell ⟨g49, o50 + y45.toNat * 1, none⟩) fun x51 => (bif decide (x51 < 0) then Kr 18 h else exA y44.a fun g52 o53 => within y45 y44.n (exI .i64 (h.cell ⟨g52, o53 + y45.toNat * 1, none⟩) fun x54 => (bif decide (x54 > 65535) then Kr 18 h else F_ref26_CheckCentral_l0 F_ref25_Known F_ref25_Allowed F_ref26_list F_ref22_Unpack R n y42 y43 y44 (IntKind.wrap .i64 (y45 + 1)) h K0 Kr)))) else K0 y42 y43 h) := by kernel_rfl
noncomputable def G_ref26_CheckCentral (F_ref25_Known : Int → GH → (Bool → GH → Option β) → Option β) (F_ref25_Allowed : Int → GH → (Int → GH → Option β) → Option β) (F_ref26_list : Sl → GH → (Int → GH → Option β) → Option β) (F_ref22_Unpack : Int → Int → GH → (Int → Int → Int → Int → Int → Int → Int → GH → Option β) → Option β) (R : Nat) (a1 : Int) (a2 : Int) (a3 : Int) (a4 : Int) (a5 : Int) (a6 : Int) (a7 : Int) (a8 : Int) (a9 : Sl) (a10 : Sl) (a11 : Int) (a12 : Int) (a13 : Int) (a14 : Int) (a15 : Int) (a16 : Sl) (h : GH) (K : Int → GH → Option β) : Option β := gfun Try.prog (CF_ref26_CheckCentral F_ref25_Known F_ref25_Allowed F_ref26_list F_ref22_Unpack) HF_ref26_CheckCentral R Try.f10 [Value.agg #[Value.int .i64 a1, Value.int .i64 a2, Value.int .i64 a3, Value.int .i64 a4, Value.int .i64 a5, Value.int .u32 a6, Value.int .u32 a7, Value.int .u32 a8, Value.slice a9.a a9.n a9.c, Value.slice a10.a a10.n a10.c, Value.int .i64 a11, Value.int .i64 a12, Value.int .i64 a13, Value.int .u32 a14, Value.int .u32 a15, Value.slice a16.a a16.n a16.c]] h (fun v h' => exI .i64 (some v) fun u381 => K u381 h')
set_option maxRecDepth 100000 in
theorem F_ref26_CheckCentral_gen (F_ref25_Known : Int → GH → (Bool → GH → Option β) → Option β) (F_ref25_Allowed : Int → GH → (Int → GH → Option β) → Option β) (F_ref26_list : Sl → GH → (Int → GH → Option β) → Option β) (F_ref22_Unpack : Int → Int → GH → (Int → Int → Int → Int → Int → Int → Int → GH → Option β) → Option β) (R : Nat) (a1 : Int) (a2 : Int) (a3 : Int) (a4 : Int) (a5 : Int) (a6 : Int) (a7 : Int) (a8 : Int) (a9 : Sl) (a10 : Sl) (a11 : Int) (a12 : Int) (a13 : Int) (a14 : Int) (a15 : Int) (a16 : Sl) (h : GH) (K : Int → GH → Option β) : G_ref26_CheckCentral F_ref25_Known F_ref25_Allowed F_ref26_list F_ref22_Unpack R a1 a2 a3 a4 a5 a6 a7 a8 a9 a10 a11 a12 a13 a14 a15 a16 h K =
    gnew [Value.int .i64 a1, Value.int .i64 a2, Value.int .i64 a3, Value.int .i64 a4, Value.int .i64 a5, Value.int .u32 a6, Value.int .u32 a7, Value.int .u32 a8, Value.slice a9.a a9.n a9.c, Value.slice a10.a a10.n a10.c, Value.int .i64 a11, Value.int .i64 a12, Value.int .i64 a13, Value.int .u32 a14, Value.int .u32 a15, Value.slice a16.a a16.n a16.c] 0 h fun g17 h18 => exI .i64 (h18.cell ⟨g17, 0 + 0, none⟩) fun x19 => exI .i64 (h18.cell ⟨g17, 0 + 0 + 1, none⟩) fun x20 => exI .i64 (h18.cell ⟨g17, 0 + 0 + 1 + 1, none⟩) fun x21 => exI .i64 (h18.cell ⟨g17, 0 + 0 + 1 + 1 + 1, none⟩) fun x22 => exI .i64 (h18.cell ⟨g17, 0 + 0 + 1 + 1 + 1 + 1, none⟩) fun x23 => exI .u32 (h18.cell ⟨g17, 0 + 0 + 1 + 1 + 1 + 1 + 1, none⟩) fun x24 => exI .u32 (h18.cell ⟨g17, 0 + 0 + 1 + 1 + 1 + 1 + 1 + 1, none⟩) fun x25 => exI .u32 (h18.cell ⟨g17, 0 + 0 + 1 + 1 + 1 + 1 + 1 + 1 + 1, none⟩) fun x26 => exS (h18.cell ⟨g17, 0 + 0 + 1 + 1 + 1 + 1 + 1 + 1 + 1 + 1, none⟩) fun x27 => exS (h18.cell ⟨g17, 0 + 0 + 1 + 1 + 1 + 1 + 1 + 1 + 1 + 1 + 1, none⟩) fun x28 => gnew [Value.int .i64 0, Value.int .i64 0, Value.int .i64 0, Value.int .i64 0, Value.int .i64 0, Value.int .u32 0, Value.int .u32 0, Value.int .u32 0, Value.slice none 0 0, Value.slice none 0 0] 0 h18 fun g29 h30 => gput g29 (0) [Value.int .i64 x19, Value.int .i64 x20, Value.int .i64 x21, Value.int .i64 x22, Value.int .i64 x23, Value.int .u32 x24, Value.int .u32 x25, Value.int .u32 x26, Value.slice x27.a x27.n x27.c, Value.slice x28.a x28.n x28.c] h30 fun h31 => exI .i64 (h31.cell ⟨g29, 0 + 0, none⟩) fun x32 => exI .i64 (h31.cell ⟨g29, 0 + 1, none⟩) fun x33 => exI .i64 (h31.cell ⟨g29, 0 + 2, none⟩) fun x34 => exI .i64 (h31.cell ⟨g29, 0 + 3, none⟩) fun x35 => exI .i64 (h31.cell ⟨g29, 0 + 4, none⟩) fun x36 => exI .i64 (h31.cell ⟨g17, 0 + 10, none⟩) fun x37 => exI .i64 (h31.cell ⟨g17, 0 + 11, none⟩) fun x38 => exI .i64 (h31.cell ⟨g17, 0 + 12, none⟩) fun x39 => gnew [Value.int .i64 x32, Value.int .i64 x33, Value.int .i64 x34, Value.int .i64 x35, Value.int .i64 x36, Value.int .i64 x37, Value.int .i64 x38, Value.int .i64 x39] 1 h31 fun g40 h41 => F_ref26_CheckCentral_l0 F_ref25_Known F_ref25_Allowed F_ref26_list F_ref22_Unpack R R (some ⟨g17, 0, none⟩) (some ⟨g29, 0, none⟩) ⟨(some ⟨g40, 0, none⟩), 8, 8⟩ 0 h41 (fun w55 w56 h57 => exA w55 fun g58 o59 => exI .i64 (h57.cell ⟨g58, o59 + 11, none⟩) fun x60 => (bif x60 != 0 then K 12 h57 else exA w56 fun g61 o62 => exI .u32 (h57.cell ⟨g61, o62 + 6, none⟩) fun x63 => (bif x63 == 4294967295 then K 12 h57 else exA w56 fun g64 o65 => exI .u32 (h57.cell ⟨g64, o65 + 7, none⟩) fun x66 => (bif x66 == 4294967295 then K 12 h57 else exA w55 fun g67 o68 => exI .u32 (h57.cell ⟨g67, o68 + 14, none⟩) fun x69 => (bif x69 == 4294967295 then K 12 h57 else exA w56 fun g70 o71 => exI .i64 (h57.cell ⟨g70, o71 + 2, none⟩) fun x72 => F_ref25_Known x72 h57 fun r73 h74 => (bif !r73 then K 11 h74 else exA w56 fun g75 o76 => exI .i64 (h74.cell ⟨g75, o76 + 1, none⟩) fun x77 => exA w56 fun g78 o79 => exI .i64 (h74.cell ⟨g78, o79 + 2, none⟩) fun x80 => F_ref25_Allowed x80 h74 fun r81 h82 => (bif r81 == 6 then exA w56 fun g83 o84 => exI .i64 (h82.cell ⟨g83, o84 + 1, none⟩) fun x85 => (bif x85 == 0 then exA w56 fun g86 o87 => exI .i64 (h82.cell ⟨g86, o87 + 0, none⟩) fun x88 => (bif decide (x88 > 21) then K 12 h82 else exA w56 fun g89 o90 => exI .i64 (h82.cell ⟨g89, o90 + 2, none⟩) fun x91 => (bif x91 == 0 then exA w56 fun g92 o93 => exI .u32 (h82.cell ⟨g92, o93 + 6, none⟩) fun x94 => exA w56 fun g95 o96 => exI .u32 (h82.cell ⟨g95, o96 + 7, none⟩) fun x97 => (bif x94 != x97 then K 9 h82 else exA w56 fun g98 o99 => exS (h82.cell ⟨g98, o99 + 9, none⟩) fun x100 => F_ref26_list x100 h82 fun r101 h102 => (bif r101 != 0 then K r101 h102 else exA w56 fun g103 o104 => exI .i64 (h102.cell ⟨g103, o104 + 3, none⟩) fun x105 => exA w56 fun g106 o107 => exI .i64 (h102.cell ⟨g106, o107 + 4, none⟩) fun x108 => F_ref22_Unpack x105 x108 h102 fun r109 r110 r111 r112 r113 r114 r115 h116 => gnew [Value.int .i64 0, Value.int .i64 0, Value.int .i64 0, Value.int .i64 0, Value.int .i64 0, Value.int .i64 0] 0 h116 fun g117 h118 => gput g117 (0) [Value.int .i64 r109, Value.int .i64 r110, Value.int .i64 r111, Value.int .i64 r112, Value.int .i64 r113, Value.int .i64 r114] h118 fun h119 => K r115 h119)) else exA w56 fun g120 o121 => exS (h82.cell ⟨g120, o121 + 9, none⟩) fun x122 => F_ref26_list x122 h82 fun r123 h124 => (bif r123 != 0 then K r123 h124 else exA w56 fun g125 o126 => exI .i64 (h124.cell ⟨g125, o126 + 3, none⟩) fun x127 => exA w56 fun g128 o129 => exI .i64 (h124.cell ⟨g128, o129 + 4, none⟩) fun x130 => F_ref22_Unpack x127 x130 h124 fun r131 r132 r133 r134 r135 r136 r137 h138 => gnew [Value.int .i64 0, Value.int .i64 0, Value.int .i64 0, Value.int .i64 0, Value.int .i64 0, Value.int .i64 0] 0 h138 fun g139 h140 => gput g139 (0) [Value.int .i64 r131, Value.int .i64 r132, Value.int .i64 r133, Value.int .i64 r134, Value.int .i64 r135, Value.int .i64 r136] h140 fun h141 => K r137 h141))) else exA w56 fun g142 o143 => exI .i64 (h82.cell ⟨g142, o143 + 1, none⟩) fun x144 => (bif x144 == 2 then exA w56 fun g145 o146 => exI .i64 (h82.cell ⟨g145, o146 + 0, none⟩) fun x147 => (bif decide (x147 > 21) then K 12 h82 else exA w56 fun g148 o149 => exI .i64 (h82.cell ⟨g148, o149 + 2, none⟩) fun x150 => (bif x150 == 0 then exA w56 fun g151 o152 => exI .u32 (h82.cell ⟨g151, o152 + 6, none⟩) fun x153 => exA w56 fun g154 o155 => exI .u32 (h82.cell ⟨g154, o155 + 7, none⟩) fun x156 => (bif x153 != x156 then K 9 h82 else exA w56 fun g157 o158 => exS (h82.cell ⟨g157, o158 + 9, none⟩) fun x159 => F_ref26_list x159 h82 fun r160 h161 => (bif r160 != 0 then K r160 h161 else exA w56 fun g162 o163 => exI .i64 (h161.cell ⟨g162, o163 + 3, none⟩) fun x164 => exA w56 fun g165 o166 => exI .i64 (h161.cell ⟨g165, o166 + 4, none⟩) fun x167 => F_ref22_Unpack x164 x167 h161 fun r168 r169 r170 r171 r172 r173 r174 h175 => gnew [Value.int .i64 0, Value.int .i64 0, Value.int .i64 0, Value.int .i64 0, Value.int .i64 0, Value.int .i64 0] 0 h175 fun g176 h177 => gput g176 (0) [Value.int .i64 r168, Value.int .i64 r169, Value.int .i64 r170, Value.int .i64 r171, Value.int .i64 r172, Value.int .i64 r173] h177 fun h178 => K r174 h178)) else exA w56 fun g179 o180 => exS (h82.cell ⟨g179, o180 + 9, none⟩) fun x181 => F_ref26_list x181 h82 fun r182 h183 => (bif r182 != 0 then K r182 h183 else exA w56 fun g184 o185 => exI .i64 (h183.cell ⟨g184, o185 + 3, none⟩) fun x186 => exA w56 fun g187 o188 => exI .i64 (h183.cell ⟨g187, o188 + 4, none⟩) fun x189 => F_ref22_Unpack x186 x189 h183 fun r190 r191 r192 r193 r194 r195 r196 h197 => gnew [Value.int .i64 0, Value.int .i64 0, Value.int .i64 0, Value.int .i64 0, Value.int .i64 0, Value.int .i64 0] 0 h197 fun g198 h199 => gput g198 (0) [Value.int .i64 r190, Value.int .i64 r191, Value.int .i64 r192, Value.int .i64 r193, Value.int .i64 r194, Value.int .i64 r195] h199 fun h200 => K r196 h200))) else exA w56 fun g201 o202 => exI .i64 (h82.cell ⟨g201, o202 + 1, none⟩) fun x203 => (bif x203 == 4 then exA w56 fun g204 o205 => exI .i64 (h82.cell ⟨g204, o205 + 0, none⟩) fun x206 => (bif decide (x206 > 21) then K 12 h82 else exA w56 fun g207 o208 => exI .i64 (h82.cell ⟨g207, o208 + 2, none⟩) fun x209 => (bif x209 == 0 then exA w56 fun g210 o211 => exI .u32 (h82.cell ⟨g210, o211 + 6, none⟩) fun x212 => exA w56 fun g213 o214 => exI .u32 (h82.cell ⟨g213, o214 + 7, none⟩) fun x215 => (bif x212 != x215 then K 9 h82 else exA w56 fun g216 o217 => exS (h82.cell ⟨g216, o217 + 9, none⟩) fun x218 => F_ref26_list x218 h82 fun r219 h220 => (bif r219 != 0 then K r219 h220 else exA w56 fun g221 o222 => exI .i64 (h220.cell ⟨g221, o222 + 3, none⟩) fun x223 => exA w56 fun g224 o225 => exI .i64 (h220.cell ⟨g224, o225 + 4, none⟩) fun x226 => F_ref22_Unpack x223 x226 h220 fun r227 r228 r229 r230 r231 r232 r233 h234 => gnew [Value.int .i64 0, Value.int .i64 0, Value.int .i64 0, Value.int .i64 0, Value.int .i64 0, Value.int .i64 0] 0 h234 fun g235 h236 => gput g235 (0) [Value.int .i64 r227, Value.int .i64 r228, Value.int .i64 r229, Value.int .i64 r230, Value.int .i64 r231, Value.int .i64 r232] h236 fun h237 => K r233 h237)) else exA w56 fun g238 o239 => exS (h82.cell ⟨g238, o239 + 9, none⟩) fun x240 => F_ref26_list x240 h82 fun r241 h242 => (bif r241 != 0 then K r241 h242 else exA w56 fun g243 o244 => exI .i64 (h242.cell ⟨g243, o244 + 3, none⟩) fun x245 => exA w56 fun g246 o247 => exI .i64 (h242.cell ⟨g246, o247 + 4, none⟩) fun x248 => F_ref22_Unpack x245 x248 h242 fun r249 r250 r251 r252 r253 r254 r255 h256 => gnew [Value.int .i64 0, Value.int .i64 0, Value.int .i64 0, Value.int .i64 0, Value.int .i64 0, Value.int .i64 0] 0 h256 fun g257 h258 => gput g257 (0) [Value.int .i64 r249, Value.int .i64 r250, Value.int .i64 r251, Value.int .i64 r252, Value.int .i64 r253, Value.int .i64 r254] h258 fun h259 => K r255 h259))) else exA w56 fun g260 o261 => exI .i64 (h82.cell ⟨g260, o261 + 1, none⟩) fun x262 => (bif !(x262 == 6) then K 12 h82 else exA w56 fun g263 o264 => exI .i64 (h82.cell ⟨g263, o264 + 0, none⟩) fun x265 => (bif decide (x265 > 21) then K 12 h82 else exA w56 fun g266 o267 => exI .i64 (h82.cell ⟨g266, o267 + 2, none⟩) fun x268 => (bif x268 == 0 then exA w56 fun g269 o270 => exI .u32 (h82.cell ⟨g269, o270 + 6, none⟩) fun x271 => exA w56 fun g272 o273 => exI .u32 (h82.cell ⟨g272, o273 + 7, none⟩) fun x274 => (bif x271 != x274 then K 9 h82 else exA w56 fun g275 o276 => exS (h82.cell ⟨g275, o276 + 9, none⟩) fun x277 => F_ref26_list x277 h82 fun r278 h279 => (bif r278 != 0 then K r278 h279 else exA w56 fun g280 o281 => exI .i64 (h279.cell ⟨g280, o281 + 3, none⟩) fun x282 => exA w56 fun g283 o284 => exI .i64 (h279.cell ⟨g283, o284 + 4, none⟩) fun x285 => F_ref22_Unpack x282 x285 h279 fun r286 r287 r288 r289 r290 r291 r292 h293 => gnew [Value.int .i64 0, Value.int .i64 0, Value.int .i64 0, Value.int .i64 0, Value.int .i64 0, Value.int .i64 0] 0 h293 fun g294 h295 => gput g294 (0) [Value.int .i64 r286, Value.int .i64 r287, Value.int .i64 r288, Value.int .i64 r289, Value.int .i64 r290, Value.int .i64 r291] h295 fun h296 => K r292 h296)) else exA w56 fun g297 o298 => exS (h82.cell ⟨g297, o298 + 9, none⟩) fun x299 => F_ref26_list x299 h82 fun r300 h301 => (bif r300 != 0 then K r300 h301 else exA w56 fun g302 o303 => exI .i64 (h301.cell ⟨g302, o303 + 3, none⟩) fun x304 => exA w56 fun g305 o306 => exI .i64 (h301.cell ⟨g305, o306 + 4, none⟩) fun x307 => F_ref22_Unpack x304 x307 h301 fun r308 r309 r310 r311 r312 r313 r314 h315 => gnew [Value.int .i64 0, Value.int .i64 0, Value.int .i64 0, Value.int .i64 0, Value.int .i64 0, Value.int .i64 0] 0 h315 fun g316 h317 => gput g316 (0) [Value.int .i64 r308, Value.int .i64 r309, Value.int .i64 r310, Value.int .i64 r311, Value.int .i64 r312, Value.int .i64 r313] h317 fun h318 => K r314 h318))))))) else (bif !(x77 == 0) then K 12 h82 else exA w56 fun g319 o320 => exI .i64 (h82.cell ⟨g319, o320 + 0, none⟩) fun x321 => (bif decide (x321 > 21) then K 12 h82 else exA w56 fun g322 o323 => exI .i64 (h82.cell ⟨g322, o323 + 2, none⟩) fun x324 => (bif x324 == 0 then exA w56 fun g325 o326 => exI .u32 (h82.cell ⟨g325, o326 + 6, none⟩) fun x327 => exA w56 fun g328 o329 => exI .u32 (h82.cell ⟨g328, o329 + 7, none⟩) fun x330 => (bif x327 != x330 then K 9 h82 else exA w56 fun g331 o332 => exS (h82.cell ⟨g331, o332 + 9, none⟩) fun x333 => F_ref26_list x333 h82 fun r334 h335 => (bif r334 != 0 then K r334 h335 else exA w56 fun g336 o337 => exI .i64 (h335.cell ⟨g336, o337 + 3, none⟩) fun x338 => exA w56 fun g339 o340 => exI .i64 (h335.cell ⟨g339, o340 + 4, none⟩) fun x341 => F_ref22_Unpack x338 x341 h335 fun r342 r343 r344 r345 r346 r347 r348 h349 => gnew [Value.int .i64 0, Value.int .i64 0, Value.int .i64 0, Value.int .i64 0, Value.int .i64 0, Value.int .i64 0] 0 h349 fun g350 h351 => gput g350 (0) [Value.int .i64 r342, Value.int .i64 r343, Value.int .i64 r344, Value.int .i64 r345, Value.int .i64 r346, Value.int .i64 r347] h351 fun h352 => K r348 h352)) else exA w56 fun g353 o354 => exS (h82.cell ⟨g353, o354 + 9, none⟩) fun x355 => F_ref26_list x355 h82 fun r356 h357 => (bif r356 != 0 then K r356 h357 else exA w56 fun g358 o359 => exI .i64 (h357.cell ⟨g358, o359 + 3, none⟩) fun x360 => exA w56 fun g361 o362 => exI .i64 (h357.cell ⟨g361, o362 + 4, none⟩) fun x363 => F_ref22_Unpack x360 x363 h357 fun r364 r365 r366 r367 r368 r369 r370 h371 => gnew [Value.int .i64 0, Value.int .i64 0, Value.int .i64 0, Value.int .i64 0, Value.int .i64 0, Value.int .i64 0] 0 h371 fun g372 h373 => gput g372 (0) [Value.int .i64 r364, Value.int .i64 r365, Value.int .i64 r366, Value.int .i64 r367, Value.int .i64 r368, Value.int .i64 r369] h373 fun h374 => K r370 h374))))))))))) (fun w375 h376 => K w375 h376) := by kernel_rfl
noncomputable def F_ref26_CheckCentral (R : Nat) (a1 : Int) (a2 : Int) (a3 : Int) (a4 : Int) (a5 : Int) (a6 : Int) (a7 : Int) (a8 : Int) (a9 : Sl) (a10 : Sl) (a11 : Int) (a12 : Int) (a13 : Int) (a14 : Int) (a15 : Int) (a16 : Sl) (h : GH) (K : Int → GH → Option β) : Option β := G_ref26_CheckCentral (F_ref25_Known R) (F_ref25_Allowed R) (F_ref26_list R) (F_ref22_Unpack R) R a1 a2 a3 a4 a5 a6 a7 a8 a9 a10 a11 a12 a13 a14 a15 a16 h K
set_option maxRecDepth 100000 in
theorem CF_ref26_CheckCentral_sim {R : Nat} : SimOrc Try.prog (CF_ref26_CheckCentral (F_ref25_Known R) (F_ref25_Allowed R) (F_ref26_list R) (F_ref22_Unpack R) (β := β)) := by
  intro f args h K r hc
  unfold CF_ref26_CheckCentral at hc
  cases hb : Nat.beq f 30 with
  | true =>
    rw [hb] at hc
    simp only [cond_true] at hc
    obtain rfl := Nat.eq_of_beq_eq_true hb
    split at hc
    · exact any_call (F_ref25_Known_sim (K := K) hc)
    · cases hc
  | false =>
  rw [hb] at hc
  simp only [cond_false] at hc
  cases hb : Nat.beq f 31 with
  | true =>
    rw [hb] at hc
    simp only [cond_true] at hc
    obtain rfl := Nat.eq_of_beq_eq_true hb
    split at hc
    · exact any_call (F_ref25_Allowed_sim (K := K) hc)
    · cases hc
  | false =>
  rw [hb] at hc
  simp only [cond_false] at hc
  cases hb : Nat.beq f 32 with
  | true =>
    rw [hb] at hc
    simp only [cond_true] at hc
    obtain rfl := Nat.eq_of_beq_eq_true hb
    split at hc
    · exact any_call (F_ref26_list_sim (K := K) hc)
    · cases hc
  | false =>
  rw [hb] at hc
  simp only [cond_false] at hc
  cases hb : Nat.beq f 33 with
  | true =>
    rw [hb] at hc
    simp only [cond_true] at hc
    obtain rfl := Nat.eq_of_beq_eq_true hb
    split at hc
    · exact any_call (F_ref22_Unpack_sim (K := K) hc)
    · cases hc
  | false =>
  rw [hb] at hc
  simp only [cond_false] at hc
  cases hc
set_option maxRecDepth 100000 in
theorem F_ref26_CheckCentral_sim {R : Nat} {r : β} {a1 : Int} {a2 : Int} {a3 : Int} {a4 : Int} {a5 : Int} {a6 : Int} {a7 : Int} {a8 : Int} {a9 : Sl} {a10 : Sl} {a11 : Int} {a12 : Int} {a13 : Int} {a14 : Int} {a15 : Int} {a16 : Sl} {h : GH} {K : Value → GH → Option β} (hc : F_ref26_CheckCentral R a1 a2 a3 a4 a5 a6 a7 a8 a9 a10 a11 a12 a13 a14 a15 a16 h (fun q0 h' => K (Value.int .i64 q0) h') = some r) : ∃ v h', K v h' = some r ∧ CallSim Try.prog 10 [Value.agg #[Value.int .i64 a1, Value.int .i64 a2, Value.int .i64 a3, Value.int .i64 a4, Value.int .i64 a5, Value.int .u32 a6, Value.int .u32 a7, Value.int .u32 a8, Value.slice a9.a a9.n a9.c, Value.slice a10.a a10.n a10.c, Value.int .i64 a11, Value.int .i64 a12, Value.int .i64 a13, Value.int .u32 a14, Value.int .u32 a15, Value.slice a16.a a16.n a16.c]] h v h' := by
  unfold F_ref26_CheckCentral G_ref26_CheckCentral at hc
  obtain ⟨v, h', hk, hs⟩ := gfun_sim (CF_ref26_CheckCentral_sim (R := R)) mixed_ok (fun f h => by cases h) Try.func10 (by kernel_rfl) hc
  obtain ⟨u0, e0, hk⟩ := exI_v hk; cases e0
  exact ⟨_, h', hk, hs⟩
/-! F40 duffel/duffelref26.heads -/
def CF_ref26_heads (F_ref24_ReadCentral : Option Addr → GH → (Int → Int → Int → Int → Int → Int → Int → Int → Sl → Sl → Int → Int → Int → Int → Int → Sl → Int → GH → Option β) → Option β) (F_ref02_Cursor_Left : Option Addr → GH → (Int → GH → Option β) → Option β) (F_ref26_CheckCentral : Int → Int → Int → Int → Int → Int → Int → Int → Sl → Sl → Int → Int → Int → Int → Int → Sl → GH → (Int → GH → Option β) → Option β) : Orc β := fun f args h K => bif Nat.beq f 69 then (match args with | [.pointer p1] => F_ref24_ReadCentral p1 h (fun q150 q151 q152 q153 q154 q155 q156 q157 q158 q159 q160 q161 q162 q163 q164 q165 q166 h' => K (Value.tuple #[Value.agg #[Value.int .i64 q150, Value.int .i64 q151, Value.int .i64 q152, Value.int .i64 q153, Value.int .i64 q154, Value.int .u32 q155, Value.int .u32 q156, Value.int .u32 q157, Value.slice q158.a q158.n q158.c, Value.slice q159.a q159.n q159.c, Value.int .i64 q160, Value.int .i64 q161, Value.int .i64 q162, Value.int .u32 q163, Value.int .u32 q164, Value.slice q165.a q165.n q165.c], Value.int .i64 q166]) h') | _ => none) else (bif Nat.beq f 42 then (match args with | [.pointer p1] => F_ref02_Cursor_Left p1 h (fun q11 h' => K (Value.int .i64 q11) h') | _ => none) else (bif Nat.beq f 10 then (match args with | [.agg ⟨[.int .i64 p1, .int .i64 p2, .int .i64 p3, .int .i64 p4, .int .i64 p5, .int .u32 p6, .int .u32 p7, .int .u32 p8, .slice p9a p9n p9c, .slice p10a p10n p10c, .int .i64 p11, .int .i64 p12, .int .i64 p13, .int .u32 p14, .int .u32 p15, .slice p16a p16n p16c]⟩] => F_ref26_CheckCentral p1 p2 p3 p4 p5 p6 p7 p8 ⟨p9a, p9n, p9c⟩ ⟨p10a, p10n, p10c⟩ p11 p12 p13 p14 p15 ⟨p16a, p16n, p16c⟩ h (fun q377 h' => K (Value.int .i64 q377) h') | _ => none) else none))
def HF_ref26_heads : Hints := ⟨[(4, [1, 6, 7, 8], [(0, [(6, .ty 85), (7, .ty 88)])], some [(4, .ty 85), (5, .ty 3)]), (13, [6, 11], [(2, [(6, .ty 85)])], some [(4, .ty 85), (5, .ty 3)])], [], []⟩
noncomputable def BF_ref26_heads : Code := match Try.f40.body with | some c => c | none => .skip
noncomputable def F_ref26_heads_l0 (F_ref24_ReadCentral : Option Addr → GH → (Int → Int → Int → Int → Int → Int → Int → Int → Sl → Sl → Int → Int → Int → Int → Int → Sl → Int → GH → Option β) → Option β) (F_ref02_Cursor_Left : Option Addr → GH → (Int → GH → Option β) → Option β) (F_ref26_CheckCentral : Int → Int → Int → Int → Int → Int → Int → Int → Sl → Sl → Int → Int → Int → Int → Int → Sl → GH → (Int → GH → Option β) → Option β) (R : Nat) (n : Nat) (y5 : Int) (y6 : Sl) (y7 : Option Addr) (y8 : Int) (h : GH) (K0 : Sl → Option Addr → GH → Option β) (Kr : Sl → Int → GH → Option β) : Option β := gloop (gcode Try.prog (CF_ref26_heads F_ref24_ReadCentral F_ref02_Cursor_Left F_ref26_CheckCentral) Try.f40.ntmps HF_ref26_heads R (at_ [true, true, true, false, true, false, false] BF_ref26_heads)) [1, 6, 7, 8] n [(1, Value.int .i64 y5), (6, Value.slice y6.a y6.n y6.c), (7, Value.pointer y7), (8, Value.int .i64 y8)] h (fun i e' h' => bif Nat.beq i 0 then (exS (some (e'.get 6)) fun u94 => exP (some (e'.get 7)) fun u95 => K0 u94 u95 h') else none) (fun e' h' => exS (some (e'.get 4)) fun u96 => exI .i64 (some (e'.get 5)) fun u97 => Kr u96 u97 h')
noncomputable def F_ref26_heads_l1 (F_ref24_ReadCentral : Option Addr → GH → (Int → Int → Int → Int → Int → Int → Int → Int → Sl → Sl → Int → Int → Int → Int → Int → Sl → Int → GH → Option β) → Option β) (F_ref02_Cursor_Left : Option Addr → GH → (Int → GH → Option β) → Option β) (F_ref26_CheckCentral : Int → Int → Int → Int → Int → Int → Int → Int → Sl → Sl → Int → Int → Int → Int → Int → Sl → GH → (Int → GH → Option β) → Option β) (R : Nat) (n : Nat) (y59 : Sl) (y60 : Int) (h : GH) (K2 : Sl → GH → Option β) (Kr : Sl → Int → GH → Option β) : Option β := gloop (gcode Try.prog (CF_ref26_heads F_ref24_ReadCentral F_ref02_Cursor_Left F_ref26_CheckCentral) Try.f40.ntmps HF_ref26_heads R (at_ [true, true, true, true, true, false, true, false, false] BF_ref26_heads)) [6, 11] n [(6, Value.slice y59.a y59.n y59.c), (11, Value.int .i64 y60)] h (fun i e' h' => bif Nat.beq i 2 then (exS (some (e'.get 6)) fun u98 => K2 u98 h') else none) (fun e' h' => exS (some (e'.get 4)) fun u99 => exI .i64 (some (e'.get 5)) fun u100 => Kr u99 u100 h')
set_option maxRecDepth 100000 in
theorem F_ref26_heads_l1_succ (F_ref24_ReadCentral : Option Addr → GH → (Int → Int → Int → Int → Int → Int → Int → Int → Sl → Sl → Int → Int → Int → Int → Int → Sl → Int → GH → Option β) → Option β) (F_ref02_Cursor_Left : Option Addr → GH → (Int → GH → Option β) → Option β) (F_ref26_CheckCentral : Int → Int → Int → Int → Int → Int → Int → Int → Sl → Sl → Int → Int → Int → Int → Int → Sl → GH → (Int → GH → Option β) → Option β) (R : Nat) (n : Nat) (y59 : Sl) (y60 : Int) (h : GH) (K2 : Sl → GH → Option β) (Kr : Sl → Int → GH → Option β) : F_ref26_heads_l1 F_ref24_ReadCentral F_ref02_Cursor_Left F_ref26_CheckCentral R (n + 1) y59 y60 h K2 Kr =
    (bif decide (y60 < ((y59.n : Nat) : Int)) then exA y59.a fun g64 o65 => within y60 y59.n (exI .i64 (h.cell ⟨g64, o65 + y60.toNat * 16, none⟩) fun x66 => exI .i64 (h.cell ⟨g64, o65 + y60.toNat * 16 + 1, none⟩) fun x67 => exI .i64 (h.cell ⟨g64, o65 + y60.toNat * 16 + 1 + 1, none⟩) fun x68 => exI .i64 (h.cell ⟨g64, o65 + y60.toNat * 16 + 1 + 1 + 1, none⟩) fun x69 => exI .i64 (h.cell ⟨g64, o65 + y60.toNat * 16 + 1 + 1 + 1 + 1, none⟩) fun x70 => exI .u32 (h.cell ⟨g64, o65 + y60.toNat * 16 + 1 + 1 + 1 + 1 + 1, none⟩) fun x71 => exI .u32 (h.cell ⟨g64, o65 + y60.toNat * 16 + 1 + 1 + 1 + 1 + 1 + 1, none⟩) fun x72 => exI .u32 (h.cell ⟨g64, o65 + y60.toNat * 16 + 1 + 1 + 1 + 1 + 1 + 1 + 1, none⟩) fun x73 => exS (h.cell ⟨g64, o65 + y60.toNat * 16 + 1 + 1 + 1 + 1 + 1 + 1 + 1 + 1, none⟩) fun x74 => exS (h.cell ⟨g64, o65 + y60.toNat * 16 + 1 + 1 + 1 + 1 + 1 + 1 + 1 + 1 + 1, none⟩) fun x75 => exI .i64 (h.cell ⟨g64, o65 + y60.toNat * 16 + 1 + 1 + 1 + 1 + 1 + 1 + 1 + 1 + 1 + 1, none⟩) fun x76 => exI .i64 (h.cell ⟨g64, o65 + y60.toNat * 16 + 1 + 1 + 1 + 1 + 1 + 1 + 1 + 1 + 1 + 1 + 1, none⟩) fun x77 => exI .i64 (h.cell ⟨g64, o65 + y60.toNat * 16 + 1 + 1 + 1 + 1 + 1 + 1 + 1 + 1 + 1 + 1 + 1 + 1, none⟩) fun x78 => exI .u32 (h.cell ⟨g64, o65 + y60.toNat * 16 + 1 + 1 + 1 + 1 + 1 + 1 + 1 + 1 + 1 + 1 + 1 + 1 + 1, none⟩) fun x79 => exI .u32 (h.cell ⟨g64, o65 + y60.toNat * 16 + 1 + 1 + 1 + 1 + 1 + 1 + 1 + 1 + 1 + 1 + 1 + 1 + 1 + 1, none⟩) fun x80 => exS (h.cell ⟨g64, o65 + y60.toNat * 16 + 1 + 1 + 1 + 1 + 1 + 1 + 1 + 1 + 1 + 1 + 1 + 1 + 1 + 1 + 1, none⟩) fun x81 => F_ref26_CheckCentral x66 x67 x68 x69 x70 x71 x72 x73 x74 x75 x76 x77 x78 x79 x80 x81 h fun r82 h83 => (bif r82 != 0 then Kr ⟨none, 0, 0⟩ r82 h83 else F_ref26_heads_l1 F_ref24_ReadCentral F_ref02_Cursor_Left F_ref26_CheckCentral R n y59 (IntKind.wrap .i64 (y60 + 1)) h83 K2 Kr)) else K2 y59 h) := by kernel_rfl
set_option maxRecDepth 100000 in
theorem F_ref26_heads_l0_succ (F_ref24_ReadCentral : Option Addr → GH → (Int → Int → Int → Int → Int → Int → Int → Int → Sl → Sl → Int → Int → Int → Int → Int → Sl → Int → GH → Option β) → Option β) (F_ref02_Cursor_Left : Option Addr → GH → (Int → GH → Option β) → Option β) (F_ref26_CheckCentral : Int → Int → Int → Int → Int → Int → Int → Int → Sl → Sl → Int → Int → Int → Int → Int → Sl → GH → (Int → GH → Option β) → Option β) (R : Nat) (n : Nat) (y5 : Int) (y6 : Sl) (y7 : Option Addr) (y8 : Int) (h : GH) (K0 : Sl → Option Addr → GH → Option β) (Kr : Sl → Int → GH → Option β) : F_ref26_heads_l0 F_ref24_ReadCentral F_ref02_Cursor_Left F_ref26_CheckCentral R (n + 1) y5 y6 y7 y8 h K0 Kr =
    (bif decide (y8 < y5) then F_ref24_ReadCentral y7 h fun r13 r14 r15 r16 r17 r18 r19 r20 r21 r22 r23 r24 r25 r26 r27 r28 r29 h30 => gnew [Value.int .i64 0, Value.int .i64 0, Value.int .i64 0, Value.int .i64 0, Value.int .i64 0, Value.int .u32 0, Value.int .u32 0, Value.int .u32 0, Value.slice none 0 0, Value.slice none 0 0, Value.int .i64 0, Value.int .i64 0, Value.int .i64 0, Value.int .u32 0, Value.int .u32 0, Value.slice none 0 0] 0 h30 fun g31 h32 => gput g31 (0) [Value.int .i64 r13, Value.int .i64 r14, Value.int .i64 r15, Value.int .i64 r16, Value.int .i64 r17, Value.int .u32 r18, Value.int .u32 r19, Value.int .u32 r20, Value.slice r21.a r21.n r21.c, Value.slice r22.a r22.n r22.c, Value.int .i64 r23, Value.int .i64 r24, Value.int .i64 r25, Value.int .u32 r26, Value.int .u32 r27, Value.slice r28.a r28.n r28.c] h32 fun h33 => (bif r29 != 0 then Kr ⟨none, 0, 0⟩ r29 h33 else exI .i64 (h33.cell ⟨g31, 0, none⟩) fun x34 => exI .i64 (h33.cell ⟨g31, 0 + 1, none⟩) fun x35 => exI .i64 (h33.cell ⟨g31, 0 + 1 + 1, none⟩) fun x36 => exI .i64 (h33.cell ⟨g31, 0 + 1 + 1 + 1, none⟩) fun x37 => exI .i64 (h33.cell ⟨g31, 0 + 1 + 1 + 1 + 1, none⟩) fun x38 => exI .u32 (h33.cell ⟨g31, 0 + 1 + 1 + 1 + 1 + 1, none⟩) fun x39 => exI .u32 (h33.cell ⟨g31, 0 + 1 + 1 + 1 + 1 + 1 + 1, none⟩) fun x40 => exI .u32 (h33.cell ⟨g31, 0 + 1 + 1 + 1 + 1 + 1 + 1 + 1, none⟩) fun x41 => exS (h33.cell ⟨g31, 0 + 1 + 1 + 1 + 1 + 1 + 1 + 1 + 1, none⟩) fun x42 => exS (h33.cell ⟨g31, 0 + 1 + 1 + 1 + 1 + 1 + 1 + 1 + 1 + 1, none⟩) fun x43 => exI .i64 (h33.cell ⟨g31, 0 + 1 + 1 + 1 + 1 + 1 + 1 + 1 + 1 + 1 + 1, none⟩) fun x44 => exI .i64 (h33.cell ⟨g31, 0 + 1 + 1 + 1 + 1 + 1 + 1 + 1 + 1 + 1 + 1 + 1, none⟩) fun x45 => exI .i64 (h33.cell ⟨g31, 0 + 1 + 1 + 1 + 1 + 1 + 1 + 1 + 1 + 1 + 1 + 1 + 1, none⟩) fun x46 => exI .u32 (h33.cell ⟨g31, 0 + 1 + 1 + 1 + 1 + 1 + 1 + 1 + 1 + 1 + 1 + 1 + 1 + 1, none⟩) fun x47 => exI .u32 (h33.cell ⟨g31, 0 + 1 + 1 + 1 + 1 + 1 + 1 + 1 + 1 + 1 + 1 + 1 + 1 + 1 + 1, none⟩) fun x48 => exS (h33.cell ⟨g31, 0 + 1 + 1 + 1 + 1 + 1 + 1 + 1 + 1 + 1 + 1 + 1 + 1 + 1 + 1 + 1, none⟩) fun x49 => gnew [Value.int .i64 x34, Value.int .i64 x35, Value.int .i64 x36, Value.int .i64 x37, Value.int .i64 x38, Value.int .u32 x39, Value.int .u32 x40, Value.int .u32 x41, Value.slice x42.a x42.n x42.c, Value.slice x43.a x43.n x43.c, Value.int .i64 x44, Value.int .i64 x45, Value.int .i64 x46, Value.int .u32 x47, Value.int .u32 x48, Value.slice x49.a x49.n x49.c] 16 h33 fun g50 h51 => gappS 16 160 y6 ⟨(some ⟨g50, 0, none⟩), 1, 1⟩ h51 fun s52 h53 => F_ref26_heads_l0 F_ref24_ReadCentral F_ref02_Cursor_Left F_ref26_CheckCentral R n y5 s52 y7 (IntKind.wrap .i64 (y8 + 1)) h53 K0 Kr) else K0 y6 y7 h) := by kernel_rfl
noncomputable def G_ref26_heads (F_ref24_ReadCentral : Option Addr → GH → (Int → Int → Int → Int → Int → Int → Int → Int → Sl → Sl → Int → Int → Int → Int → Int → Sl → Int → GH → Option β) → Option β) (F_ref02_Cursor_Left : Option Addr → GH → (Int → GH → Option β) → Option β) (F_ref26_CheckCentral : Int → Int → Int → Int → Int → Int → Int → Int → Sl → Sl → Int → Int → Int → Int → Int → Sl → GH → (Int → GH → Option β) → Option β) (R : Nat) (a1 : Sl) (a2 : Int) (h : GH) (K : Sl → Int → GH → Option β) : Option β := gfun Try.prog (CF_ref26_heads F_ref24_ReadCentral F_ref02_Cursor_Left F_ref26_CheckCentral) HF_ref26_heads R Try.f40 [Value.slice a1.a a1.n a1.c, Value.int .i64 a2] h (fun v h' => exTup 2 v fun vs => exV (nth vs 0) fun v0 => exS (some v0) fun u101 => exV (nth vs 1) fun v1 => exI .i64 (some v1) fun u102 => K u101 u102 h')
set_option maxRecDepth 100000 in
theorem F_ref26_heads_gen (F_ref24_ReadCentral : Option Addr → GH → (Int → Int → Int → Int → Int → Int → Int → Int → Sl → Sl → Int → Int → Int → Int → Int → Sl → Int → GH → Option β) → Option β) (F_ref02_Cursor_Left : Option Addr → GH → (Int → GH → Option β) → Option β) (F_ref26_CheckCentral : Int → Int → Int → Int → Int → Int → Int → Int → Sl → Sl → Int → Int → Int → Int → Int → Sl → GH → (Int → GH → Option β) → Option β) (R : Nat) (a1 : Sl) (a2 : Int) (h : GH) (K : Sl → Int → GH → Option β) : G_ref26_heads F_ref24_ReadCentral F_ref02_Cursor_Left F_ref26_CheckCentral R a1 a2 h K =
    gnew [Value.slice a1.a a1.n a1.c, Value.int .i64 0, Value.int .i64 0] 0 h fun g3 h4 => F_ref26_heads_l0 F_ref24_ReadCentral F_ref02_Cursor_Left F_ref26_CheckCentral R R a2 ⟨none, 0, 0⟩ (some ⟨g3, 0, none⟩) 0 h4 (fun w54 w55 h56 => F_ref02_Cursor_Left w55 h56 fun r57 h58 => (bif decide (r57 > 0) then K ⟨none, 0, 0⟩ 14 h58 else F_ref26_heads_l1 F_ref24_ReadCentral F_ref02_Cursor_Left F_ref26_CheckCentral R R w54 0 h58 (fun w84 h85 => K w84 0 h85) (fun w86 w87 h88 => K w86 w87 h88))) (fun w89 w90 h91 => K w89 w90 h91) := by kernel_rfl
noncomputable def F_ref26_heads (R : Nat) (a1 : Sl) (a2 : Int) (h : GH) (K : Sl → Int → GH → Option β) : Option β := G_ref26_heads (F_ref24_ReadCentral R) (F_ref02_Cursor_Left R) (F_ref26_CheckCentral R) R a1 a2 h K
set_option maxRecDepth 100000 in
theorem CF_ref26_heads_sim {R : Nat} : SimOrc Try.prog (CF_ref26_heads (F_ref24_ReadCentral R) (F_ref02_Cursor_Left R) (F_ref26_CheckCentral R) (β := β)) := by
  intro f args h K r hc
  unfold CF_ref26_heads at hc
  cases hb : Nat.beq f 69 with
  | true =>
    rw [hb] at hc
    simp only [cond_true] at hc
    obtain rfl := Nat.eq_of_beq_eq_true hb
    split at hc
    · exact any_call (F_ref24_ReadCentral_sim (K := K) hc)
    · cases hc
  | false =>
  rw [hb] at hc
  simp only [cond_false] at hc
  cases hb : Nat.beq f 42 with
  | true =>
    rw [hb] at hc
    simp only [cond_true] at hc
    obtain rfl := Nat.eq_of_beq_eq_true hb
    split at hc
    · exact any_call (F_ref02_Cursor_Left_sim (K := K) hc)
    · cases hc
  | false =>
  rw [hb] at hc
  simp only [cond_false] at hc
  cases hb : Nat.beq f 10 with
  | true =>
    rw [hb] at hc
    simp only [cond_true] at hc
    obtain rfl := Nat.eq_of_beq_eq_true hb
    split at hc
    · exact any_call (F_ref26_CheckCentral_sim (K := K) hc)
    · cases hc
  | false =>
  rw [hb] at hc
  simp only [cond_false] at hc
  cases hc
set_option maxRecDepth 100000 in
theorem F_ref26_heads_sim {R : Nat} {r : β} {a1 : Sl} {a2 : Int} {h : GH} {K : Value → GH → Option β} (hc : F_ref26_heads R a1 a2 h (fun q0 q1 h' => K (Value.tuple #[Value.slice q0.a q0.n q0.c, Value.int .i64 q1]) h') = some r) : ∃ v h', K v h' = some r ∧ CallSim Try.prog 40 [Value.slice a1.a a1.n a1.c, Value.int .i64 a2] h v h' := by
  unfold F_ref26_heads G_ref26_heads at hc
  obtain ⟨v, h', hk, hs⟩ := gfun_sim (CF_ref26_heads_sim (R := R)) mixed_ok (fun f h => by cases h) Try.func40 (by kernel_rfl) hc
  obtain ⟨vs, rfl, hl, hk⟩ := exTup_v hk
  obtain ⟨v0, t0, hk⟩ := exV_v hk
  obtain ⟨u0, e0, hk⟩ := exS_v hk; cases e0
  obtain ⟨v1, t1, hk⟩ := exV_v hk
  obtain ⟨u1, e1, hk⟩ := exI_v hk; cases e1
  obtain rfl := arr2 hl t0 t1
  exact ⟨_, h', hk, hs⟩
/-! F70 duffel/duffelref24.ReadLocal -/
def CF_ref24_ReadLocal (F_ref24_sign : Option Addr → Int → GH → (Int → GH → Option β) → Option β) (F_ref24_take : Option Addr → Sl → GH → (Sl → GH → Option β) → Option β) (F_ref24_head : Sl → GH → (Int → Int → Int → Int → Int → Int → Int → Int → Sl → Sl → GH → Option β) → Option β) (F_ref24_at : Sl → Int → GH → (Int → GH → Option β) → Option β) (F_ref02_Cursor_Take : Option Addr → Int → GH → (Sl → GH → Option β) → Option β) : Orc β := fun f args h K => bif Nat.beq f 94 then (match args with | [.pointer p1, .int .u32 p2] => F_ref24_sign p1 p2 h (fun q13 h' => K (Value.int .i64 q13) h') | _ => none) else (bif Nat.beq f 95 then (match args with | [.pointer p1, .slice p2a p2n p2c] => F_ref24_take p1 ⟨p2a, p2n, p2c⟩ h (fun q17 h' => K (Value.slice q17.a q17.n q17.c) h') | _ => none) else (bif Nat.beq f 96 then (match args with | [.slice p1a p1n p1c] => F_ref24_head ⟨p1a, p1n, p1c⟩ h (fun q37 q38 q39 q40 q41 q42 q43 q44 q45 q46 h' => K (Value.agg #[Value.int .i64 q37, Value.int .i64 q38, Value.int .i64 q39, Value.int .i64 q40, Value.int .i64 q41, Value.int .u32 q42, Value.int .u32 q43, Value.int .u32 q44, Value.slice q45.a q45.n q45.c, Value.slice q46.a q46.n q46.c]) h') | _ => none) else (bif Nat.beq f 83 then (match args with | [.slice p1a p1n p1c, .int .i64 p2] => F_ref24_at ⟨p1a, p1n, p1c⟩ p2 h (fun q7 h' => K (Value.int .i64 q7) h') | _ => none) else (bif Nat.beq f 72 then (match args with | [.pointer p1, .int .i64 p2] => F_ref02_Cursor_Take p1 p2 h (fun q37 h' => K (Value.slice q37.a q37.n q37.c) h') | _ => none) else none))))
def HF_ref24_ReadLocal : Hints := ⟨[], [], []⟩
noncomputable def G_ref24_ReadLocal (F_ref24_sign : Option Addr → Int → GH → (Int → GH → Option β) → Option β) (F_ref24_take : Option Addr → Sl → GH → (Sl → GH → Option β) → Option β) (F_ref24_head : Sl → GH → (Int → Int → Int → Int → Int → Int → Int → Int → Sl → Sl → GH → Option β) → Option β) (F_ref24_at : Sl → Int → GH → (Int → GH → Option β) → Option β) (F_ref02_Cursor_Take : Option Addr → Int → GH → (Sl → GH → Option β) → Option β) (R : Nat) (a1 : Option Addr) (h : GH) (K : Int → Int → Int → Int → Int → Int → Int → Int → Sl → Sl → Int → GH → Option β) : Option β := gfun Try.prog (CF_ref24_ReadLocal F_ref24_sign F_ref24_take F_ref24_head F_ref24_at F_ref02_Cursor_Take) HF_ref24_ReadLocal R Try.f70 [Value.pointer a1] h (fun v h' => exTup 2 v fun vs => exV (nth vs 0) fun v0 => exAg v0 fun c111 => (bif Nat.beq c111.length 10 then exI .i64 (nth c111 (0)) fun u112 => exI .i64 (nth c111 (0 + 1)) fun u113 => exI .i64 (nth c111 (0 + 1 + 1)) fun u114 => exI .i64 (nth c111 (0 + 1 + 1 + 1)) fun u115 => exI .i64 (nth c111 (0 + 1 + 1 + 1 + 1)) fun u116 => exI .u32 (nth c111 (0 + 1 + 1 + 1 + 1 + 1)) fun u117 => exI .u32 (nth c111 (0 + 1 + 1 + 1 + 1 + 1 + 1)) fun u118 => exI .u32 (nth c111 (0 + 1 + 1 + 1 + 1 + 1 + 1 + 1)) fun u119 => exS (nth c111 (0 + 1 + 1 + 1 + 1 + 1 + 1 + 1 + 1)) fun u120 => exS (nth c111 (0 + 1 + 1 + 1 + 1 + 1 + 1 + 1 + 1 + 1)) fun u121 => exV (nth vs 1) fun v1 => exI .i64 (some v1) fun u122 => K u112 u113 u114 u115 u116 u117 u118 u119 u120 u121 u122 h' else none))
set_option maxRecDepth 100000 in
theorem F_ref24_ReadLocal_gen (F_ref24_sign : Option Addr → Int → GH → (Int → GH → Option β) → Option β) (F_ref24_take : Option Addr → Sl → GH → (Sl → GH → Option β) → Option β) (F_ref24_head : Sl → GH → (Int → Int → Int → Int → Int → Int → Int → Int → Sl → Sl → GH → Option β) → Option β) (F_ref24_at : Sl → Int → GH → (Int → GH → Option β) → Option β) (F_ref02_Cursor_Take : Option Addr → Int → GH → (Sl → GH → Option β) → Option β) (R : Nat) (a1 : Option Addr) (h : GH) (K : Int → Int → Int → Int → Int → Int → Int → Int → Sl → Sl → Int → GH → Option β) : G_ref24_ReadLocal F_ref24_sign F_ref24_take F_ref24_head F_ref24_at F_ref02_Cursor_Take R a1 h K =
    gnew [Value.int .i64 0, Value.int .i64 0, Value.int .i64 0, Value.int .i64 0, Value.int .i64 0, Value.int .u32 0, Value.int .u32 0, Value.int .u32 0, Value.slice none 0 0, Value.slice none 0 0] 0 h fun g2 h3 => F_ref24_sign a1 67324752 h3 fun r4 h5 => (bif r4 != 0 then gput g2 (0) [Value.int .i64 0, Value.int .i64 0, Value.int .i64 0, Value.int .i64 0, Value.int .i64 0, Value.int .u32 0, Value.int .u32 0, Value.int .u32 0, Value.slice none 0 0, Value.slice none 0 0] h5 fun h6 => exI .i64 (h6.cell ⟨g2, 0, none⟩) fun x7 => exI .i64 (h6.cell ⟨g2, 0 + 1, none⟩) fun x8 => exI .i64 (h6.cell ⟨g2, 0 + 1 + 1, none⟩) fun x9 => exI .i64 (h6.cell ⟨g2, 0 + 1 + 1 + 1, none⟩) fun x10 => exI .i64 (h6.cell ⟨g2, 0 + 1 + 1 + 1 + 1, none⟩) fun x11 => exI .u32 (h6.cell ⟨g2, 0 + 1 + 1 + 1 + 1 + 1, none⟩) fun x12 => exI .u32 (h6.cell ⟨g2, 0 + 1 + 1 + 1 + 1 + 1 + 1, none⟩) fun x13 => exI .u32 (h6.cell ⟨g2, 0 + 1 + 1 + 1 + 1 + 1 + 1 + 1, none⟩) fun x14 => exS (h6.cell ⟨g2, 0 + 1 + 1 + 1 + 1 + 1 + 1 + 1 + 1, none⟩) fun x15 => exS (h6.cell ⟨g2, 0 + 1 + 1 + 1 + 1 + 1 + 1 + 1 + 1 + 1, none⟩) fun x16 => K x7 x8 x9 x10 x11 x12 x13 x14 x15 x16 r4 h6 else gnew [Value.int .i64 2, Value.int .i64 2, Value.int .i64 2, Value.int .i64 2, Value.int .i64 2, Value.int .i64 4, Value.int .i64 4, Value.int .i64 4, Value.int .i64 2, Value.int .i64 2] 1 h5 fun g17 h18 => F_ref24_take a1 ⟨(some ⟨g17, 0, none⟩), 10, 10⟩ h18 fun r19 h20 => exA a1 fun g21 o22 => exI .i64 (h20.cell ⟨g21, o22 + 2, none⟩) fun x23 => (bif x23 != 0 then exA a1 fun g24 o25 => exI .i64 (h20.cell ⟨g24, o25 + 2, none⟩) fun x26 => gput g2 (0) [Value.int .i64 0, Value.int .i64 0, Value.int .i64 0, Value.int .i64 0, Value.int .i64 0, Value.int .u32 0, Value.int .u32 0, Value.int .u32 0, Value.slice none 0 0, Value.slice none 0 0] h20 fun h27 => (bif sameAt g24 (o25 + 2) 1 h20 h27 then exI .i64 (h27.cell ⟨g2, 0, none⟩) fun x28 => exI .i64 (h27.cell ⟨g2, 0 + 1, none⟩) fun x29 => exI .i64 (h27.cell ⟨g2, 0 + 1 + 1, none⟩) fun x30 => exI .i64 (h27.cell ⟨g2, 0 + 1 + 1 + 1, none⟩) fun x31 => exI .i64 (h27.cell ⟨g2, 0 + 1 + 1 + 1 + 1, none⟩) fun x32 => exI .u32 (h27.cell ⟨g2, 0 + 1 + 1 + 1 + 1 + 1, none⟩) fun x33 => exI .u32 (h27.cell ⟨g2, 0 + 1 + 1 + 1 + 1 + 1 + 1, none⟩) fun x34 => exI .u32 (h27.cell ⟨g2, 0 + 1 + 1 + 1 + 1 + 1 + 1 + 1, none⟩) fun x35 => exS (h27.cell ⟨g2, 0 + 1 + 1 + 1 + 1 + 1 + 1 + 1 + 1, none⟩) fun x36 => exS (h27.cell ⟨g2, 0 + 1 + 1 + 1 + 1 + 1 + 1 + 1 + 1 + 1, none⟩) fun x37 => K x28 x29 x30 x31 x32 x33 x34 x35 x36 x37 x26 h27 else none) else F_ref24_head r19 h20 fun r38 r39 r40 r41 r42 r43 r44 r45 r46 r47 h48 => gnew [Value.int .i64 0, Value.int .i64 0, Value.int .i64 0, Value.int .i64 0, Value.int .i64 0, Value.int .u32 0, Value.int .u32 0, Value.int .u32 0, Value.slice none 0 0, Value.slice none 0 0] 0 h48 fun g49 h50 => gput g49 (0) [Value.int .i64 r38, Value.int .i64 r39, Value.int .i64 r40, Value.int .i64 r41, Value.int .i64 r42, Value.int .u32 r43, Value.int .u32 r44, Value.int .u32 r45, Value.slice r46.a r46.n r46.c, Value.slice r47.a r47.n r47.c] h50 fun h51 => F_ref24_at r19 22 h51 fun r52 h53 => F_ref02_Cursor_Take a1 r52 h53 fun r54 h55 => gput g49 (0 + 8) [Value.slice r54.a r54.n r54.c] h55 fun h56 => F_ref24_at r19 24 h56 fun r57 h58 => F_ref02_Cursor_Take a1 r57 h58 fun r59 h60 => gput g49 (0 + 9) [Value.slice r59.a r59.n r59.c] h60 fun h61 => exA a1 fun g62 o63 => exI .i64 (h61.cell ⟨g62, o63 + 2, none⟩) fun x64 => (bif x64 != 0 then exA a1 fun g65 o66 => exI .i64 (h61.cell ⟨g65, o66 + 2, none⟩) fun x67 => gput g2 (0) [Value.int .i64 0, Value.int .i64 0, Value.int .i64 0, Value.int .i64 0, Value.int .i64 0, Value.int .u32 0, Value.int .u32 0, Value.int .u32 0, Value.slice none 0 0, Value.slice none 0 0] h61 fun h68 => (bif sameAt g65 (o66 + 2) 1 h61 h68 then exI .i64 (h68.cell ⟨g2, 0, none⟩) fun x69 => exI .i64 (h68.cell ⟨g2, 0 + 1, none⟩) fun x70 => exI .i64 (h68.cell ⟨g2, 0 + 1 + 1, none⟩) fun x71 => exI .i64 (h68.cell ⟨g2, 0 + 1 + 1 + 1, none⟩) fun x72 => exI .i64 (h68.cell ⟨g2, 0 + 1 + 1 + 1 + 1, none⟩) fun x73 => exI .u32 (h68.cell ⟨g2, 0 + 1 + 1 + 1 + 1 + 1, none⟩) fun x74 => exI .u32 (h68.cell ⟨g2, 0 + 1 + 1 + 1 + 1 + 1 + 1, none⟩) fun x75 => exI .u32 (h68.cell ⟨g2, 0 + 1 + 1 + 1 + 1 + 1 + 1 + 1, none⟩) fun x76 => exS (h68.cell ⟨g2, 0 + 1 + 1 + 1 + 1 + 1 + 1 + 1 + 1, none⟩) fun x77 => exS (h68.cell ⟨g2, 0 + 1 + 1 + 1 + 1 + 1 + 1 + 1 + 1 + 1, none⟩) fun x78 => K x69 x70 x71 x72 x73 x74 x75 x76 x77 x78 x67 h68 else none) else exI .i64 (h61.cell ⟨g49, 0, none⟩) fun x79 => exI .i64 (h61.cell ⟨g49, 0 + 1, none⟩) fun x80 => exI .i64 (h61.cell ⟨g49, 0 + 1 + 1, none⟩) fun x81 => exI .i64 (h61.cell ⟨g49, 0 + 1 + 1 + 1, none⟩) fun x82 => exI .i64 (h61.cell ⟨g49, 0 + 1 + 1 + 1 + 1, none⟩) fun x83 => exI .u32 (h61.cell ⟨g49, 0 + 1 + 1 + 1 + 1 + 1, none⟩) fun x84 => exI .u32 (h61.cell ⟨g49, 0 + 1 + 1 + 1 + 1 + 1 + 1, none⟩) fun x85 => exI .u32 (h61.cell ⟨g49, 0 + 1 + 1 + 1 + 1 + 1 + 1 + 1, none⟩) fun x86 => exS (h61.cell ⟨g49, 0 + 1 + 1 + 1 + 1 + 1 + 1 + 1 + 1, none⟩) fun x87 => exS (h61.cell ⟨g49, 0 + 1 + 1 + 1 + 1 + 1 + 1 + 1 + 1 + 1, none⟩) fun x88 => gput g2 (0) [Value.int .i64 x79, Value.int .i64 x80, Value.int .i64 x81, Value.int .i64 x82, Value.int .i64 x83, Value.int .u32 x84, Value.int .u32 x85, Value.int .u32 x86, Value.slice x87.a x87.n x87.c, Value.slice x88.a x88.n x88.c] h61 fun h89 => exI .i64 (h89.cell ⟨g2, 0, none⟩) fun x90 => exI .i64 (h89.cell ⟨g2, 0 + 1, none⟩) fun x91 => exI .i64 (h89.cell ⟨g2, 0 + 1 + 1, none⟩) fun x92 => exI .i64 (h89.cell ⟨g2, 0 + 1 + 1 + 1, none⟩) fun x93 => exI .i64 (h89.cell ⟨g2, 0 + 1 + 1 + 1 + 1, none⟩) fun x94 => exI .u32 (h89.cell ⟨g2, 0 + 1 + 1 + 1 + 1 + 1, none⟩) fun x95 => exI .u32 (h89.cell ⟨g2, 0 + 1 + 1 + 1 + 1 + 1 + 1, none⟩) fun x96 => exI .u32 (h89.cell ⟨g2, 0 + 1 + 1 + 1 + 1 + 1 + 1 + 1, none⟩) fun x97 => exS (h89.cell ⟨g2, 0 + 1 + 1 + 1 + 1 + 1 + 1 + 1 + 1, none⟩) fun x98 => exS (h89.cell ⟨g2, 0 + 1 + 1 + 1 + 1 + 1 + 1 + 1 + 1 + 1, none⟩) fun x99 => K x90 x91 x92 x93 x94 x95 x96 x97 x98 x99 0 h89))) := by kernel_rfl
noncomputable def F_ref24_ReadLocal (R : Nat) (a1 : Option Addr) (h : GH) (K : Int → Int → Int → Int → Int → Int → Int → Int → Sl → Sl → Int → GH → Option β) : Option β := G_ref24_ReadLocal (F_ref24_sign R) (F_ref24_take R) (F_ref24_head R) (F_ref24_at R) (F_ref02_Cursor_Take R) R a1 h K
set_option maxRecDepth 100000 in
theorem CF_ref24_ReadLocal_sim {R : Nat} : SimOrc Try.prog (CF_ref24_ReadLocal (F_ref24_sign R) (F_ref24_take R) (F_ref24_head R) (F_ref24_at R) (F_ref02_Cursor_Take R) (β := β)) := by
  intro f args h K r hc
  unfold CF_ref24_ReadLocal at hc
  cases hb : Nat.beq f 94 with
  | true =>
    rw [hb] at hc
    simp only [cond_true] at hc
    obtain rfl := Nat.eq_of_beq_eq_true hb
    split at hc
    · exact any_call (F_ref24_sign_sim (K := K) hc)
    · cases hc
  | false =>
  rw [hb] at hc
  simp only [cond_false] at hc
  cases hb : Nat.beq f 95 with
  | true =>
    rw [hb] at hc
    simp only [cond_true] at hc
    obtain rfl := Nat.eq_of_beq_eq_true hb
    split at hc
    · exact any_call (F_ref24_take_sim (K := K) hc)
    · cases hc
  | false =>
  rw [hb] at hc
  simp only [cond_false] at hc
  cases hb : Nat.beq f 96 with
  | true =>
    rw [hb] at hc
    simp only [cond_true] at hc
    obtain rfl := Nat.eq_of_beq_eq_true hb
    split at hc
    · exact any_call (F_ref24_head_sim (K := K) hc)
    · cases hc
  | false =>
  rw [hb] at hc
  simp only [cond_false] at hc
  cases hb : Nat.beq f 83 with
  | true =>
    rw [hb] at hc
    simp only [cond_true] at hc
    obtain rfl := Nat.eq_of_beq_eq_true hb
    split at hc
    · exact any_call (F_ref24_at_sim (K := K) hc)
    · cases hc
  | false =>
  rw [hb] at hc
  simp only [cond_false] at hc
  cases hb : Nat.beq f 72 with
  | true =>
    rw [hb] at hc
    simp only [cond_true] at hc
    obtain rfl := Nat.eq_of_beq_eq_true hb
    split at hc
    · exact any_call (F_ref02_Cursor_Take_sim (K := K) hc)
    · cases hc
  | false =>
  rw [hb] at hc
  simp only [cond_false] at hc
  cases hc
set_option maxRecDepth 100000 in
theorem F_ref24_ReadLocal_sim {R : Nat} {r : β} {a1 : Option Addr} {h : GH} {K : Value → GH → Option β} (hc : F_ref24_ReadLocal R a1 h (fun q0 q1 q2 q3 q4 q5 q6 q7 q8 q9 q10 h' => K (Value.tuple #[Value.agg #[Value.int .i64 q0, Value.int .i64 q1, Value.int .i64 q2, Value.int .i64 q3, Value.int .i64 q4, Value.int .u32 q5, Value.int .u32 q6, Value.int .u32 q7, Value.slice q8.a q8.n q8.c, Value.slice q9.a q9.n q9.c], Value.int .i64 q10]) h') = some r) : ∃ v h', K v h' = some r ∧ CallSim Try.prog 70 [Value.pointer a1] h v h' := by
  unfold F_ref24_ReadLocal G_ref24_ReadLocal at hc
  obtain ⟨v, h', hk, hs⟩ := gfun_sim (CF_ref24_ReadLocal_sim (R := R)) mixed_ok (fun f h => by cases h) Try.func70 (by kernel_rfl) hc
  obtain ⟨vs, rfl, hl, hk⟩ := exTup_v hk
  obtain ⟨v0, t0, hk⟩ := exV_v hk
  obtain ⟨cs0, f0, hk⟩ := exAg_v hk; cases f0; obtain ⟨hl0, hk⟩ := beq_v hk
  obtain ⟨u1, e1, hk⟩ := exI_v hk
  obtain ⟨u2, e2, hk⟩ := exI_v hk
  obtain ⟨u3, e3, hk⟩ := exI_v hk
  obtain ⟨u4, e4, hk⟩ := exI_v hk
  obtain ⟨u5, e5, hk⟩ := exI_v hk
  obtain ⟨u6, e6, hk⟩ := exI_v hk
  obtain ⟨u7, e7, hk⟩ := exI_v hk
  obtain ⟨u8, e8, hk⟩ := exI_v hk
  obtain ⟨u9, e9, hk⟩ := exS_v hk
  obtain ⟨u10, e10, hk⟩ := exS_v hk
  obtain rfl := arr10 hl0 e1 e2 e3 e4 e5 e6 e7 e8 e9 e10
  obtain ⟨v1, t1, hk⟩ := exV_v hk
  obtain ⟨u11, e11, hk⟩ := exI_v hk; cases e11
  obtain rfl := arr2 hl t0 t1
  exact ⟨_, h', hk, hs⟩
/-! F16 duffel/duffelref01.Same -/
def CF_ref01_Same  : Orc β := fun f args h K => none
def HF_ref01_Same : Hints := ⟨[(4, [0, 1, 5], [(0, [])], some [(4, .ty 4)])], [], []⟩
noncomputable def BF_ref01_Same : Code := match Try.f16.body with | some c => c | none => .skip
noncomputable def F_ref01_Same_l0  (R : Nat) (n : Nat) (y3 : Sl) (y4 : Sl) (y5 : Int) (h : GH) (K0 : GH → Option β) (Kr : Bool → GH → Option β) : Option β := gloop (gcode Try.prog (CF_ref01_Same ) Try.f16.ntmps HF_ref01_Same R (at_ [true, true, false, true, false, false] BF_ref01_Same)) [0, 1, 5] n [(0, Value.slice y3.a y3.n y3.c), (1, Value.slice y4.a y4.n y4.c), (5, Value.int .i64 y5)] h (fun i e' h' => bif Nat.beq i 0 then (K0 h') else none) (fun e' h' => exB (some (e'.get 4)) fun u17 => Kr u17 h')
set_option maxRecDepth 100000 in
theorem F_ref01_Same_l0_succ  (R : Nat) (n : Nat) (y3 : Sl) (y4 : Sl) (y5 : Int) (h : GH) (K0 : GH → Option β) (Kr : Bool → GH → Option β) : F_ref01_Same_l0  R (n + 1) y3 y4 y5 h K0 Kr =
    (bif decide (y5 < ((y3.n : Nat) : Int)) then exA y3.a fun g7 o8 => within y5 y3.n (exI .u8 (h.cell ⟨g7, o8 + y5.toNat * 1, none⟩) fun x9 => exA y4.a fun g10 o11 => within y5 y4.n (exI .u8 (h.cell ⟨g10, o11 + y5.toNat * 1, none⟩) fun x12 => (bif x9 != x12 then Kr false h else F_ref01_Same_l0 R n y3 y4 (IntKind.wrap .i64 (y5 + 1)) h K0 Kr))) else K0 h) := by kernel_rfl
noncomputable def G_ref01_Same  (R : Nat) (a1 : Sl) (a2 : Sl) (h : GH) (K : Bool → GH → Option β) : Option β := gfun Try.prog (CF_ref01_Same ) HF_ref01_Same R Try.f16 [Value.slice a1.a a1.n a1.c, Value.slice a2.a a2.n a2.c] h (fun v h' => exB (some v) fun u18 => K u18 h')
set_option maxRecDepth 100000 in
theorem F_ref01_Same_gen  (R : Nat) (a1 : Sl) (a2 : Sl) (h : GH) (K : Bool → GH → Option β) : G_ref01_Same  R a1 a2 h K =
    (bif ((a1.n : Nat) : Int) != ((a2.n : Nat) : Int) then K false h else F_ref01_Same_l0 R R a1 a2 0 h (fun h13 => K true h13) (fun w14 h15 => K w14 h15)) := by kernel_rfl
noncomputable def F_ref01_Same (R : Nat) (a1 : Sl) (a2 : Sl) (h : GH) (K : Bool → GH → Option β) : Option β := G_ref01_Same  R a1 a2 h K
theorem CF_ref01_Same_sim : SimOrc Try.prog (CF_ref01_Same (β := β)) := by
  intro f args h K r hc
  cases hc
set_option maxRecDepth 100000 in
theorem F_ref01_Same_sim {R : Nat} {r : β} {a1 : Sl} {a2 : Sl} {h : GH} {K : Value → GH → Option β} (hc : F_ref01_Same R a1 a2 h (fun q0 h' => K (Value.bool q0) h') = some r) : ∃ v h', K v h' = some r ∧ CallSim Try.prog 16 [Value.slice a1.a a1.n a1.c, Value.slice a2.a a2.n a2.c] h v h' := by
  unfold F_ref01_Same G_ref01_Same at hc
  obtain ⟨v, h', hk, hs⟩ := gfun_sim CF_ref01_Same_sim mixed_ok (fun f h => by cases h) Try.func16 (by kernel_rfl) hc
  obtain ⟨u0, e0, hk⟩ := exB_v hk; cases e0
  exact ⟨_, h', hk, hs⟩
/-! F71 duffel/duffelref24.SameHead -/
def CF_ref24_SameHead (F_ref01_Same : Sl → Sl → GH → (Bool → GH → Option β) → Option β) : Orc β := fun f args h K => bif Nat.beq f 16 then (match args with | [.slice p1a p1n p1c, .slice p2a p2n p2c] => F_ref01_Same ⟨p1a, p1n, p1c⟩ ⟨p2a, p2n, p2c⟩ h (fun q16 h' => K (Value.bool q16) h') | _ => none) else none
def HF_ref24_SameHead : Hints := ⟨[], [], []⟩
noncomputable def G_ref24_SameHead (F_ref01_Same : Sl → Sl → GH → (Bool → GH → Option β) → Option β) (R : Nat) (a1 : Int) (a2 : Int) (a3 : Int) (a4 : Int) (a5 : Int) (a6 : Int) (a7 : Int) (a8 : Int) (a9 : Sl) (a10 : Sl) (a11 : Int) (a12 : Int) (a13 : Int) (a14 : Int) (a15 : Int) (a16 : Int) (a17 : Int) (a18 : Int) (a19 : Sl) (a20 : Sl) (h : GH) (K : Bool → GH → Option β) : Option β := gfun Try.prog (CF_ref24_SameHead F_ref01_Same) HF_ref24_SameHead R Try.f71 [Value.agg #[Value.int .i64 a1, Value.int .i64 a2, Value.int .i64 a3, Value.int .i64 a4, Value.int .i64 a5, Value.int .u32 a6, Value.int .u32 a7, Value.int .u32 a8, Value.slice a9.a a9.n a9.c, Value.slice a10.a a10.n a10.c], Value.agg #[Value.int .i64 a11, Value.int .i64 a12, Value.int .i64 a13, Value.int .i64 a14, Value.int .i64 a15, Value.int .u32 a16, Value.int .u32 a17, Value.int .u32 a18, Value.slice a19.a a19.n a19.c, Value.slice a20.a a20.n a20.c]] h (fun v h' => exB (some v) fun u50 => K u50 h')
set_option maxRecDepth 100000 in
theorem F_ref24_SameHead_gen (F_ref01_Same : Sl → Sl → GH → (Bool → GH → Option β) → Option β) (R : Nat) (a1 : Int) (a2 : Int) (a3 : Int) (a4 : Int) (a5 : Int) (a6 : Int) (a7 : Int) (a8 : Int) (a9 : Sl) (a10 : Sl) (a11 : Int) (a12 : Int) (a13 : Int) (a14 : Int) (a15 : Int) (a16 : Int) (a17 : Int) (a18 : Int) (a19 : Sl) (a20 : Sl) (h : GH) (K : Bool → GH → Option β) : G_ref24_SameHead F_ref01_Same R a1 a2 a3 a4 a5 a6 a7 a8 a9 a10 a11 a12 a13 a14 a15 a16 a17 a18 a19 a20 h K =
    gnew [Value.int .i64 a1, Value.int .i64 a2, Value.int .i64 a3, Value.int .i64 a4, Value.int .i64 a5, Value.int .u32 a6, Value.int .u32 a7, Value.int .u32 a8, Value.slice a9.a a9.n a9.c, Value.slice a10.a a10.n a10.c] 0 h fun g21 h22 => gnew [Value.int .i64 a11, Value.int .i64 a12, Value.int .i64 a13, Value.int .i64 a14, Value.int .i64 a15, Value.int .u32 a16, Value.int .u32 a17, Value.int .u32 a18, Value.slice a19.a a19.n a19.c, Value.slice a20.a a20.n a20.c] 0 h22 fun g23 h24 => exI .i64 (h24.cell ⟨g21, 0 + 0, none⟩) fun x25 => exI .i64 (h24.cell ⟨g23, 0 + 0, none⟩) fun x26 => (bif x25 == x26 then exI .i64 (h24.cell ⟨g21, 0 + 1, none⟩) fun x27 => exI .i64 (h24.cell ⟨g23, 0 + 1, none⟩) fun x28 => (bif x27 == x28 then exI .i64 (h24.cell ⟨g21, 0 + 2, none⟩) fun x29 => exI .i64 (h24.cell ⟨g23, 0 + 2, none⟩) fun x30 => (bif x29 == x30 then exI .i64 (h24.cell ⟨g21, 0 + 3, none⟩) fun x31 => exI .i64 (h24.cell ⟨g23, 0 + 3, none⟩) fun x32 => (bif x31 == x32 then exI .i64 (h24.cell ⟨g21, 0 + 4, none⟩) fun x33 => exI .i64 (h24.cell ⟨g23, 0 + 4, none⟩) fun x34 => (bif x33 == x34 then exI .u32 (h24.cell ⟨g21, 0 + 5, none⟩) fun x35 => exI .u32 (h24.cell ⟨g23, 0 + 5, none⟩) fun x36 => (bif x35 == x36 then exI .u32 (h24.cell ⟨g21, 0 + 6, none⟩) fun x37 => exI .u32 (h24.cell ⟨g23, 0 + 6, none⟩) fun x38 => (bif x37 == x38 then exI .u32 (h24.cell ⟨g21, 0 + 7, none⟩) fun x39 => exI .u32 (h24.cell ⟨g23, 0 + 7, none⟩) fun x40 => (bif x39 == x40 then exS (h24.cell ⟨g21, 0 + 8, none⟩) fun x41 => exS (h24.cell ⟨g23, 0 + 8, none⟩) fun x42 => F_ref01_Same x41 x42 h24 fun r43 h44 => (bif r43 then exS (h44.cell ⟨g21, 0 + 9, none⟩) fun x45 => exS (h44.cell ⟨g23, 0 + 9, none⟩) fun x46 => F_ref01_Same x45 x46 h44 fun r47 h48 => K r47 h48 else K false h44) else K false h24) else K false h24) else K false h24) else K false h24) else K false h24) else K false h24) else K false h24) else K false h24) := by kernel_rfl
noncomputable def F_ref24_SameHead (R : Nat) (a1 : Int) (a2 : Int) (a3 : Int) (a4 : Int) (a5 : Int) (a6 : Int) (a7 : Int) (a8 : Int) (a9 : Sl) (a10 : Sl) (a11 : Int) (a12 : Int) (a13 : Int) (a14 : Int) (a15 : Int) (a16 : Int) (a17 : Int) (a18 : Int) (a19 : Sl) (a20 : Sl) (h : GH) (K : Bool → GH → Option β) : Option β := G_ref24_SameHead (F_ref01_Same R) R a1 a2 a3 a4 a5 a6 a7 a8 a9 a10 a11 a12 a13 a14 a15 a16 a17 a18 a19 a20 h K
set_option maxRecDepth 100000 in
theorem CF_ref24_SameHead_sim {R : Nat} : SimOrc Try.prog (CF_ref24_SameHead (F_ref01_Same R) (β := β)) := by
  intro f args h K r hc
  unfold CF_ref24_SameHead at hc
  cases hb : Nat.beq f 16 with
  | true =>
    rw [hb] at hc
    simp only [cond_true] at hc
    obtain rfl := Nat.eq_of_beq_eq_true hb
    split at hc
    · exact any_call (F_ref01_Same_sim (K := K) hc)
    · cases hc
  | false =>
  rw [hb] at hc
  simp only [cond_false] at hc
  cases hc
set_option maxRecDepth 100000 in
theorem F_ref24_SameHead_sim {R : Nat} {r : β} {a1 : Int} {a2 : Int} {a3 : Int} {a4 : Int} {a5 : Int} {a6 : Int} {a7 : Int} {a8 : Int} {a9 : Sl} {a10 : Sl} {a11 : Int} {a12 : Int} {a13 : Int} {a14 : Int} {a15 : Int} {a16 : Int} {a17 : Int} {a18 : Int} {a19 : Sl} {a20 : Sl} {h : GH} {K : Value → GH → Option β} (hc : F_ref24_SameHead R a1 a2 a3 a4 a5 a6 a7 a8 a9 a10 a11 a12 a13 a14 a15 a16 a17 a18 a19 a20 h (fun q0 h' => K (Value.bool q0) h') = some r) : ∃ v h', K v h' = some r ∧ CallSim Try.prog 71 [Value.agg #[Value.int .i64 a1, Value.int .i64 a2, Value.int .i64 a3, Value.int .i64 a4, Value.int .i64 a5, Value.int .u32 a6, Value.int .u32 a7, Value.int .u32 a8, Value.slice a9.a a9.n a9.c, Value.slice a10.a a10.n a10.c], Value.agg #[Value.int .i64 a11, Value.int .i64 a12, Value.int .i64 a13, Value.int .i64 a14, Value.int .i64 a15, Value.int .u32 a16, Value.int .u32 a17, Value.int .u32 a18, Value.slice a19.a a19.n a19.c, Value.slice a20.a a20.n a20.c]] h v h' := by
  unfold F_ref24_SameHead G_ref24_SameHead at hc
  obtain ⟨v, h', hk, hs⟩ := gfun_sim (CF_ref24_SameHead_sim (R := R)) mixed_ok (fun f h => by cases h) Try.func71 (by kernel_rfl) hc
  obtain ⟨u0, e0, hk⟩ := exB_v hk; cases e0
  exact ⟨_, h', hk, hs⟩
/-! F41 duffel/duffelref26.one -/
def CF_ref26_one (F_ref24_ReadLocal : Option Addr → GH → (Int → Int → Int → Int → Int → Int → Int → Int → Sl → Sl → Int → GH → Option β) → Option β) (F_ref24_SameHead : Int → Int → Int → Int → Int → Int → Int → Int → Sl → Sl → Int → Int → Int → Int → Int → Int → Int → Int → Sl → Sl → GH → (Bool → GH → Option β) → Option β) (F_ref26_list : Sl → GH → (Int → GH → Option β) → Option β) (F_ref02_Cursor_Left : Option Addr → GH → (Int → GH → Option β) → Option β) (F_ref02_Cursor_Take : Option Addr → Int → GH → (Sl → GH → Option β) → Option β) : Orc β := fun f args h K => bif Nat.beq f 70 then (match args with | [.pointer p1] => F_ref24_ReadLocal p1 h (fun q100 q101 q102 q103 q104 q105 q106 q107 q108 q109 q110 h' => K (Value.tuple #[Value.agg #[Value.int .i64 q100, Value.int .i64 q101, Value.int .i64 q102, Value.int .i64 q103, Value.int .i64 q104, Value.int .u32 q105, Value.int .u32 q106, Value.int .u32 q107, Value.slice q108.a q108.n q108.c, Value.slice q109.a q109.n q109.c], Value.int .i64 q110]) h') | _ => none) else (bif Nat.beq f 71 then (match args with | [.agg ⟨[.int .i64 p1, .int .i64 p2, .int .i64 p3, .int .i64 p4, .int .i64 p5, .int .u32 p6, .int .u32 p7, .int .u32 p8, .slice p9a p9n p9c, .slice p10a p10n p10c]⟩, .agg ⟨[.int .i64 p11, .int .i64 p12, .int .i64 p13, .int .i64 p14, .int .i64 p15, .int .u32 p16, .int .u32 p17, .int .u32 p18, .slice p19a p19n p19c, .slice p20a p20n p20c]⟩] => F_ref24_SameHead p1 p2 p3 p4 p5 p6 p7 p8 ⟨p9a, p9n, p9c⟩ ⟨p10a, p10n, p10c⟩ p11 p12 p13 p14 p15 p16 p17 p18 ⟨p19a, p19n, p19c⟩ ⟨p20a, p20n, p20c⟩ h (fun q49 h' => K (Value.bool q49) h') | _ => none) else (bif Nat.beq f 32 then (match args with | [.slice p1a p1n p1c] => F_ref26_list ⟨p1a, p1n, p1c⟩ h (fun q14 h' => K (Value.int .i64 q14) h') | _ => none) else (bif Nat.beq f 42 then (match args with | [.pointer p1] => F_ref02_Cursor_Left p1 h (fun q11 h' => K (Value.int .i64 q11) h') | _ => none) else (bif Nat.beq f 72 then (match args with | [.pointer p1, .int .i64 p2] => F_ref02_Cursor_Take p1 p2 h (fun q37 h' => K (Value.slice q37.a q37.n q37.c) h') | _ => none) else none))))
def HF_ref26_one : Hints := ⟨[], [], []⟩
noncomputable def G_ref26_one (F_ref24_ReadLocal : Option Addr → GH → (Int → Int → Int → Int → Int → Int → Int → Int → Sl → Sl → Int → GH → Option β) → Option β) (F_ref24_SameHead : Int → Int → Int → Int → Int → Int → Int → Int → Sl → Sl → Int → Int → Int → Int → Int → Int → Int → Int → Sl → Sl → GH → (Bool → GH → Option β) → Option β) (F_ref26_list : Sl → GH → (Int → GH → Option β) → Option β) (F_ref02_Cursor_Left : Option Addr → GH → (Int → GH → Option β) → Option β) (F_ref02_Cursor_Take : Option Addr → Int → GH → (Sl → GH → Option β) → Option β) (R : Nat) (a1 : Option Addr) (a2 : Int) (a3 : Int) (a4 : Int) (a5 : Int) (a6 : Int) (a7 : Int) (a8 : Int) (a9 : Int) (a10 : Sl) (a11 : Sl) (a12 : Int) (a13 : Int) (a14 : Int) (a15 : Int) (a16 : Int) (a17 : Sl) (h : GH) (K : Int → Int → Int → Int → Int → Int → Int → Int → Sl → Sl → Int → Int → Int → Int → Int → Sl → Sl → Sl → Int → GH → Option β) : Option β := gfun Try.prog (CF_ref26_one F_ref24_ReadLocal F_ref24_SameHead F_ref26_list F_ref02_Cursor_Left F_ref02_Cursor_Take) HF_ref26_one R Try.f41 [Value.pointer a1, Value.agg #[Value.int .i64 a2, Value.int .i64 a3, Value.int .i64 a4, Value.int .i64 a5, Value.int .i64 a6, Value.int .u32 a7, Value.int .u32 a8, Value.int .u32 a9, Value.slice a10.a a10.n a10.c, Value.slice a11.a a11.n a11.c, Value.int .i64 a12, Value.int .i64 a13, Value.int .i64 a14, Value.int .u32 a15, Value.int .u32 a16, Value.slice a17.a a17.n a17.c]] h (fun v h' => exTup 2 v fun vs => exV (nth vs 0) fun v0 => exAg v0 fun c236 => (bif Nat.beq c236.length 18 then exI .i64 (nth c236 (0)) fun u237 => exI .i64 (nth c236 (0 + 1)) fun u238 => exI .i64 (nth c236 (0 + 1 + 1)) fun u239 => exI .i64 (nth c236 (0 + 1 + 1 + 1)) fun u240 => exI .i64 (nth c236 (0 + 1 + 1 + 1 + 1)) fun u241 => exI .u32 (nth c236 (0 + 1 + 1 + 1 + 1 + 1)) fun u242 => exI .u32 (nth c236 (0 + 1 + 1 + 1 + 1 + 1 + 1)) fun u243 => exI .u32 (nth c236 (0 + 1 + 1 + 1 + 1 + 1 + 1 + 1)) fun u244 => exS (nth c236 (0 + 1 + 1 + 1 + 1 + 1 + 1 + 1 + 1)) fun u245 => exS (nth c236 (0 + 1 + 1 + 1 + 1 + 1 + 1 + 1 + 1 + 1)) fun u246 => exI .i64 (nth c236 (0 + 1 + 1 + 1 + 1 + 1 + 1 + 1 + 1 + 1 + 1)) fun u247 => exI .i64 (nth c236 (0 + 1 + 1 + 1 + 1 + 1 + 1 + 1 + 1 + 1 + 1 + 1)) fun u248 => exI .i64 (nth c236 (0 + 1 + 1 + 1 + 1 + 1 + 1 + 1 + 1 + 1 + 1 + 1 + 1)) fun u249 => exI .u32 (nth c236 (0 + 1 + 1 + 1 + 1 + 1 + 1 + 1 + 1 + 1 + 1 + 1 + 1 + 1)) fun u250 => exI .u32 (nth c236 (0 + 1 + 1 + 1 + 1 + 1 + 1 + 1 + 1 + 1 + 1 + 1 + 1 + 1 + 1)) fun u251 => exS (nth c236 (0 + 1 + 1 + 1 + 1 + 1 + 1 + 1 + 1 + 1 + 1 + 1 + 1 + 1 + 1 + 1)) fun u252 => exS (nth c236 (0 + 1 + 1 + 1 + 1 + 1 + 1 + 1 + 1 + 1 + 1 + 1 + 1 + 1 + 1 + 1 + 1)) fun u253 => exS (nth c236 (0 + 1 + 1 + 1 + 1 + 1 + 1 + 1 + 1 + 1 + 1 + 1 + 1 + 1 + 1 + 1 + 1 + 1)) fun u254 => exV (nth vs 1) fun v1 => exI .i64 (some v1) fun u255 => K u237 u238 u239 u240 u241 u242 u243 u244 u245 u246 u247 u248 u249 u250 u251 u252 u253 u254 u255 h' else none))
set_option maxRecDepth 100000 in
theorem F_ref26_one_gen (F_ref24_ReadLocal : Option Addr → GH → (Int → Int → Int → Int → Int → Int → Int → Int → Sl → Sl → Int → GH → Option β) → Option β) (F_ref24_SameHead : Int → Int → Int → Int → Int → Int → Int → Int → Sl → Sl → Int → Int → Int → Int → Int → Int → Int → Int → Sl → Sl → GH → (Bool → GH → Option β) → Option β) (F_ref26_list : Sl → GH → (Int → GH → Option β) → Option β) (F_ref02_Cursor_Left : Option Addr → GH → (Int → GH → Option β) → Option β) (F_ref02_Cursor_Take : Option Addr → Int → GH → (Sl → GH → Option β) → Option β) (R : Nat) (a1 : Option Addr) (a2 : Int) (a3 : Int) (a4 : Int) (a5 : Int) (a6 : Int) (a7 : Int) (a8 : Int) (a9 : Int) (a10 : Sl) (a11 : Sl) (a12 : Int) (a13 : Int) (a14 : Int) (a15 : Int) (a16 : Int) (a17 : Sl) (h : GH) (K : Int → Int → Int → Int → Int → Int → Int → Int → Sl → Sl → Int → Int → Int → Int → Int → Sl → Sl → Sl → Int → GH → Option β) : G_ref26_one F_ref24_ReadLocal F_ref24_SameHead F_ref26_list F_ref02_Cursor_Left F_ref02_Cursor_Take R a1 a2 a3 a4 a5 a6 a7 a8 a9 a10 a11 a12 a13 a14 a15 a16 a17 h K =
    gnew [Value.int .i64 a2, Value.int .i64 a3, Value.int .i64 a4, Value.int .i64 a5, Value.int .i64 a6, Value.int .u32 a7, Value.int .u32 a8, Value.int .u32 a9, Value.slice a10.a a10.n a10.c, Value.slice a11.a a11.n a11.c, Value.int .i64 a12, Value.int .i64 a13, Value.int .i64 a14, Value.int .u32 a15, Value.int .u32 a16, Value.slice a17.a a17.n a17.c] 0 h fun g18 h19 => gnew [Value.int .i64 0, Value.int .i64 0, Value.int .i64 0, Value.int .i64 0, Value.int .i64 0, Value.int .u32 0, Value.int .u32 0, Value.int .u32 0, Value.slice none 0 0, Value.slice none 0 0, Value.int .i64 0, Value.int .i64 0, Value.int .i64 0, Value.int .u32 0, Value.int .u32 0, Value.slice none 0 0, Value.slice none 0 0, Value.slice none 0 0] 0 h19 fun g20 h21 => exI .u32 (h21.cell ⟨g18, 0 + 14, none⟩) fun x22 => exA a1 fun g23 o24 => exI .i64 (h21.cell ⟨g23, o24 + 1, none⟩) fun x25 => (bif (IntKind.wrap .i64 x22) != x25 then gput g20 (0) [Value.int .i64 0, Value.int .i64 0, Value.int .i64 0, Value.int .i64 0, Value.int .i64 0, Value.int .u32 0, Value.int .u32 0, Value.int .u32 0, Value.slice none 0 0, Value.slice none 0 0, Value.int .i64 0, Value.int .i64 0, Value.int .i64 0, Value.int .u32 0, Value.int .u32 0, Value.slice none 0 0, Value.slice none 0 0, Value.slice none 0 0] h21 fun h26 => exI .i64 (h26.cell ⟨g20, 0, none⟩) fun x27 => exI .i64 (h26.cell ⟨g20, 0 + 1, none⟩) fun x28 => exI .i64 (h26.cell ⟨g20, 0 + 1 + 1, none⟩) fun x29 => exI .i64 (h26.cell ⟨g20, 0 + 1 + 1 + 1, none⟩) fun x30 => exI .i64 (h26.cell ⟨g20, 0 + 1 + 1 + 1 + 1, none⟩) fun x31 => exI .u32 (h26.cell ⟨g20, 0 + 1 + 1 + 1 + 1 + 1, none⟩) fun x32 => exI .u32 (h26.cell ⟨g20, 0 + 1 + 1 + 1 + 1 + 1 + 1, none⟩) fun x33 => exI .u32 (h26.cell ⟨g20, 0 + 1 + 1 + 1 + 1 + 1 + 1 + 1, none⟩) fun x34 => exS (h26.cell ⟨g20, 0 + 1 + 1 + 1 + 1 + 1 + 1 + 1 + 1, none⟩) fun x35 => exS (h26.cell ⟨g20, 0 + 1 + 1 + 1 + 1 + 1 + 1 + 1 + 1 + 1, none⟩) fun x36 => exI .i64 (h26.cell ⟨g20, 0 + 1 + 1 + 1 + 1 + 1 + 1 + 1 + 1 + 1 + 1, none⟩) fun x37 => exI .i64 (h26.cell ⟨g20, 0 + 1 + 1 + 1 + 1 + 1 + 1 + 1 + 1 + 1 + 1 + 1, none⟩) fun x38 => exI .i64 (h26.cell ⟨g20, 0 + 1 + 1 + 1 + 1 + 1 + 1 + 1 + 1 + 1 + 1 + 1 + 1, none⟩) fun x39 => exI .u32 (h26.cell ⟨g20, 0 + 1 + 1 + 1 + 1 + 1 + 1 + 1 + 1 + 1 + 1 + 1 + 1 + 1, none⟩) fun x40 => exI .u32 (h26.cell ⟨g20, 0 + 1 + 1 + 1 + 1 + 1 + 1 + 1 + 1 + 1 + 1 + 1 + 1 + 1 + 1, none⟩) fun x41 => exS (h26.cell ⟨g20, 0 + 1 + 1 + 1 + 1 + 1 + 1 + 1 + 1 + 1 + 1 + 1 + 1 + 1 + 1 + 1, none⟩) fun x42 => exS (h26.cell ⟨g20, 0 + 1 + 1 + 1 + 1 + 1 + 1 + 1 + 1 + 1 + 1 + 1 + 1 + 1 + 1 + 1 + 1, none⟩) fun x43 => exS (h26.cell ⟨g20, 0 + 1 + 1 + 1 + 1 + 1 + 1 + 1 + 1 + 1 + 1 + 1 + 1 + 1 + 1 + 1 + 1 + 1, none⟩) fun x44 => K x27 x28 x29 x30 x31 x32 x33 x34 x35 x36 x37 x38 x39 x40 x41 x42 x43 x44 14 h26 else F_ref24_ReadLocal a1 h21 fun r45 r46 r47 r48 r49 r50 r51 r52 r53 r54 r55 h56 => gnew [Value.int .i64 0, Value.int .i64 0, Value.int .i64 0, Value.int .i64 0, Value.int .i64 0, Value.int .u32 0, Value.int .u32 0, Value.int .u32 0, Value.slice none 0 0, Value.slice none 0 0] 0 h56 fun g57 h58 => gput g57 (0) [Value.int .i64 r45, Value.int .i64 r46, Value.int .i64 r47, Value.int .i64 r48, Value.int .i64 r49, Value.int .u32 r50, Value.int .u32 r51, Value.int .u32 r52, Value.slice r53.a r53.n r53.c, Value.slice r54.a r54.n r54.c] h58 fun h59 => (bif r55 != 0 then gput g20 (0) [Value.int .i64 0, Value.int .i64 0, Value.int .i64 0, Value.int .i64 0, Value.int .i64 0, Value.int .u32 0, Value.int .u32 0, Value.int .u32 0, Value.slice none 0 0, Value.slice none 0 0, Value.int .i64 0, Value.int .i64 0, Value.int .i64 0, Value.int .u32 0, Value.int .u32 0, Value.slice none 0 0, Value.slice none 0 0, Value.slice none 0 0] h59 fun h60 => exI .i64 (h60.cell ⟨g20, 0, none⟩) fun x61 => exI .i64 (h60.cell ⟨g20, 0 + 1, none⟩) fun x62 => exI .i64 (h60.cell ⟨g20, 0 + 1 + 1, none⟩) fun x63 => exI .i64 (h60.cell ⟨g20, 0 + 1 + 1 + 1, none⟩) fun x64 => exI .i64 (h60.cell ⟨g20, 0 + 1 + 1 + 1 + 1, none⟩) fun x65 => exI .u32 (h60.cell ⟨g20, 0 + 1 + 1 + 1 + 1 + 1, none⟩) fun x66 => exI .u32 (h60.cell ⟨g20, 0 + 1 + 1 + 1 + 1 + 1 + 1, none⟩) fun x67 => exI .u32 (h60.cell ⟨g20, 0 + 1 + 1 + 1 + 1 + 1 + 1 + 1, none⟩) fun x68 => exS (h60.cell ⟨g20, 0 + 1 + 1 + 1 + 1 + 1 + 1 + 1 + 1, none⟩) fun x69 => exS (h60.cell ⟨g20, 0 + 1 + 1 + 1 + 1 + 1 + 1 + 1 + 1 + 1, none⟩) fun x70 => exI .i64 (h60.cell ⟨g20, 0 + 1 + 1 + 1 + 1 + 1 + 1 + 1 + 1 + 1 + 1, none⟩) fun x71 => exI .i64 (h60.cell ⟨g20, 0 + 1 + 1 + 1 + 1 + 1 + 1 + 1 + 1 + 1 + 1 + 1, none⟩) fun x72 => exI .i64 (h60.cell ⟨g20, 0 + 1 + 1 + 1 + 1 + 1 + 1 + 1 + 1 + 1 + 1 + 1 + 1, none⟩) fun x73 => exI .u32 (h60.cell ⟨g20, 0 + 1 + 1 + 1 + 1 + 1 + 1 + 1 + 1 + 1 + 1 + 1 + 1 + 1, none⟩) fun x74 => exI .u32 (h60.cell ⟨g20, 0 + 1 + 1 + 1 + 1 + 1 + 1 + 1 + 1 + 1 + 1 + 1 + 1 + 1 + 1, none⟩) fun x75 => exS (h60.cell ⟨g20, 0 + 1 + 1 + 1 + 1 + 1 + 1 + 1 + 1 + 1 + 1 + 1 + 1 + 1 + 1 + 1, none⟩) fun x76 => exS (h60.cell ⟨g20, 0 + 1 + 1 + 1 + 1 + 1 + 1 + 1 + 1 + 1 + 1 + 1 + 1 + 1 + 1 + 1 + 1, none⟩) fun x77 => exS (h60.cell ⟨g20, 0 + 1 + 1 + 1 + 1 + 1 + 1 + 1 + 1 + 1 + 1 + 1 + 1 + 1 + 1 + 1 + 1 + 1, none⟩) fun x78 => K x61 x62 x63 x64 x65 x66 x67 x68 x69 x70 x71 x72 x73 x74 x75 x76 x77 x78 r55 h60 else exI .i64 (h59.cell ⟨g18, 0 + 0, none⟩) fun x79 => exI .i64 (h59.cell ⟨g18, 0 + 0 + 1, none⟩) fun x80 => exI .i64 (h59.cell ⟨g18, 0 + 0 + 1 + 1, none⟩) fun x81 => exI .i64 (h59.cell ⟨g18, 0 + 0 + 1 + 1 + 1, none⟩) fun x82 => exI .i64 (h59.cell ⟨g18, 0 + 0 + 1 + 1 + 1 + 1, none⟩) fun x83 => exI .u32 (h59.cell ⟨g18, 0 + 0 + 1 + 1 + 1 + 1 + 1, none⟩) fun x84 => exI .u32 (h59.cell ⟨g18, 0 + 0 + 1 + 1 + 1 + 1 + 1 + 1, none⟩) fun x85 => exI .u32 (h59.cell ⟨g18, 0 + 0 + 1 + 1 + 1 + 1 + 1 + 1 + 1, none⟩) fun x86 => exS (h59.cell ⟨g18, 0 + 0 + 1 + 1 + 1 + 1 + 1 + 1 + 1 + 1, none⟩) fun x87 => exS (h59.cell ⟨g18, 0 + 0 + 1 + 1 + 1 + 1 + 1 + 1 + 1 + 1 + 1, none⟩) fun x88 => gnew [Value.int .i64 0, Value.int .i64 0, Value.int .i64 0, Value.int .i64 0, Value.int .i64 0, Value.int .u32 0, Value.int .u32 0, Value.int .u32 0, Value.slice none 0 0, Value.slice none 0 0] 0 h59 fun g89 h90 => gput g89 (0) [Value.int .i64 x79, Value.int .i64 x80, Value.int .i64 x81, Value.int .i64 x82, Value.int .i64 x83, Value.int .u32 x84, Value.int .u32 x85, Value.int .u32 x86, Value.slice x87.a x87.n x87.c, Value.slice x88.a x88.n x88.c] h90 fun h91 => exS (h91.cell ⟨g57, 0 + 9, none⟩) fun x92 => gput g89 (0 + 9) [Value.slice none 0 0] h91 fun h93 => gput g57 (0 + 9) [Value.slice none 0 0] h93 fun h94 => exI .i64 (h94.cell ⟨g89, 0, none⟩) fun x95 => exI .i64 (h94.cell ⟨g89, 0 + 1, none⟩) fun x96 => exI .i64 (h94.cell ⟨g89, 0 + 1 + 1, none⟩) fun x97 => exI .i64 (h94.cell ⟨g89, 0 + 1 + 1 + 1, none⟩) fun x98 => exI .i64 (h94.cell ⟨g89, 0 + 1 + 1 + 1 + 1, none⟩) fun x99 => exI .u32 (h94.cell ⟨g89, 0 + 1 + 1 + 1 + 1 + 1, none⟩) fun x100 => exI .u32 (h94.cell ⟨g89, 0 + 1 + 1 + 1 + 1 + 1 + 1, none⟩) fun x101 => exI .u32 (h94.cell ⟨g89, 0 + 1 + 1 + 1 + 1 + 1 + 1 + 1, none⟩) fun x102 => exS (h94.cell ⟨g89, 0 + 1 + 1 + 1 + 1 + 1 + 1 + 1 + 1, none⟩) fun x103 => exS (h94.cell ⟨g89, 0 + 1 + 1 + 1 + 1 + 1 + 1 + 1 + 1 + 1, none⟩) fun x104 => exI .i64 (h94.cell ⟨g57, 0, none⟩) fun x105 => exI .i64 (h94.cell ⟨g57, 0 + 1, none⟩) fun x106 => exI .i64 (h94.cell ⟨g57, 0 + 1 + 1, none⟩) fun x107 => exI .i64 (h94.cell ⟨g57, 0 + 1 + 1 + 1, none⟩) fun x108 => exI .i64 (h94.cell ⟨g57, 0 + 1 + 1 + 1 + 1, none⟩) fun x109 => exI .u32 (h94.cell ⟨g57, 0 + 1 + 1 + 1 + 1 + 1, none⟩) fun x110 => exI .u32 (h94.cell ⟨g57, 0 + 1 + 1 + 1 + 1 + 1 + 1, none⟩) fun x111 => exI .u32 (h94.cell ⟨g57, 0 + 1 + 1 + 1 + 1 + 1 + 1 + 1, none⟩) fun x112 => exS (h94.cell ⟨g57, 0 + 1 + 1 + 1 + 1 + 1 + 1 + 1 + 1, none⟩) fun x113 => exS (h94.cell ⟨g57, 0 + 1 + 1 + 1 + 1 + 1 + 1 + 1 + 1 + 1, none⟩) fun x114 => F_ref24_SameHead x95 x96 x97 x98 x99 x100 x101 x102 x103 x104 x105 x106 x107 x108 x109 x110 x111 x112 x113 x114 h94 fun r115 h116 => (bif !r115 then gput g20 (0) [Value.int .i64 0, Value.int .i64 0, Value.int .i64 0, Value.int .i64 0, Value.int .i64 0, Value.int .u32 0, Value.int .u32 0, Value.int .u32 0, Value.slice none 0 0, Value.slice none 0 0, Value.int .i64 0, Value.int .i64 0, Value.int .i64 0, Value.int .u32 0, Value.int .u32 0, Value.slice none 0 0, Value.slice none 0 0, Value.slice none 0 0] h116 fun h117 => exI .i64 (h117.cell ⟨g20, 0, none⟩) fun x118 => exI .i64 (h117.cell ⟨g20, 0 + 1, none⟩) fun x119 => exI .i64 (h117.cell ⟨g20, 0 + 1 + 1, none⟩) fun x120 => exI .i64 (h117.cell ⟨g20, 0 + 1 + 1 + 1, none⟩) fun x121 => exI .i64 (h117.cell ⟨g20, 0 + 1 + 1 + 1 + 1, none⟩) fun x122 => exI .u32 (h117.cell ⟨g20, 0 + 1 + 1 + 1 + 1 + 1, none⟩) fun x123 => exI .u32 (h117.cell ⟨g20, 0 + 1 + 1 + 1 + 1 + 1 + 1, none⟩) fun x124 => exI .u32 (h117.cell ⟨g20, 0 + 1 + 1 + 1 + 1 + 1 + 1 + 1, none⟩) fun x125 => exS (h117.cell ⟨g20, 0 + 1 + 1 + 1 + 1 + 1 + 1 + 1 + 1, none⟩) fun x126 => exS (h117.cell ⟨g20, 0 + 1 + 1 + 1 + 1 + 1 + 1 + 1 + 1 + 1, none⟩) fun x127 => exI .i64 (h117.cell ⟨g20, 0 + 1 + 1 + 1 + 1 + 1 + 1 + 1 + 1 + 1 + 1, none⟩) fun x128 => exI .i64 (h117.cell ⟨g20, 0 + 1 + 1 + 1 + 1 + 1 + 1 + 1 + 1 + 1 + 1 + 1, none⟩) fun x129 => exI .i64 (h117.cell ⟨g20, 0 + 1 + 1 + 1 + 1 + 1 + 1 + 1 + 1 + 1 + 1 + 1 + 1, none⟩) fun x130 => exI .u32 (h117.cell ⟨g20, 0 + 1 + 1 + 1 + 1 + 1 + 1 + 1 + 1 + 1 + 1 + 1 + 1 + 1, none⟩) fun x131 => exI .u32 (h117.cell ⟨g20, 0 + 1 + 1 + 1 + 1 + 1 + 1 + 1 + 1 + 1 + 1 + 1 + 1 + 1 + 1, none⟩) fun x132 => exS (h117.cell ⟨g20, 0 + 1 + 1 + 1 + 1 + 1 + 1 + 1 + 1 + 1 + 1 + 1 + 1 + 1 + 1 + 1, none⟩) fun x133 => exS (h117.cell ⟨g20, 0 + 1 + 1 + 1 + 1 + 1 + 1 + 1 + 1 + 1 + 1 + 1 + 1 + 1 + 1 + 1 + 1, none⟩) fun x134 => exS (h117.cell ⟨g20, 0 + 1 + 1 + 1 + 1 + 1 + 1 + 1 + 1 + 1 + 1 + 1 + 1 + 1 + 1 + 1 + 1 + 1, none⟩) fun x135 => K x118 x119 x120 x121 x122 x123 x124 x125 x126 x127 x128 x129 x130 x131 x132 x133 x134 x135 15 h117 else F_ref26_list x92 h116 fun r136 h137 => (bif r136 != 0 then gput g20 (0) [Value.int .i64 0, Value.int .i64 0, Value.int .i64 0, Value.int .i64 0, Value.int .i64 0, Value.int .u32 0, Value.int .u32 0, Value.int .u32 0, Value.slice none 0 0, Value.slice none 0 0, Value.int .i64 0, Value.int .i64 0, Value.int .i64 0, Value.int .u32 0, Value.int .u32 0, Value.slice none 0 0, Value.slice none 0 0, Value.slice none 0 0] h137 fun h138 => exI .i64 (h138.cell ⟨g20, 0, none⟩) fun x139 => exI .i64 (h138.cell ⟨g20, 0 + 1, none⟩) fun x140 => exI .i64 (h138.cell ⟨g20, 0 + 1 + 1, none⟩) fun x141 => exI .i64 (h138.cell ⟨g20, 0 + 1 + 1 + 1, none⟩) fun x142 => exI .i64 (h138.cell ⟨g20, 0 + 1 + 1 + 1 + 1, none⟩) fun x143 => exI .u32 (h138.cell ⟨g20, 0 + 1 + 1 + 1 + 1 + 1, none⟩) fun x144 => exI .u32 (h138.cell ⟨g20, 0 + 1 + 1 + 1 + 1 + 1 + 1, none⟩) fun x145 => exI .u32 (h138.cell ⟨g20, 0 + 1 + 1 + 1 + 1 + 1 + 1 + 1, none⟩) fun x146 => exS (h138.cell ⟨g20, 0 + 1 + 1 + 1 + 1 + 1 + 1 + 1 + 1, none⟩) fun x147 => exS (h138.cell ⟨g20, 0 + 1 + 1 + 1 + 1 + 1 + 1 + 1 + 1 + 1, none⟩) fun x148 => exI .i64 (h138.cell ⟨g20, 0 + 1 + 1 + 1 + 1 + 1 + 1 + 1 + 1 + 1 + 1, none⟩) fun x149 => exI .i64 (h138.cell ⟨g20, 0 + 1 + 1 + 1 + 1 + 1 + 1 + 1 + 1 + 1 + 1 + 1, none⟩) fun x150 => exI .i64 (h138.cell ⟨g20, 0 + 1 + 1 + 1 + 1 + 1 + 1 + 1 + 1 + 1 + 1 + 1 + 1, none⟩) fun x151 => exI .u32 (h138.cell ⟨g20, 0 + 1 + 1 + 1 + 1 + 1 + 1 + 1 + 1 + 1 + 1 + 1 + 1 + 1, none⟩) fun x152 => exI .u32 (h138.cell ⟨g20, 0 + 1 + 1 + 1 + 1 + 1 + 1 + 1 + 1 + 1 + 1 + 1 + 1 + 1 + 1, none⟩) fun x153 => exS (h138.cell ⟨g20, 0 + 1 + 1 + 1 + 1 + 1 + 1 + 1 + 1 + 1 + 1 + 1 + 1 + 1 + 1 + 1, none⟩) fun x154 => exS (h138.cell ⟨g20, 0 + 1 + 1 + 1 + 1 + 1 + 1 + 1 + 1 + 1 + 1 + 1 + 1 + 1 + 1 + 1 + 1, none⟩) fun x155 => exS (h138.cell ⟨g20, 0 + 1 + 1 + 1 + 1 + 1 + 1 + 1 + 1 + 1 + 1 + 1 + 1 + 1 + 1 + 1 + 1 + 1, none⟩) fun x156 => K x139 x140 x141 x142 x143 x144 x145 x146 x147 x148 x149 x150 x151 x152 x153 x154 x155 x156 r136 h138 else exI .u32 (h137.cell ⟨g57, 0 + 6, none⟩) fun x157 => F_ref02_Cursor_Left a1 h137 fun r158 h159 => (bif sameAt g57 (0 + 6) 1 h137 h159 then (bif decide ((IntKind.wrap .i64 x157) > r158) then gput g20 (0) [Value.int .i64 0, Value.int .i64 0, Value.int .i64 0, Value.int .i64 0, Value.int .i64 0, Value.int .u32 0, Value.int .u32 0, Value.int .u32 0, Value.slice none 0 0, Value.slice none 0 0, Value.int .i64 0, Value.int .i64 0, Value.int .i64 0, Value.int .u32 0, Value.int .u32 0, Value.slice none 0 0, Value.slice none 0 0, Value.slice none 0 0] h159 fun h160 => exI .i64 (h160.cell ⟨g20, 0, none⟩) fun x161 => exI .i64 (h160.cell ⟨g20, 0 + 1, none⟩) fun x162 => exI .i64 (h160.cell ⟨g20, 0 + 1 + 1, none⟩) fun x163 => exI .i64 (h160.cell ⟨g20, 0 + 1 + 1 + 1, none⟩) fun x164 => exI .i64 (h160.cell ⟨g20, 0 + 1 + 1 + 1 + 1, none⟩) fun x165 => exI .u32 (h160.cell ⟨g20, 0 + 1 + 1 + 1 + 1 + 1, none⟩) fun x166 => exI .u32 (h160.cell ⟨g20, 0 + 1 + 1 + 1 + 1 + 1 + 1, none⟩) fun x167 => exI .u32 (h160.cell ⟨g20, 0 + 1 + 1 + 1 + 1 + 1 + 1 + 1, none⟩) fun x168 => exS (h160.cell ⟨g20, 0 + 1 + 1 + 1 + 1 + 1 + 1 + 1 + 1, none⟩) fun x169 => exS (h160.cell ⟨g20, 0 + 1 + 1 + 1 + 1 + 1 + 1 + 1 + 1 + 1, none⟩) fun x170 => exI .i64 (h160.cell ⟨g20, 0 + 1 + 1 + 1 + 1 + 1 + 1 + 1 + 1 + 1 + 1, none⟩) fun x171 => exI .i64 (h160.cell ⟨g20, 0 + 1 + 1 + 1 + 1 + 1 + 1 + 1 + 1 + 1 + 1 + 1, none⟩) fun x172 => exI .i64 (h160.cell ⟨g20, 0 + 1 + 1 + 1 + 1 + 1 + 1 + 1 + 1 + 1 + 1 + 1 + 1, none⟩) fun x173 => exI .u32 (h160.cell ⟨g20, 0 + 1 + 1 + 1 + 1 + 1 + 1 + 1 + 1 + 1 + 1 + 1 + 1 + 1, none⟩) fun x174 => exI .u32 (h160.cell ⟨g20, 0 + 1 + 1 + 1 + 1 + 1 + 1 + 1 + 1 + 1 + 1 + 1 + 1 + 1 + 1, none⟩) fun x175 => exS (h160.cell ⟨g20, 0 + 1 + 1 + 1 + 1 + 1 + 1 + 1 + 1 + 1 + 1 + 1 + 1 + 1 + 1 + 1, none⟩) fun x176 => exS (h160.cell ⟨g20, 0 + 1 + 1 + 1 + 1 + 1 + 1 + 1 + 1 + 1 + 1 + 1 + 1 + 1 + 1 + 1 + 1, none⟩) fun x177 => exS (h160.cell ⟨g20, 0 + 1 + 1 + 1 + 1 + 1 + 1 + 1 + 1 + 1 + 1 + 1 + 1 + 1 + 1 + 1 + 1 + 1, none⟩) fun x178 => K x161 x162 x163 x164 x165 x166 x167 x168 x169 x170 x171 x172 x173 x174 x175 x176 x177 x178 14 h160 else exI .i64 (h159.cell ⟨g18, 0, none⟩) fun x179 => exI .i64 (h159.cell ⟨g18, 0 + 1, none⟩) fun x180 => exI .i64 (h159.cell ⟨g18, 0 + 1 + 1, none⟩) fun x181 => exI .i64 (h159.cell ⟨g18, 0 + 1 + 1 + 1, none⟩) fun x182 => exI .i64 (h159.cell ⟨g18, 0 + 1 + 1 + 1 + 1, none⟩) fun x183 => exI .u32 (h159.cell ⟨g18, 0 + 1 + 1 + 1 + 1 + 1, none⟩) fun x184 => exI .u32 (h159.cell ⟨g18, 0 + 1 + 1 + 1 + 1 + 1 + 1, none⟩) fun x185 => exI .u32 (h159.cell ⟨g18, 0 + 1 + 1 + 1 + 1 + 1 + 1 + 1, none⟩) fun x186 => exS (h159.cell ⟨g18, 0 + 1 + 1 + 1 + 1 + 1 + 1 + 1 + 1, none⟩) fun x187 => exS (h159.cell ⟨g18, 0 + 1 + 1 + 1 + 1 + 1 + 1 + 1 + 1 + 1, none⟩) fun x188 => exI .i64 (h159.cell ⟨g18, 0 + 1 + 1 + 1 + 1 + 1 + 1 + 1 + 1 + 1 + 1, none⟩) fun x189 => exI .i64 (h159.cell ⟨g18, 0 + 1 + 1 + 1 + 1 + 1 + 1 + 1 + 1 + 1 + 1 + 1, none⟩) fun x190 => exI .i64 (h159.cell ⟨g18, 0 + 1 + 1 + 1 + 1 + 1 + 1 + 1 + 1 + 1 + 1 + 1 + 1, none⟩) fun x191 => exI .u32 (h159.cell ⟨g18, 0 + 1 + 1 + 1 + 1 + 1 + 1 + 1 + 1 + 1 + 1 + 1 + 1 + 1, none⟩) fun x192 => exI .u32 (h159.cell ⟨g18, 0 + 1 + 1 + 1 + 1 + 1 + 1 + 1 + 1 + 1 + 1 + 1 + 1 + 1 + 1, none⟩) fun x193 => exS (h159.cell ⟨g18, 0 + 1 + 1 + 1 + 1 + 1 + 1 + 1 + 1 + 1 + 1 + 1 + 1 + 1 + 1 + 1, none⟩) fun x194 => exI .u32 (h159.cell ⟨g57, 0 + 6, none⟩) fun x195 => F_ref02_Cursor_Take a1 (IntKind.wrap .i64 x195) h159 fun r196 h197 => gput g20 (0) [Value.int .i64 x179, Value.int .i64 x180, Value.int .i64 x181, Value.int .i64 x182, Value.int .i64 x183, Value.int .u32 x184, Value.int .u32 x185, Value.int .u32 x186, Value.slice x187.a x187.n x187.c, Value.slice x188.a x188.n x188.c, Value.int .i64 x189, Value.int .i64 x190, Value.int .i64 x191, Value.int .u32 x192, Value.int .u32 x193, Value.slice x194.a x194.n x194.c, Value.slice x92.a x92.n x92.c, Value.slice r196.a r196.n r196.c] h197 fun h198 => (bif sameAt g18 (0) 16 h159 h197 then exI .i64 (h198.cell ⟨g20, 0, none⟩) fun x199 => exI .i64 (h198.cell ⟨g20, 0 + 1, none⟩) fun x200 => exI .i64 (h198.cell ⟨g20, 0 + 1 + 1, none⟩) fun x201 => exI .i64 (h198.cell ⟨g20, 0 + 1 + 1 + 1, none⟩) fun x202 => exI .i64 (h198.cell ⟨g20, 0 + 1 + 1 + 1 + 1, none⟩) fun x203 => exI .u32 (h198.cell ⟨g20, 0 + 1 + 1 + 1 + 1 + 1, none⟩) fun x204 => exI .u32 (h198.cell ⟨g20, 0 + 1 + 1 + 1 + 1 + 1 + 1, none⟩) fun x205 => exI .u32 (h198.cell ⟨g20, 0 + 1 + 1 + 1 + 1 + 1 + 1 + 1, none⟩) fun x206 => exS (h198.cell ⟨g20, 0 + 1 + 1 + 1 + 1 + 1 + 1 + 1 + 1, none⟩) fun x207 => exS (h198.cell ⟨g20, 0 + 1 + 1 + 1 + 1 + 1 + 1 + 1 + 1 + 1, none⟩) fun x208 => exI .i64 (h198.cell ⟨g20, 0 + 1 + 1 + 1 + 1 + 1 + 1 + 1 + 1 + 1 + 1, none⟩) fun x209 => exI .i64 (h198.cell ⟨g20, 0 + 1 + 1 + 1 + 1 + 1 + 1 + 1 + 1 + 1 + 1 + 1, none⟩) fun x210 => exI .i64 (h198.cell ⟨g20, 0 + 1 + 1 + 1 + 1 + 1 + 1 + 1 + 1 + 1 + 1 + 1 + 1, none⟩) fun x211 => exI .u32 (h198.cell ⟨g20, 0 + 1 + 1 + 1 + 1 + 1 + 1 + 1 + 1 + 1 + 1 + 1 + 1 + 1, none⟩) fun x212 => exI .u32 (h198.cell ⟨g20, 0 + 1 + 1 + 1 + 1 + 1 + 1 + 1 + 1 + 1 + 1 + 1 + 1 + 1 + 1, none⟩) fun x213 => exS (h198.cell ⟨g20, 0 + 1 + 1 + 1 + 1 + 1 + 1 + 1 + 1 + 1 + 1 + 1 + 1 + 1 + 1 + 1, none⟩) fun x214 => exS (h198.cell ⟨g20, 0 + 1 + 1 + 1 + 1 + 1 + 1 + 1 + 1 + 1 + 1 + 1 + 1 + 1 + 1 + 1 + 1, none⟩) fun x215 => exS (h198.cell ⟨g20, 0 + 1 + 1 + 1 + 1 + 1 + 1 + 1 + 1 + 1 + 1 + 1 + 1 + 1 + 1 + 1 + 1 + 1, none⟩) fun x216 => K x199 x200 x201 x202 x203 x204 x205 x206 x207 x208 x209 x210 x211 x212 x213 x214 x215 x216 0 h198 else none)) else none))))) := by kernel_rfl
noncomputable def F_ref26_one (R : Nat) (a1 : Option Addr) (a2 : Int) (a3 : Int) (a4 : Int) (a5 : Int) (a6 : Int) (a7 : Int) (a8 : Int) (a9 : Int) (a10 : Sl) (a11 : Sl) (a12 : Int) (a13 : Int) (a14 : Int) (a15 : Int) (a16 : Int) (a17 : Sl) (h : GH) (K : Int → Int → Int → Int → Int → Int → Int → Int → Sl → Sl → Int → Int → Int → Int → Int → Sl → Sl → Sl → Int → GH → Option β) : Option β := G_ref26_one (F_ref24_ReadLocal R) (F_ref24_SameHead R) (F_ref26_list R) (F_ref02_Cursor_Left R) (F_ref02_Cursor_Take R) R a1 a2 a3 a4 a5 a6 a7 a8 a9 a10 a11 a12 a13 a14 a15 a16 a17 h K
set_option maxRecDepth 100000 in
theorem CF_ref26_one_sim {R : Nat} : SimOrc Try.prog (CF_ref26_one (F_ref24_ReadLocal R) (F_ref24_SameHead R) (F_ref26_list R) (F_ref02_Cursor_Left R) (F_ref02_Cursor_Take R) (β := β)) := by
  intro f args h K r hc
  unfold CF_ref26_one at hc
  cases hb : Nat.beq f 70 with
  | true =>
    rw [hb] at hc
    simp only [cond_true] at hc
    obtain rfl := Nat.eq_of_beq_eq_true hb
    split at hc
    · exact any_call (F_ref24_ReadLocal_sim (K := K) hc)
    · cases hc
  | false =>
  rw [hb] at hc
  simp only [cond_false] at hc
  cases hb : Nat.beq f 71 with
  | true =>
    rw [hb] at hc
    simp only [cond_true] at hc
    obtain rfl := Nat.eq_of_beq_eq_true hb
    split at hc
    · exact any_call (F_ref24_SameHead_sim (K := K) hc)
    · cases hc
  | false =>
  rw [hb] at hc
  simp only [cond_false] at hc
  cases hb : Nat.beq f 32 with
  | true =>
    rw [hb] at hc
    simp only [cond_true] at hc
    obtain rfl := Nat.eq_of_beq_eq_true hb
    split at hc
    · exact any_call (F_ref26_list_sim (K := K) hc)
    · cases hc
  | false =>
  rw [hb] at hc
  simp only [cond_false] at hc
  cases hb : Nat.beq f 42 with
  | true =>
    rw [hb] at hc
    simp only [cond_true] at hc
    obtain rfl := Nat.eq_of_beq_eq_true hb
    split at hc
    · exact any_call (F_ref02_Cursor_Left_sim (K := K) hc)
    · cases hc
  | false =>
  rw [hb] at hc
  simp only [cond_false] at hc
  cases hb : Nat.beq f 72 with
  | true =>
    rw [hb] at hc
    simp only [cond_true] at hc
    obtain rfl := Nat.eq_of_beq_eq_true hb
    split at hc
    · exact any_call (F_ref02_Cursor_Take_sim (K := K) hc)
    · cases hc
  | false =>
  rw [hb] at hc
  simp only [cond_false] at hc
  cases hc
set_option maxRecDepth 100000 in
theorem F_ref26_one_sim {R : Nat} {r : β} {a1 : Option Addr} {a2 : Int} {a3 : Int} {a4 : Int} {a5 : Int} {a6 : Int} {a7 : Int} {a8 : Int} {a9 : Int} {a10 : Sl} {a11 : Sl} {a12 : Int} {a13 : Int} {a14 : Int} {a15 : Int} {a16 : Int} {a17 : Sl} {h : GH} {K : Value → GH → Option β} (hc : F_ref26_one R a1 a2 a3 a4 a5 a6 a7 a8 a9 a10 a11 a12 a13 a14 a15 a16 a17 h (fun q0 q1 q2 q3 q4 q5 q6 q7 q8 q9 q10 q11 q12 q13 q14 q15 q16 q17 q18 h' => K (Value.tuple #[Value.agg #[Value.int .i64 q0, Value.int .i64 q1, Value.int .i64 q2, Value.int .i64 q3, Value.int .i64 q4, Value.int .u32 q5, Value.int .u32 q6, Value.int .u32 q7, Value.slice q8.a q8.n q8.c, Value.slice q9.a q9.n q9.c, Value.int .i64 q10, Value.int .i64 q11, Value.int .i64 q12, Value.int .u32 q13, Value.int .u32 q14, Value.slice q15.a q15.n q15.c, Value.slice q16.a q16.n q16.c, Value.slice q17.a q17.n q17.c], Value.int .i64 q18]) h') = some r) : ∃ v h', K v h' = some r ∧ CallSim Try.prog 41 [Value.pointer a1, Value.agg #[Value.int .i64 a2, Value.int .i64 a3, Value.int .i64 a4, Value.int .i64 a5, Value.int .i64 a6, Value.int .u32 a7, Value.int .u32 a8, Value.int .u32 a9, Value.slice a10.a a10.n a10.c, Value.slice a11.a a11.n a11.c, Value.int .i64 a12, Value.int .i64 a13, Value.int .i64 a14, Value.int .u32 a15, Value.int .u32 a16, Value.slice a17.a a17.n a17.c]] h v h' := by
  unfold F_ref26_one G_ref26_one at hc
  obtain ⟨v, h', hk, hs⟩ := gfun_sim (CF_ref26_one_sim (R := R)) mixed_ok (fun f h => by cases h) Try.func41 (by kernel_rfl) hc
  obtain ⟨vs, rfl, hl, hk⟩ := exTup_v hk
  obtain ⟨v0, t0, hk⟩ := exV_v hk
  obtain ⟨cs0, f0, hk⟩ := exAg_v hk; cases f0; obtain ⟨hl0, hk⟩ := beq_v hk
  obtain ⟨u1, e1, hk⟩ := exI_v hk
  obtain ⟨u2, e2, hk⟩ := exI_v hk
  obtain ⟨u3, e3, hk⟩ := exI_v hk
  obtain ⟨u4, e4, hk⟩ := exI_v hk
  obtain ⟨u5, e5, hk⟩ := exI_v hk
  obtain ⟨u6, e6, hk⟩ := exI_v hk
  obtain ⟨u7, e7, hk⟩ := exI_v hk
  obtain ⟨u8, e8, hk⟩ := exI_v hk
  obtain ⟨u9, e9, hk⟩ := exS_v hk
  obtain ⟨u10, e10, hk⟩ := exS_v hk
  obtain ⟨u11, e11, hk⟩ := exI_v hk
  obtain ⟨u12, e12, hk⟩ := exI_v hk
  obtain ⟨u13, e13, hk⟩ := exI_v hk
  obtain ⟨u14, e14, hk⟩ := exI_v hk
  obtain ⟨u15, e15, hk⟩ := exI_v hk
  obtain ⟨u16, e16, hk⟩ := exS_v hk
  obtain ⟨u17, e17, hk⟩ := exS_v hk
  obtain ⟨u18, e18, hk⟩ := exS_v hk
  obtain rfl := arr18 hl0 e1 e2 e3 e4 e5 e6 e7 e8 e9 e10 e11 e12 e13 e14 e15 e16 e17 e18
  obtain ⟨v1, t1, hk⟩ := exV_v hk
  obtain ⟨u19, e19, hk⟩ := exI_v hk; cases e19
  obtain rfl := arr2 hl t0 t1
  exact ⟨_, h', hk, hs⟩
/-! F15 duffel/duffelref26.Scan -/
def CF_ref26_Scan (F_ref26_end : Sl → GH → (Int → Int → Int → Int → Int → Int → Sl → Int → Int → GH → Option β) → Option β) (F_ref26_heads : Sl → Int → GH → (Sl → Int → GH → Option β) → Option β) (F_ref26_one : Option Addr → Int → Int → Int → Int → Int → Int → Int → Int → Sl → Sl → Int → Int → Int → Int → Int → Sl → GH → (Int → Int → Int → Int → Int → Int → Int → Int → Sl → Sl → Int → Int → Int → Int → Int → Sl → Sl → Sl → Int → GH → Option β) → Option β) (F_ref02_Cursor_Left : Option Addr → GH → (Int → GH → Option β) → Option β) : Orc β := fun f args h K => bif Nat.beq f 39 then (match args with | [.slice p1a p1n p1c] => F_ref26_end ⟨p1a, p1n, p1c⟩ h (fun q108 q109 q110 q111 q112 q113 q114 q115 q116 h' => K (Value.tuple #[Value.agg #[Value.int .i64 q108, Value.int .i64 q109, Value.int .i64 q110, Value.int .i64 q111, Value.int .u32 q112, Value.int .u32 q113, Value.slice q114.a q114.n q114.c], Value.int .i64 q115, Value.int .i64 q116]) h') | _ => none) else (bif Nat.beq f 40 then (match args with | [.slice p1a p1n p1c, .int .i64 p2] => F_ref26_heads ⟨p1a, p1n, p1c⟩ p2 h (fun q92 q93 h' => K (Value.tuple #[Value.slice q92.a q92.n q92.c, Value.int .i64 q93]) h') | _ => none) else (bif Nat.beq f 41 then (match args with | [.pointer p1, .agg ⟨[.int .i64 p2, .int .i64 p3, .int .i64 p4, .int .i64 p5, .int .i64 p6, .int .u32 p7, .int .u32 p8, .int .u32 p9, .slice p10a p10n p10c, .slice p11a p11n p11c, .int .i64 p12, .int .i64 p13, .int .i64 p14, .int .u32 p15, .int .u32 p16, .slice p17a p17n p17c]⟩] => F_ref26_one p1 p2 p3 p4 p5 p6 p7 p8 p9 ⟨p10a, p10n, p10c⟩ ⟨p11a, p11n, p11c⟩ p12 p13 p14 p15 p16 ⟨p17a, p17n, p17c⟩ h (fun q217 q218 q219 q220 q221 q222 q223 q224 q225 q226 q227 q228 q229 q230 q231 q232 q233 q234 q235 h' => K (Value.tuple #[Value.agg #[Value.int .i64 q217, Value.int .i64 q218, Value.int .i64 q219, Value.int .i64 q220, Value.int .i64 q221, Value.int .u32 q222, Value.int .u32 q223, Value.int .u32 q224, Value.slice q225.a q225.n q225.c, Value.slice q226.a q226.n q226.c, Value.int .i64 q227, Value.int .i64 q228, Value.int .i64 q229, Value.int .u32 q230, Value.int .u32 q231, Value.slice q232.a q232.n q232.c, Value.slice q233.a q233.n q233.c, Value.slice q234.a q234.n q234.c], Value.int .i64 q235]) h') | _ => none) else (bif Nat.beq f 42 then (match args with | [.pointer p1] => F_ref02_Cursor_Left p1 h (fun q11 h' => K (Value.int .i64 q11) h') | _ => none) else none)))
def HF_ref26_Scan : Hints := ⟨[(10, [5, 8, 10, 11, 12], [(0, [(5, .ty 15), (10, .ty 88), (11, .ty 39)])], some [(2, .ty 39), (3, .ty 23), (4, .ty 3)])], [], []⟩
noncomputable def BF_ref26_Scan : Code := match Try.f15.body with | some c => c | none => .skip
noncomputable def F_ref26_Scan_l0 (F_ref26_end : Sl → GH → (Int → Int → Int → Int → Int → Int → Sl → Int → Int → GH → Option β) → Option β) (F_ref26_heads : Sl → Int → GH → (Sl → Int → GH → Option β) → Option β) (F_ref26_one : Option Addr → Int → Int → Int → Int → Int → Int → Int → Int → Sl → Sl → Int → Int → Int → Int → Int → Sl → GH → (Int → Int → Int → Int → Int → Int → Int → Int → Sl → Sl → Int → Int → Int → Int → Int → Sl → Sl → Sl → Int → GH → Option β) → Option β) (F_ref02_Cursor_Left : Option Addr → GH → (Int → GH → Option β) → Option β) (R : Nat) (n : Nat) (y26 : Option Addr) (y27 : Sl) (y28 : Option Addr) (y29 : Sl) (y30 : Int) (h : GH) (K0 : Option Addr → Option Addr → Sl → GH → Option β) (Kr : Sl → Sl → Int → GH → Option β) : Option β := gloop (gcode Try.prog (CF_ref26_Scan F_ref26_end F_ref26_heads F_ref26_one F_ref02_Cursor_Left) Try.f15.ntmps HF_ref26_Scan R (at_ [true, true, true, true, true, true, true, false, true, false, false] BF_ref26_Scan)) [5, 8, 10, 11, 12] n [(5, Value.pointer y26), (8, Value.slice y27.a y27.n y27.c), (10, Value.pointer y28), (11, Value.slice y29.a y29.n y29.c), (12, Value.int .i64 y30)] h (fun i e' h' => bif Nat.beq i 0 then (exP (some (e'.get 5)) fun u116 => exP (some (e'.get 10)) fun u117 => exS (some (e'.get 11)) fun u118 => K0 u116 u117 u118 h') else none) (fun e' h' => exS (some (e'.get 2)) fun u119 => exS (some (e'.get 3)) fun u120 => exI .i64 (some (e'.get 4)) fun u121 => Kr u119 u120 u121 h')
set_option maxRecDepth 100000 in
theorem F_ref26_Scan_l0_succ (F_ref26_end : Sl → GH → (Int → Int → Int → Int → Int → Int → Sl → Int → Int → GH → Option β) → Option β) (F_ref26_heads : Sl → Int → GH → (Sl → Int → GH → Option β) → Option β) (F_ref26_one : Option Addr → Int → Int → Int → Int → Int → Int → Int → Int → Sl → Sl → Int → Int → Int → Int → Int → Sl → GH → (Int → Int → Int → Int → Int → Int → Int → Int → Sl → Sl → Int → Int → Int → Int → Int → Sl → Sl → Sl → Int → GH → Option β) → Option β) (F_ref02_Cursor_Left : Option Addr → GH → (Int → GH → Option β) → Option β) (R : Nat) (n : Nat) (y26 : Option Addr) (y27 : Sl) (y28 : Option Addr) (y29 : Sl) (y30 : Int) (h : GH) (K0 : Option Addr → Option Addr → Sl → GH → Option β) (Kr : Sl → Sl → Int → GH → Option β) : F_ref26_Scan_l0 F_ref26_end F_ref26_heads F_ref26_one F_ref02_Cursor_Left R (n + 1) y26 y27 y28 y29 y30 h K0 Kr =
    (bif decide (y30 < ((y27.n : Nat) : Int)) then exA y27.a fun g37 o38 => within y30 y27.n (exI .i64 (h.cell ⟨g37, o38 + y30.toNat * 16, none⟩) fun x39 => exI .i64 (h.cell ⟨g37, o38 + y30.toNat * 16 + 1, none⟩) fun x40 => exI .i64 (h.cell ⟨g37, o38 + y30.toNat * 16 + 1 + 1, none⟩) fun x41 => exI .i64 (h.cell ⟨g37, o38 + y30.toNat * 16 + 1 + 1 + 1, none⟩) fun x42 => exI .i64 (h.cell ⟨g37, o38 + y30.toNat * 16 + 1 + 1 + 1 + 1, none⟩) fun x43 => exI .u32 (h.cell ⟨g37, o38 + y30.toNat * 16 + 1 + 1 + 1 + 1 + 1, none⟩) fun x44 => exI .u32 (h.cell ⟨g37, o38 + y30.toNat * 16 + 1 + 1 + 1 + 1 + 1 + 1, none⟩) fun x45 => exI .u32 (h.cell ⟨g37, o38 + y30.toNat * 16 + 1 + 1 + 1 + 1 + 1 + 1 + 1, none⟩) fun x46 => exS (h.cell ⟨g37, o38 + y30.toNat * 16 + 1 + 1 + 1 + 1 + 1 + 1 + 1 + 1, none⟩) fun x47 => exS (h.cell ⟨g37, o38 + y30.toNat * 16 + 1 + 1 + 1 + 1 + 1 + 1 + 1 + 1 + 1, none⟩) fun x48 => exI .i64 (h.cell ⟨g37, o38 + y30.toNat * 16 + 1 + 1 + 1 + 1 + 1 + 1 + 1 + 1 + 1 + 1, none⟩) fun x49 => exI .i64 (h.cell ⟨g37, o38 + y30.toNat * 16 + 1 + 1 + 1 + 1 + 1 + 1 + 1 + 1 + 1 + 1 + 1, none⟩) fun x50 => exI .i64 (h.cell ⟨g37, o38 + y30.toNat * 16 + 1 + 1 + 1 + 1 + 1 + 1 + 1 + 1 + 1 + 1 + 1 + 1, none⟩) fun x51 => exI .u32 (h.cell ⟨g37, o38 + y30.toNat * 16 + 1 + 1 + 1 + 1 + 1 + 1 + 1 + 1 + 1 + 1 + 1 + 1 + 1, none⟩) fun x52 => exI .u32 (h.cell ⟨g37, o38 + y30.toNat * 16 + 1 + 1 + 1 + 1 + 1 + 1 + 1 + 1 + 1 + 1 + 1 + 1 + 1 + 1, none⟩) fun x53 => exS (h.cell ⟨g37, o38 + y30.toNat * 16 + 1 + 1 + 1 + 1 + 1 + 1 + 1 + 1 + 1 + 1 + 1 + 1 + 1 + 1 + 1, none⟩) fun x54 => F_ref26_one y28 x39 x40 x41 x42 x43 x44 x45 x46 x47 x48 x49 x50 x51 x52 x53 x54 h fun r55 r56 r57 r58 r59 r60 r61 r62 r63 r64 r65 r66 r67 r68 r69 r70 r71 r72 r73 h74 => gnew [Value.int .i64 0, Value.int .i64 0, Value.int .i64 0, Value.int .i64 0, Value.int .i64 0, Value.int .u32 0, Value.int .u32 0, Value.int .u32 0, Value.slice none 0 0, Value.slice none 0 0, Value.int .i64 0, Value.int .i64 0, Value.int .i64 0, Value.int .u32 0, Value.int .u32 0, Value.slice none 0 0, Value.slice none 0 0, Value.slice none 0 0] 0 h74 fun g75 h76 => gput g75 (0) [Value.int .i64 r55, Value.int .i64 r56, Value.int .i64 r57, Value.int .i64 r58, Value.int .i64 r59, Value.int .u32 r60, Value.int .u32 r61, Value.int .u32 r62, Value.slice r63.a r63.n r63.c, Value.slice r64.a r64.n r64.c, Value.int .i64 r65, Value.int .i64 r66, Value.int .i64 r67, Value.int .u32 r68, Value.int .u32 r69, Value.slice r70.a r70.n r70.c, Value.slice r71.a r71.n r71.c, Value.slice r72.a r72.n r72.c] h76 fun h77 => (bif r73 != 0 then Kr ⟨none, 0, 0⟩ ⟨none, 0, 0⟩ r73 h77 else exI .i64 (h77.cell ⟨g75, 0, none⟩) fun x78 => exI .i64 (h77.cell ⟨g75, 0 + 1, none⟩) fun x79 => exI .i64 (h77.cell ⟨g75, 0 + 1 + 1, none⟩) fun x80 => exI .i64 (h77.cell ⟨g75, 0 + 1 + 1 + 1, none⟩) fun x81 => exI .i64 (h77.cell ⟨g75, 0 + 1 + 1 + 1 + 1, none⟩) fun x82 => exI .u32 (h77.cell ⟨g75, 0 + 1 + 1 + 1 + 1 + 1, none⟩) fun x83 => exI .u32 (h77.cell ⟨g75, 0 + 1 + 1 + 1 + 1 + 1 + 1, none⟩) fun x84 => exI .u32 (h77.cell ⟨g75, 0 + 1 + 1 + 1 + 1 + 1 + 1 + 1, none⟩) fun x85 => exS (h77.cell ⟨g75, 0 + 1 + 1 + 1 + 1 + 1 + 1 + 1 + 1, none⟩) fun x86 => exS (h77.cell ⟨g75, 0 + 1 + 1 + 1 + 1 + 1 + 1 + 1 + 1 + 1, none⟩) fun x87 => exI .i64 (h77.cell ⟨g75, 0 + 1 + 1 + 1 + 1 + 1 + 1 + 1 + 1 + 1 + 1, none⟩) fun x88 => exI .i64 (h77.cell ⟨g75, 0 + 1 + 1 + 1 + 1 + 1 + 1 + 1 + 1 + 1 + 1 + 1, none⟩) fun x89 => exI .i64 (h77.cell ⟨g75, 0 + 1 + 1 + 1 + 1 + 1 + 1 + 1 + 1 + 1 + 1 + 1 + 1, none⟩) fun x90 => exI .u32 (h77.cell ⟨g75, 0 + 1 + 1 + 1 + 1 + 1 + 1 + 1 + 1 + 1 + 1 + 1 + 1 + 1, none⟩) fun x91 => exI .u32 (h77.cell ⟨g75, 0 + 1 + 1 + 1 + 1 + 1 + 1 + 1 + 1 + 1 + 1 + 1 + 1 + 1 + 1, none⟩) fun x92 => exS (h77.cell ⟨g75, 0 + 1 + 1 + 1 + 1 + 1 + 1 + 1 + 1 + 1 + 1 + 1 + 1 + 1 + 1 + 1, none⟩) fun x93 => exS (h77.cell ⟨g75, 0 + 1 + 1 + 1 + 1 + 1 + 1 + 1 + 1 + 1 + 1 + 1 + 1 + 1 + 1 + 1 + 1, none⟩) fun x94 => exS (h77.cell ⟨g75, 0 + 1 + 1 + 1 + 1 + 1 + 1 + 1 + 1 + 1 + 1 + 1 + 1 + 1 + 1 + 1 + 1 + 1, none⟩) fun x95 => gnew [Value.int .i64 x78, Value.int .i64 x79, Value.int .i64 x80, Value.int .i64 x81, Value.int .i64 x82, Value.int .u32 x83, Value.int .u32 x84, Value.int .u32 x85, Value.slice x86.a x86.n x86.c, Value.slice x87.a x87.n x87.c, Value.int .i64 x88, Value.int .i64 x89, Value.int .i64 x90, Value.int .u32 x91, Value.int .u32 x92, Value.slice x93.a x93.n x93.c, Value.slice x94.a x94.n x94.c, Value.slice x95.a x95.n x95.c] 18 h77 fun g96 h97 => gappS 18 208 y29 ⟨(some ⟨g96, 0, none⟩), 1, 1⟩ h97 fun s98 h99 => F_ref26_Scan_l0 F_ref26_end F_ref26_heads F_ref26_one F_ref02_Cursor_Left R n y26 y27 y28 s98 (IntKind.wrap .i64 (y30 + 1)) h99 K0 Kr)) else K0 y26 y28 y29 h) := by kernel_rfl
noncomputable def G_ref26_Scan (F_ref26_end : Sl → GH → (Int → Int → Int → Int → Int → Int → Sl → Int → Int → GH → Option β) → Option β) (F_ref26_heads : Sl → Int → GH → (Sl → Int → GH → Option β) → Option β) (F_ref26_one : Option Addr → Int → Int → Int → Int → Int → Int → Int → Int → Sl → Sl → Int → Int → Int → Int → Int → Sl → GH → (Int → Int → Int → Int → Int → Int → Int → Int → Sl → Sl → Int → Int → Int → Int → Int → Sl → Sl → Sl → Int → GH → Option β) → Option β) (F_ref02_Cursor_Left : Option Addr → GH → (Int → GH → Option β) → Option β) (R : Nat) (a1 : Sl) (h : GH) (K : Sl → Sl → Int → GH → Option β) : Option β := gfun Try.prog (CF_ref26_Scan F_ref26_end F_ref26_heads F_ref26_one F_ref02_Cursor_Left) HF_ref26_Scan R Try.f15 [Value.slice a1.a a1.n a1.c] h (fun v h' => exTup 3 v fun vs => exV (nth vs 0) fun v0 => exS (some v0) fun u122 => exV (nth vs 1) fun v1 => exS (some v1) fun u123 => exV (nth vs 2) fun v2 => exI .i64 (some v2) fun u124 => K u122 u123 u124 h')
set_option maxRecDepth 100000 in
theorem F_ref26_Scan_gen (F_ref26_end : Sl → GH → (Int → Int → Int → Int → Int → Int → Sl → Int → Int → GH → Option β) → Option β) (F_ref26_heads : Sl → Int → GH → (Sl → Int → GH → Option β) → Option β) (F_ref26_one : Option Addr → Int → Int → Int → Int → Int → Int → Int → Int → Sl → Sl → Int → Int → Int → Int → Int → Sl → GH → (Int → Int → Int → Int → Int → Int → Int → Int → Sl → Sl → Int → Int → Int → Int → Int → Sl → Sl → Sl → Int → GH → Option β) → Option β) (F_ref02_Cursor_Left : Option Addr → GH → (Int → GH → Option β) → Option β) (R : Nat) (a1 : Sl) (h : GH) (K : Sl → Sl → Int → GH → Option β) : G_ref26_Scan F_ref26_end F_ref26_heads F_ref26_one F_ref02_Cursor_Left R a1 h K =
    F_ref26_end a1 h fun r2 r3 r4 r5 r6 r7 r8 r9 r10 h11 => gnew [Value.int .i64 0, Value.int .i64 0, Value.int .i64 0, Value.int .i64 0, Value.int .u32 0, Value.int .u32 0, Value.slice none 0 0] 0 h11 fun g12 h13 => gput g12 (0) [Value.int .i64 r2, Value.int .i64 r3, Value.int .i64 r4, Value.int .i64 r5, Value.int .u32 r6, Value.int .u32 r7, Value.slice r8.a r8.n r8.c] h13 fun h14 => (bif r10 != 0 then K ⟨none, 0, 0⟩ ⟨none, 0, 0⟩ r10 h14 else exI .u32 (h14.cell ⟨g12, 0 + 5, none⟩) fun x15 => bnd r9 a1.c fun m16 => bnd (IntKind.wrap .i64 x15) m16 fun m17 => exI .i64 (h14.cell ⟨g12, 0 + 3, none⟩) fun x18 => F_ref26_heads ⟨addO a1.a (m17 * 1), m16 - m17, a1.c - m17⟩ x18 h14 fun r19 r20 h21 => (bif r20 != 0 then K ⟨none, 0, 0⟩ ⟨none, 0, 0⟩ r20 h21 else exI .u32 (h21.cell ⟨g12, 0 + 5, none⟩) fun x22 => bnd (IntKind.wrap .i64 x22) a1.c fun m23 => gnew [Value.slice (addO a1.a (0 * 1)) (m23 - 0) (a1.c - 0), Value.int .i64 0, Value.int .i64 0] 0 h21 fun g24 h25 => F_ref26_Scan_l0 F_ref26_end F_ref26_heads F_ref26_one F_ref02_Cursor_Left R R (some ⟨g12, 0, none⟩) r19 (some ⟨g24, 0, none⟩) ⟨none, 0, 0⟩ 0 h25 (fun w100 w101 w102 h103 => F_ref02_Cursor_Left w101 h103 fun r104 h105 => (bif decide (r104 > 0) then K ⟨none, 0, 0⟩ ⟨none, 0, 0⟩ 14 h105 else exA w100 fun g106 o107 => exS (h105.cell ⟨g106, o107 + 6, none⟩) fun x108 => K w102 x108 0 h105)) (fun w109 w110 w111 h112 => K w109 w110 w111 h112))) := by kernel_rfl
noncomputable def F_ref26_Scan (R : Nat) (a1 : Sl) (h : GH) (K : Sl → Sl → Int → GH → Option β) : Option β := G_ref26_Scan (F_ref26_end R) (F_ref26_heads R) (F_ref26_one R) (F_ref02_Cursor_Left R) R a1 h K
set_option maxRecDepth 100000 in
theorem CF_ref26_Scan_sim {R : Nat} : SimOrc Try.prog (CF_ref26_Scan (F_ref26_end R) (F_ref26_heads R) (F_ref26_one R) (F_ref02_Cursor_Left R) (β := β)) := by
  intro f args h K r hc
  unfold CF_ref26_Scan at hc
  cases hb : Nat.beq f 39 with
  | true =>
    rw [hb] at hc
    simp only [cond_true] at hc
    obtain rfl := Nat.eq_of_beq_eq_true hb
    split at hc
    · exact any_call (F_ref26_end_sim (K := K) hc)
    · cases hc
  | false =>
  rw [hb] at hc
  simp only [cond_false] at hc
  cases hb : Nat.beq f 40 with
  | true =>
    rw [hb] at hc
    simp only [cond_true] at hc
    obtain rfl := Nat.eq_of_beq_eq_true hb
    split at hc
    · exact any_call (F_ref26_heads_sim (K := K) hc)
    · cases hc
  | false =>
  rw [hb] at hc
  simp only [cond_false] at hc
  cases hb : Nat.beq f 41 with
  | true =>
    rw [hb] at hc
    simp only [cond_true] at hc
    obtain rfl := Nat.eq_of_beq_eq_true hb
    split at hc
    · exact any_call (F_ref26_one_sim (K := K) hc)
    · cases hc
  | false =>
  rw [hb] at hc
  simp only [cond_false] at hc
  cases hb : Nat.beq f 42 with
  | true =>
    rw [hb] at hc
    simp only [cond_true] at hc
    obtain rfl := Nat.eq_of_beq_eq_true hb
    split at hc
    · exact any_call (F_ref02_Cursor_Left_sim (K := K) hc)
    · cases hc
  | false =>
  rw [hb] at hc
  simp only [cond_false] at hc
  cases hc
set_option maxRecDepth 100000 in
theorem F_ref26_Scan_sim {R : Nat} {r : β} {a1 : Sl} {h : GH} {K : Value → GH → Option β} (hc : F_ref26_Scan R a1 h (fun q0 q1 q2 h' => K (Value.tuple #[Value.slice q0.a q0.n q0.c, Value.slice q1.a q1.n q1.c, Value.int .i64 q2]) h') = some r) : ∃ v h', K v h' = some r ∧ CallSim Try.prog 15 [Value.slice a1.a a1.n a1.c] h v h' := by
  unfold F_ref26_Scan G_ref26_Scan at hc
  obtain ⟨v, h', hk, hs⟩ := gfun_sim (CF_ref26_Scan_sim (R := R)) mixed_ok (fun f h => by cases h) Try.func15 (by kernel_rfl) hc
  obtain ⟨vs, rfl, hl, hk⟩ := exTup_v hk
  obtain ⟨v0, t0, hk⟩ := exV_v hk
  obtain ⟨u0, e0, hk⟩ := exS_v hk; cases e0
  obtain ⟨v1, t1, hk⟩ := exV_v hk
  obtain ⟨u1, e1, hk⟩ := exS_v hk; cases e1
  obtain ⟨v2, t2, hk⟩ := exV_v hk
  obtain ⟨u2, e2, hk⟩ := exI_v hk; cases e2
  obtain rfl := arr3 hl t0 t1 t2
  exact ⟨_, h', hk, hs⟩
/-! F18 duffel/duffellaw26.plain -/
def CF_law26_plain  : Orc β := fun f args h K => none
def HF_law26_plain : Hints := ⟨[], [], []⟩
noncomputable def G_law26_plain  (R : Nat) (a1 : Int) (a2 : Int) (a3 : Int) (a4 : Int) (a5 : Int) (a6 : Int) (a7 : Int) (a8 : Int) (a9 : Sl) (a10 : Sl) (a11 : Int) (a12 : Int) (a13 : Int) (a14 : Int) (a15 : Int) (a16 : Sl) (a17 : Sl) (a18 : Sl) (h : GH) (K : Int → Int → Int → Int → Int → Int → Int → Int → Sl → Sl → Int → Int → Int → Int → Int → Sl → Sl → Sl → GH → Option β) : Option β := gfun Try.prog (CF_law26_plain ) HF_law26_plain R Try.f18 [Value.agg #[Value.int .i64 a1, Value.int .i64 a2, Value.int .i64 a3, Value.int .i64 a4, Value.int .i64 a5, Value.int .u32 a6, Value.int .u32 a7, Value.int .u32 a8, Value.slice a9.a a9.n a9.c, Value.slice a10.a a10.n a10.c, Value.int .i64 a11, Value.int .i64 a12, Value.int .i64 a13, Value.int .u32 a14, Value.int .u32 a15, Value.slice a16.a a16.n a16.c, Value.slice a17.a a17.n a17.c, Value.slice a18.a a18.n a18.c]] h (fun v h' => exAg v fun c78 => (bif Nat.beq c78.length 18 then exI .i64 (nth c78 (0)) fun u79 => exI .i64 (nth c78 (0 + 1)) fun u80 => exI .i64 (nth c78 (0 + 1 + 1)) fun u81 => exI .i64 (nth c78 (0 + 1 + 1 + 1)) fun u82 => exI .i64 (nth c78 (0 + 1 + 1 + 1 + 1)) fun u83 => exI .u32 (nth c78 (0 + 1 + 1 + 1 + 1 + 1)) fun u84 => exI .u32 (nth c78 (0 + 1 + 1 + 1 + 1 + 1 + 1)) fun u85 => exI .u32 (nth c78 (0 + 1 + 1 + 1 + 1 + 1 + 1 + 1)) fun u86 => exS (nth c78 (0 + 1 + 1 + 1 + 1 + 1 + 1 + 1 + 1)) fun u87 => exS (nth c78 (0 + 1 + 1 + 1 + 1 + 1 + 1 + 1 + 1 + 1)) fun u88 => exI .i64 (nth c78 (0 + 1 + 1 + 1 + 1 + 1 + 1 + 1 + 1 + 1 + 1)) fun u89 => exI .i64 (nth c78 (0 + 1 + 1 + 1 + 1 + 1 + 1 + 1 + 1 + 1 + 1 + 1)) fun u90 => exI .i64 (nth c78 (0 + 1 + 1 + 1 + 1 + 1 + 1 + 1 + 1 + 1 + 1 + 1 + 1)) fun u91 => exI .u32 (nth c78 (0 + 1 + 1 + 1 + 1 + 1 + 1 + 1 + 1 + 1 + 1 + 1 + 1 + 1)) fun u92 => exI .u32 (nth c78 (0 + 1 + 1 + 1 + 1 + 1 + 1 + 1 + 1 + 1 + 1 + 1 + 1 + 1 + 1)) fun u93 => exS (nth c78 (0 + 1 + 1 + 1 + 1 + 1 + 1 + 1 + 1 + 1 + 1 + 1 + 1 + 1 + 1 + 1)) fun u94 => exS (nth c78 (0 + 1 + 1 + 1 + 1 + 1 + 1 + 1 + 1 + 1 + 1 + 1 + 1 + 1 + 1 + 1 + 1)) fun u95 => exS (nth c78 (0 + 1 + 1 + 1 + 1 + 1 + 1 + 1 + 1 + 1 + 1 + 1 + 1 + 1 + 1 + 1 + 1 + 1)) fun u96 => K u79 u80 u81 u82 u83 u84 u85 u86 u87 u88 u89 u90 u91 u92 u93 u94 u95 u96 h' else none))
set_option maxRecDepth 100000 in
theorem F_law26_plain_gen  (R : Nat) (a1 : Int) (a2 : Int) (a3 : Int) (a4 : Int) (a5 : Int) (a6 : Int) (a7 : Int) (a8 : Int) (a9 : Sl) (a10 : Sl) (a11 : Int) (a12 : Int) (a13 : Int) (a14 : Int) (a15 : Int) (a16 : Sl) (a17 : Sl) (a18 : Sl) (h : GH) (K : Int → Int → Int → Int → Int → Int → Int → Int → Sl → Sl → Int → Int → Int → Int → Int → Sl → Sl → Sl → GH → Option β) : G_law26_plain  R a1 a2 a3 a4 a5 a6 a7 a8 a9 a10 a11 a12 a13 a14 a15 a16 a17 a18 h K =
    gnew [Value.int .i64 a1, Value.int .i64 a2, Value.int .i64 a3, Value.int .i64 a4, Value.int .i64 a5, Value.int .u32 a6, Value.int .u32 a7, Value.int .u32 a8, Value.slice a9.a a9.n a9.c, Value.slice a10.a a10.n a10.c, Value.int .i64 a11, Value.int .i64 a12, Value.int .i64 a13, Value.int .u32 a14, Value.int .u32 a15, Value.slice a16.a a16.n a16.c, Value.slice a17.a a17.n a17.c, Value.slice a18.a a18.n a18.c] 0 h fun g19 h20 => gnew [Value.int .i64 0, Value.int .i64 0, Value.int .i64 0, Value.int .i64 0, Value.int .i64 0, Value.int .u32 0, Value.int .u32 0, Value.int .u32 0, Value.slice none 0 0, Value.slice none 0 0, Value.int .i64 0, Value.int .i64 0, Value.int .i64 0, Value.int .u32 0, Value.int .u32 0, Value.slice none 0 0, Value.slice none 0 0, Value.slice none 0 0] 0 h20 fun g21 h22 => exI .i64 (h22.cell ⟨g19, 0 + 0, none⟩) fun x23 => exI .i64 (h22.cell ⟨g19, 0 + 0 + 1, none⟩) fun x24 => exI .i64 (h22.cell ⟨g19, 0 + 0 + 1 + 1, none⟩) fun x25 => exI .i64 (h22.cell ⟨g19, 0 + 0 + 1 + 1 + 1, none⟩) fun x26 => exI .i64 (h22.cell ⟨g19, 0 + 0 + 1 + 1 + 1 + 1, none⟩) fun x27 => exI .u32 (h22.cell ⟨g19, 0 + 0 + 1 + 1 + 1 + 1 + 1, none⟩) fun x28 => exI .u32 (h22.cell ⟨g19, 0 + 0 + 1 + 1 + 1 + 1 + 1 + 1, none⟩) fun x29 => exI .u32 (h22.cell ⟨g19, 0 + 0 + 1 + 1 + 1 + 1 + 1 + 1 + 1, none⟩) fun x30 => exS (h22.cell ⟨g19, 0 + 0 + 1 + 1 + 1 + 1 + 1 + 1 + 1 + 1, none⟩) fun x31 => exS (h22.cell ⟨g19, 0 + 0 + 1 + 1 + 1 + 1 + 1 + 1 + 1 + 1 + 1, none⟩) fun x32 => exI .i64 (h22.cell ⟨g19, 0 + 0 + 1 + 1 + 1 + 1 + 1 + 1 + 1 + 1 + 1 + 1, none⟩) fun x33 => exI .i64 (h22.cell ⟨g19, 0 + 0 + 1 + 1 + 1 + 1 + 1 + 1 + 1 + 1 + 1 + 1 + 1, none⟩) fun x34 => exI .i64 (h22.cell ⟨g19, 0 + 0 + 1 + 1 + 1 + 1 + 1 + 1 + 1 + 1 + 1 + 1 + 1 + 1, none⟩) fun x35 => exI .u32 (h22.cell ⟨g19, 0 + 0 + 1 + 1 + 1 + 1 + 1 + 1 + 1 + 1 + 1 + 1 + 1 + 1 + 1, none⟩) fun x36 => exI .u32 (h22.cell ⟨g19, 0 + 0 + 1 + 1 + 1 + 1 + 1 + 1 + 1 + 1 + 1 + 1 + 1 + 1 + 1 + 1, none⟩) fun x37 => exS (h22.cell ⟨g19, 0 + 0 + 1 + 1 + 1 + 1 + 1 + 1 + 1 + 1 + 1 + 1 + 1 + 1 + 1 + 1 + 1, none⟩) fun x38 => exS (h22.cell ⟨g19, 0 + 16, none⟩) fun x39 => exS (h22.cell ⟨g19, 0 + 17, none⟩) fun x40 => gput g21 (0) [Value.int .i64 x23, Value.int .i64 x24, Value.int .i64 x25, Value.int .i64 x26, Value.int .i64 x27, Value.int .u32 x28, Value.int .u32 x29, Value.int .u32 x30, Value.slice x31.a x31.n x31.c, Value.slice x32.a x32.n x32.c, Value.int .i64 x33, Value.int .i64 x34, Value.int .i64 x35, Value.int .u32 x36, Value.int .u32 x37, Value.slice x38.a x38.n x38.c, Value.slice x39.a x39.n x39.c, Value.slice x40.a x40.n x40.c] h22 fun h41 => exI .i64 (h41.cell ⟨g21, 0, none⟩) fun x42 => exI .i64 (h41.cell ⟨g21, 0 + 1, none⟩) fun x43 => exI .i64 (h41.cell ⟨g21, 0 + 1 + 1, none⟩) fun x44 => exI .i64 (h41.cell ⟨g21, 0 + 1 + 1 + 1, none⟩) fun x45 => exI .i64 (h41.cell ⟨g21, 0 + 1 + 1 + 1 + 1, none⟩) fun x46 => exI .u32 (h41.cell ⟨g21, 0 + 1 + 1 + 1 + 1 + 1, none⟩) fun x47 => exI .u32 (h41.cell ⟨g21, 0 + 1 + 1 + 1 + 1 + 1 + 1, none⟩) fun x48 => exI .u32 (h41.cell ⟨g21, 0 + 1 + 1 + 1 + 1 + 1 + 1 + 1, none⟩) fun x49 => exS (h41.cell ⟨g21, 0 + 1 + 1 + 1 + 1 + 1 + 1 + 1 + 1, none⟩) fun x50 => exS (h41.cell ⟨g21, 0 + 1 + 1 + 1 + 1 + 1 + 1 + 1 + 1 + 1, none⟩) fun x51 => exI .i64 (h41.cell ⟨g21, 0 + 1 + 1 + 1 + 1 + 1 + 1 + 1 + 1 + 1 + 1, none⟩) fun x52 => exI .i64 (h41.cell ⟨g21, 0 + 1 + 1 + 1 + 1 + 1 + 1 + 1 + 1 + 1 + 1 + 1, none⟩) fun x53 => exI .i64 (h41.cell ⟨g21, 0 + 1 + 1 + 1 + 1 + 1 + 1 + 1 + 1 + 1 + 1 + 1 + 1, none⟩) fun x54 => exI .u32 (h41.cell ⟨g21, 0 + 1 + 1 + 1 + 1 + 1 + 1 + 1 + 1 + 1 + 1 + 1 + 1 + 1, none⟩) fun x55 => exI .u32 (h41.cell ⟨g21, 0 + 1 + 1 + 1 + 1 + 1 + 1 + 1 + 1 + 1 + 1 + 1 + 1 + 1 + 1, none⟩) fun x56 => exS (h41.cell ⟨g21, 0 + 1 + 1 + 1 + 1 + 1 + 1 + 1 + 1 + 1 + 1 + 1 + 1 + 1 + 1 + 1, none⟩) fun x57 => exS (h41.cell ⟨g21, 0 + 1 + 1 + 1 + 1 + 1 + 1 + 1 + 1 + 1 + 1 + 1 + 1 + 1 + 1 + 1 + 1, none⟩) fun x58 => exS (h41.cell ⟨g21, 0 + 1 + 1 + 1 + 1 + 1 + 1 + 1 + 1 + 1 + 1 + 1 + 1 + 1 + 1 + 1 + 1 + 1, none⟩) fun x59 => K x42 x43 x44 x45 x46 x47 x48 x49 x50 x51 x52 x53 x54 x55 x56 x57 x58 x59 h41 := by kernel_rfl
noncomputable def F_law26_plain (R : Nat) (a1 : Int) (a2 : Int) (a3 : Int) (a4 : Int) (a5 : Int) (a6 : Int) (a7 : Int) (a8 : Int) (a9 : Sl) (a10 : Sl) (a11 : Int) (a12 : Int) (a13 : Int) (a14 : Int) (a15 : Int) (a16 : Sl) (a17 : Sl) (a18 : Sl) (h : GH) (K : Int → Int → Int → Int → Int → Int → Int → Int → Sl → Sl → Int → Int → Int → Int → Int → Sl → Sl → Sl → GH → Option β) : Option β := G_law26_plain  R a1 a2 a3 a4 a5 a6 a7 a8 a9 a10 a11 a12 a13 a14 a15 a16 a17 a18 h K
theorem CF_law26_plain_sim : SimOrc Try.prog (CF_law26_plain (β := β)) := by
  intro f args h K r hc
  cases hc
set_option maxRecDepth 100000 in
theorem F_law26_plain_sim {R : Nat} {r : β} {a1 : Int} {a2 : Int} {a3 : Int} {a4 : Int} {a5 : Int} {a6 : Int} {a7 : Int} {a8 : Int} {a9 : Sl} {a10 : Sl} {a11 : Int} {a12 : Int} {a13 : Int} {a14 : Int} {a15 : Int} {a16 : Sl} {a17 : Sl} {a18 : Sl} {h : GH} {K : Value → GH → Option β} (hc : F_law26_plain R a1 a2 a3 a4 a5 a6 a7 a8 a9 a10 a11 a12 a13 a14 a15 a16 a17 a18 h (fun q0 q1 q2 q3 q4 q5 q6 q7 q8 q9 q10 q11 q12 q13 q14 q15 q16 q17 h' => K (Value.agg #[Value.int .i64 q0, Value.int .i64 q1, Value.int .i64 q2, Value.int .i64 q3, Value.int .i64 q4, Value.int .u32 q5, Value.int .u32 q6, Value.int .u32 q7, Value.slice q8.a q8.n q8.c, Value.slice q9.a q9.n q9.c, Value.int .i64 q10, Value.int .i64 q11, Value.int .i64 q12, Value.int .u32 q13, Value.int .u32 q14, Value.slice q15.a q15.n q15.c, Value.slice q16.a q16.n q16.c, Value.slice q17.a q17.n q17.c]) h') = some r) : ∃ v h', K v h' = some r ∧ CallSim Try.prog 18 [Value.agg #[Value.int .i64 a1, Value.int .i64 a2, Value.int .i64 a3, Value.int .i64 a4, Value.int .i64 a5, Value.int .u32 a6, Value.int .u32 a7, Value.int .u32 a8, Value.slice a9.a a9.n a9.c, Value.slice a10.a a10.n a10.c, Value.int .i64 a11, Value.int .i64 a12, Value.int .i64 a13, Value.int .u32 a14, Value.int .u32 a15, Value.slice a16.a a16.n a16.c, Value.slice a17.a a17.n a17.c, Value.slice a18.a a18.n a18.c]] h v h' := by
  unfold F_law26_plain G_law26_plain at hc
  obtain ⟨v, h', hk, hs⟩ := gfun_sim CF_law26_plain_sim mixed_ok (fun f h => by cases h) Try.func18 (by kernel_rfl) hc
  obtain ⟨cs0, f0, hk⟩ := exAg_v hk; cases f0; obtain ⟨hl0, hk⟩ := beq_v hk
  obtain ⟨u1, e1, hk⟩ := exI_v hk
  obtain ⟨u2, e2, hk⟩ := exI_v hk
  obtain ⟨u3, e3, hk⟩ := exI_v hk
  obtain ⟨u4, e4, hk⟩ := exI_v hk
  obtain ⟨u5, e5, hk⟩ := exI_v hk
  obtain ⟨u6, e6, hk⟩ := exI_v hk
  obtain ⟨u7, e7, hk⟩ := exI_v hk
  obtain ⟨u8, e8, hk⟩ := exI_v hk
  obtain ⟨u9, e9, hk⟩ := exS_v hk
  obtain ⟨u10, e10, hk⟩ := exS_v hk
  obtain ⟨u11, e11, hk⟩ := exI_v hk
  obtain ⟨u12, e12, hk⟩ := exI_v hk
  obtain ⟨u13, e13, hk⟩ := exI_v hk
  obtain ⟨u14, e14, hk⟩ := exI_v hk
  obtain ⟨u15, e15, hk⟩ := exI_v hk
  obtain ⟨u16, e16, hk⟩ := exS_v hk
  obtain ⟨u17, e17, hk⟩ := exS_v hk
  obtain ⟨u18, e18, hk⟩ := exS_v hk
  obtain rfl := arr18 hl0 e1 e2 e3 e4 e5 e6 e7 e8 e9 e10 e11 e12 e13 e14 e15 e16 e17 e18
  exact ⟨_, h', hk, hs⟩
/-! F43 duffel/duffelref24.SameCentral -/
def CF_ref24_SameCentral (F_ref24_SameHead : Int → Int → Int → Int → Int → Int → Int → Int → Sl → Sl → Int → Int → Int → Int → Int → Int → Int → Int → Sl → Sl → GH → (Bool → GH → Option β) → Option β) (F_ref01_Same : Sl → Sl → GH → (Bool → GH → Option β) → Option β) : Orc β := fun f args h K => bif Nat.beq f 71 then (match args with | [.agg ⟨[.int .i64 p1, .int .i64 p2, .int .i64 p3, .int .i64 p4, .int .i64 p5, .int .u32 p6, .int .u32 p7, .int .u32 p8, .slice p9a p9n p9c, .slice p10a p10n p10c]⟩, .agg ⟨[.int .i64 p11, .int .i64 p12, .int .i64 p13, .int .i64 p14, .int .i64 p15, .int .u32 p16, .int .u32 p17, .int .u32 p18, .slice p19a p19n p19c, .slice p20a p20n p20c]⟩] => F_ref24_SameHead p1 p2 p3 p4 p5 p6 p7 p8 ⟨p9a, p9n, p9c⟩ ⟨p10a, p10n, p10c⟩ p11 p12 p13 p14 p15 p16 p17 p18 ⟨p19a, p19n, p19c⟩ ⟨p20a, p20n, p20c⟩ h (fun q49 h' => K (Value.bool q49) h') | _ => none) else (bif Nat.beq f 16 then (match args with | [.slice p1a p1n p1c, .slice p2a p2n p2c] => F_ref01_Same ⟨p1a, p1n, p1c⟩ ⟨p2a, p2n, p2c⟩ h (fun q16 h' => K (Value.bool q16) h') | _ => none) else none)
def HF_ref24_SameCentral : Hints := ⟨[], [], []⟩
noncomputable def G_ref24_SameCentral (F_ref24_SameHead : Int → Int → Int → Int → Int → Int → Int → Int → Sl → Sl → Int → Int → Int → Int → Int → Int → Int → Int → Sl → Sl → GH → (Bool → GH → Option β) → Option β) (F_ref01_Same : Sl → Sl → GH → (Bool → GH → Option β) → Option β) (R : Nat) (a1 : Int) (a2 : Int) (a3 : Int) (a4 : Int) (a5 : Int) (a6 : Int) (a7 : Int) (a8 : Int) (a9 : Sl) (a10 : Sl) (a11 : Int) (a12 : Int) (a13 : Int) (a14 : Int) (a15 : Int) (a16 : Sl) (a17 : Int) (a18 : Int) (a19 : Int) (a20 : Int) (a21 : Int) (a22 : Int) (a23 : Int) (a24 : Int) (a25 : Sl) (a26 : Sl) (a27 : Int) (a28 : Int) (a29 : Int) (a30 : Int) (a31 : Int) (a32 : Sl) (h : GH) (K : Bool → GH → Option β) : Option β := gfun Try.prog (CF_ref24_SameCentral F_ref24_SameHead F_ref01_Same) HF_ref24_SameCentral R Try.f43 [Value.agg #[Value.int .i64 a1, Value.int .i64 a2, Value.int .i64 a3, Value.int .i64 a4, Value.int .i64 a5, Value.int .u32 a6, Value.int .u32 a7, Value.int .u32 a8, Value.slice a9.a a9.n a9.c, Value.slice a10.a a10.n a10.c, Value.int .i64 a11, Value.int .i64 a12, Value.int .i64 a13, Value.int .u32 a14, Value.int .u32 a15, Value.slice a16.a a16.n a16.c], Value.agg #[Value.int .i64 a17, Value.int .i64 a18, Value.int .i64 a19, Value.int .i64 a20, Value.int .i64 a21, Value.int .u32 a22, Value.int .u32 a23, Value.int .u32 a24, Value.slice a25.a a25.n a25.c, Value.slice a26.a a26.n a26.c, Value.int .i64 a27, Value.int .i64 a28, Value.int .i64 a29, Value.int .u32 a30, Value.int .u32 a31, Value.slice a32.a a32.n a32.c]] h (fun v h' => exB (some v) fun u74 => K u74 h')
set_option maxRecDepth 100000 in
theorem F_ref24_SameCentral_gen (F_ref24_SameHead : Int → Int → Int → Int → Int → Int → Int → Int → Sl → Sl → Int → Int → Int → Int → Int → Int → Int → Int → Sl → Sl → GH → (Bool → GH → Option β) → Option β) (F_ref01_Same : Sl → Sl → GH → (Bool → GH → Option β) → Option β) (R : Nat) (a1 : Int) (a2 : Int) (a3 : Int) (a4 : Int) (a5 : Int) (a6 : Int) (a7 : Int) (a8 : Int) (a9 : Sl) (a10 : Sl) (a11 : Int) (a12 : Int) (a13 : Int) (a14 : Int) (a15 : Int) (a16 : Sl) (a17 : Int) (a18 : Int) (a19 : Int) (a20 : Int) (a21 : Int) (a22 : Int) (a23 : Int) (a24 : Int) (a25 : Sl) (a26 : Sl) (a27 : Int) (a28 : Int) (a29 : Int) (a30 : Int) (a31 : Int) (a32 : Sl) (h : GH) (K : Bool → GH → Option β) : G_ref24_SameCentral F_ref24_SameHead F_ref01_Same R a1 a2 a3 a4 a5 a6 a7 a8 a9 a10 a11 a12 a13 a14 a15 a16 a17 a18 a19 a20 a21 a22 a23 a24 a25 a26 a27 a28 a29 a30 a31 a32 h K =
    gnew [Value.int .i64 a1, Value.int .i64 a2, Value.int .i64 a3, Value.int .i64 a4, Value.int .i64 a5, Value.int .u32 a6, Value.int .u32 a7, Value.int .u32 a8, Value.slice a9.a a9.n a9.c, Value.slice a10.a a10.n a10.c, Value.int .i64 a11, Value.int .i64 a12, Value.int .i64 a13, Value.int .u32 a14, Value.int .u32 a15, Value.slice a16.a a16.n a16.c] 0 h fun g33 h34 => gnew [Value.int .i64 a17, Value.int .i64 a18, Value.int .i64 a19, Value.int .i64 a20, Value.int .i64 a21, Value.int .u32 a22, Value.int .u32 a23, Value.int .u32 a24, Value.slice a25.a a25.n a25.c, Value.slice a26.a a26.n a26.c, Value.int .i64 a27, Value.int .i64 a28, Value.int .i64 a29, Value.int .u32 a30, Value.int .u32 a31, Value.slice a32.a a32.n a32.c] 0 h34 fun g35 h36 => exI .i64 (h36.cell ⟨g33, 0 + 0, none⟩) fun x37 => exI .i64 (h36.cell ⟨g33, 0 + 0 + 1, none⟩) fun x38 => exI .i64 (h36.cell ⟨g33, 0 + 0 + 1 + 1, none⟩) fun x39 => exI .i64 (h36.cell ⟨g33, 0 + 0 + 1 + 1 + 1, none⟩) fun x40 => exI .i64 (h36.cell ⟨g33, 0 + 0 + 1 + 1 + 1 + 1, none⟩) fun x41 => exI .u32 (h36.cell ⟨g33, 0 + 0 + 1 + 1 + 1 + 1 + 1, none⟩) fun x42 => exI .u32 (h36.cell ⟨g33, 0 + 0 + 1 + 1 + 1 + 1 + 1 + 1, none⟩) fun x43 => exI .u32 (h36.cell ⟨g33, 0 + 0 + 1 + 1 + 1 + 1 + 1 + 1 + 1, none⟩) fun x44 => exS (h36.cell ⟨g33, 0 + 0 + 1 + 1 + 1 + 1 + 1 + 1 + 1 + 1, none⟩) fun x45 => exS (h36.cell ⟨g33, 0 + 0 + 1 + 1 + 1 + 1 + 1 + 1 + 1 + 1 + 1, none⟩) fun x46 => exI .i64 (h36.cell ⟨g35, 0 + 0, none⟩) fun x47 => exI .i64 (h36.cell ⟨g35, 0 + 0 + 1, none⟩) fun x48 => exI .i64 (h36.cell ⟨g35, 0 + 0 + 1 + 1, none⟩) fun x49 => exI .i64 (h36.cell ⟨g35, 0 + 0 + 1 + 1 + 1, none⟩) fun x50 => exI .i64 (h36.cell ⟨g35, 0 + 0 + 1 + 1 + 1 + 1, none⟩) fun x51 => exI .u32 (h36.cell ⟨g35, 0 + 0 + 1 + 1 + 1 + 1 + 1, none⟩) fun x52 => exI .u32 (h36.cell ⟨g35, 0 + 0 + 1 + 1 + 1 + 1 + 1 + 1, none⟩) fun x53 => exI .u32 (h36.cell ⟨g35, 0 + 0 + 1 + 1 + 1 + 1 + 1 + 1 + 1, none⟩) fun x54 => exS (h36.cell ⟨g35, 0 + 0 + 1 + 1 + 1 + 1 + 1 + 1 + 1 + 1, none⟩) fun x55 => exS (h36.cell ⟨g35, 0 + 0 + 1 + 1 + 1 + 1 + 1 + 1 + 1 + 1 + 1, none⟩) fun x56 => F_ref24_SameHead x37 x38 x39 x40 x41 x42 x43 x44 x45 x46 x47 x48 x49 x50 x51 x52 x53 x54 x55 x56 h36 fun r57 h58 => (bif r57 then exI .i64 (h58.cell ⟨g33, 0 + 10, none⟩) fun x59 => exI .i64 (h58.cell ⟨g35, 0 + 10, none⟩) fun x60 => (bif x59 == x60 then exI .i64 (h58.cell ⟨g33, 0 + 11, none⟩) fun x61 => exI .i64 (h58.cell ⟨g35, 0 + 11, none⟩) fun x62 => (bif x61 == x62 then exI .i64 (h58.cell ⟨g33, 0 + 12, none⟩) fun x63 => exI .i64 (h58.cell ⟨g35, 0 + 12, none⟩) fun x64 => (bif x63 == x64 then exI .u32 (h58.cell ⟨g33, 0 + 13, none⟩) fun x65 => exI .u32 (h58.cell ⟨g35, 0 + 13, none⟩) fun x66 => (bif x65 == x66 then exI .u32 (h58.cell ⟨g33, 0 + 14, none⟩) fun x67 => exI .u32 (h58.cell ⟨g35, 0 + 14, none⟩) fun x68 => (bif x67 == x68 then exS (h58.cell ⟨g33, 0 + 15, none⟩) fun x69 => exS (h58.cell ⟨g35, 0 + 15, none⟩) fun x70 => F_ref01_Same x69 x70 h58 fun r71 h72 => K r71 h72 else K false h58) else K false h58) else K false h58) else K false h58) else K false h58) else K false h58) := by kernel_rfl
noncomputable def F_ref24_SameCentral (R : Nat) (a1 : Int) (a2 : Int) (a3 : Int) (a4 : Int) (a5 : Int) (a6 : Int) (a7 : Int) (a8 : Int) (a9 : Sl) (a10 : Sl) (a11 : Int) (a12 : Int) (a13 : Int) (a14 : Int) (a15 : Int) (a16 : Sl) (a17 : Int) (a18 : Int) (a19 : Int) (a20 : Int) (a21 : Int) (a22 : Int) (a23 : Int) (a24 : Int) (a25 : Sl) (a26 : Sl) (a27 : Int) (a28 : Int) (a29 : Int) (a30 : Int) (a31 : Int) (a32 : Sl) (h : GH) (K : Bool → GH → Option β) : Option β := G_ref24_SameCentral (F_ref24_SameHead R) (F_ref01_Same R) R a1 a2 a3 a4 a5 a6 a7 a8 a9 a10 a11 a12 a13 a14 a15 a16 a17 a18 a19 a20 a21 a22 a23 a24 a25 a26 a27 a28 a29 a30 a31 a32 h K
set_option maxRecDepth 100000 in
theorem CF_ref24_SameCentral_sim {R : Nat} : SimOrc Try.prog (CF_ref24_SameCentral (F_ref24_SameHead R) (F_ref01_Same R) (β := β)) := by
  intro f args h K r hc
  unfold CF_ref24_SameCentral at hc
  cases hb : Nat.beq f 71 with
  | true =>
    rw [hb] at hc
    simp only [cond_true] at hc
    obtain rfl := Nat.eq_of_beq_eq_true hb
    split at hc
    · exact any_call (F_ref24_SameHead_sim (K := K) hc)
    · cases hc
  | false =>
  rw [hb] at hc
  simp only [cond_false] at hc
  cases hb : Nat.beq f 16 with
  | true =>
    rw [hb] at hc
    simp only [cond_true] at hc
    obtain rfl := Nat.eq_of_beq_eq_true hb
    split at hc
    · exact any_call (F_ref01_Same_sim (K := K) hc)
    · cases hc
  | false =>
  rw [hb] at hc
  simp only [cond_false] at hc
  cases hc
set_option maxRecDepth 100000 in
theorem F_ref24_SameCentral_sim {R : Nat} {r : β} {a1 : Int} {a2 : Int} {a3 : Int} {a4 : Int} {a5 : Int} {a6 : Int} {a7 : Int} {a8 : Int} {a9 : Sl} {a10 : Sl} {a11 : Int} {a12 : Int} {a13 : Int} {a14 : Int} {a15 : Int} {a16 : Sl} {a17 : Int} {a18 : Int} {a19 : Int} {a20 : Int} {a21 : Int} {a22 : Int} {a23 : Int} {a24 : Int} {a25 : Sl} {a26 : Sl} {a27 : Int} {a28 : Int} {a29 : Int} {a30 : Int} {a31 : Int} {a32 : Sl} {h : GH} {K : Value → GH → Option β} (hc : F_ref24_SameCentral R a1 a2 a3 a4 a5 a6 a7 a8 a9 a10 a11 a12 a13 a14 a15 a16 a17 a18 a19 a20 a21 a22 a23 a24 a25 a26 a27 a28 a29 a30 a31 a32 h (fun q0 h' => K (Value.bool q0) h') = some r) : ∃ v h', K v h' = some r ∧ CallSim Try.prog 43 [Value.agg #[Value.int .i64 a1, Value.int .i64 a2, Value.int .i64 a3, Value.int .i64 a4, Value.int .i64 a5, Value.int .u32 a6, Value.int .u32 a7, Value.int .u32 a8, Value.slice a9.a a9.n a9.c, Value.slice a10.a a10.n a10.c, Value.int .i64 a11, Value.int .i64 a12, Value.int .i64 a13, Value.int .u32 a14, Value.int .u32 a15, Value.slice a16.a a16.n a16.c], Value.agg #[Value.int .i64 a17, Value.int .i64 a18, Value.int .i64 a19, Value.int .i64 a20, Value.int .i64 a21, Value.int .u32 a22, Value.int .u32 a23, Value.int .u32 a24, Value.slice a25.a a25.n a25.c, Value.slice a26.a a26.n a26.c, Value.int .i64 a27, Value.int .i64 a28, Value.int .i64 a29, Value.int .u32 a30, Value.int .u32 a31, Value.slice a32.a a32.n a32.c]] h v h' := by
  unfold F_ref24_SameCentral G_ref24_SameCentral at hc
  obtain ⟨v, h', hk, hs⟩ := gfun_sim (CF_ref24_SameCentral_sim (R := R)) mixed_ok (fun f h => by cases h) Try.func43 (by kernel_rfl) hc
  obtain ⟨u0, e0, hk⟩ := exB_v hk; cases e0
  exact ⟨_, h', hk, hs⟩
/-! F17 duffel/duffelref26.SameItem -/
def CF_ref26_SameItem (F_ref24_SameCentral : Int → Int → Int → Int → Int → Int → Int → Int → Sl → Sl → Int → Int → Int → Int → Int → Sl → Int → Int → Int → Int → Int → Int → Int → Int → Sl → Sl → Int → Int → Int → Int → Int → Sl → GH → (Bool → GH → Option β) → Option β) (F_ref01_Same : Sl → Sl → GH → (Bool → GH → Option β) → Option β) : Orc β := fun f args h K => bif Nat.beq f 43 then (match args with | [.agg ⟨[.int .i64 p1, .int .i64 p2, .int .i64 p3, .int .i64 p4, .int .i64 p5, .int .u32 p6, .int .u32 p7, .int .u32 p8, .slice p9a p9n p9c, .slice p10a p10n p10c, .int .i64 p11, .int .i64 p12, .int .i64 p13, .int .u32 p14, .int .u32 p15, .slice p16a p16n p16c]⟩, .agg ⟨[.int .i64 p17, .int .i64 p18, .int .i64 p19, .int .i64 p20, .int .i64 p21, .int .u32 p22, .int .u32 p23, .int .u32 p24, .slice p25a p25n p25c, .slice p26a p26n p26c, .int .i64 p27, .int .i64 p28, .int .i64 p29, .int .u32 p30, .int .u32 p31, .slice p32a p32n p32c]⟩] => F_ref24_SameCentral p1 p2 p3 p4 p5 p6 p7 p8 ⟨p9a, p9n, p9c⟩ ⟨p10a, p10n, p10c⟩ p11 p12 p13 p14 p15 ⟨p16a, p16n, p16c⟩ p17 p18 p19 p20 p21 p22 p23 p24 ⟨p25a, p25n, p25c⟩ ⟨p26a, p26n, p26c⟩ p27 p28 p29 p30 p31 ⟨p32a, p32n, p32c⟩ h (fun q73 h' => K (Value.bool q73) h') | _ => none) else (bif Nat.beq f 16 then (match args with | [.slice p1a p1n p1c, .slice p2a p2n p2c] => F_ref01_Same ⟨p1a, p1n, p1c⟩ ⟨p2a, p2n, p2c⟩ h (fun q16 h' => K (Value.bool q16) h') | _ => none) else none)
def HF_ref26_SameItem : Hints := ⟨[], [], []⟩
noncomputable def G_ref26_SameItem (F_ref24_SameCentral : Int → Int → Int → Int → Int → Int → Int → Int → Sl → Sl → Int → Int → Int → Int → Int → Sl → Int → Int → Int → Int → Int → Int → Int → Int → Sl → Sl → Int → Int → Int → Int → Int → Sl → GH → (Bool → GH → Option β) → Option β) (F_ref01_Same : Sl → Sl → GH → (Bool → GH → Option β) → Option β) (R : Nat) (a1 : Int) (a2 : Int) (a3 : Int) (a4 : Int) (a5 : Int) (a6 : Int) (a7 : Int) (a8 : Int) (a9 : Sl) (a10 : Sl) (a11 : Int) (a12 : Int) (a13 : Int) (a14 : Int) (a15 : Int) (a16 : Sl) (a17 : Sl) (a18 : Sl) (a19 : Int) (a20 : Int) (a21 : Int) (a22 : Int) (a23 : Int) (a24 : Int) (a25 : Int) (a26 : Int) (a27 : Sl) (a28 : Sl) (a29 : Int) (a30 : Int) (a31 : Int) (a32 : Int) (a33 : Int) (a34 : Sl) (a35 : Sl) (a36 : Sl) (h : GH) (K : Bool → GH → Option β) : Option β := gfun Try.prog (CF_ref26_SameItem F_ref24_SameCentral F_ref01_Same) HF_ref26_SameItem R Try.f17 [Value.agg #[Value.int .i64 a1, Value.int .i64 a2, Value.int .i64 a3, Value.int .i64 a4, Value.int .i64 a5, Value.int .u32 a6, Value.int .u32 a7, Value.int .u32 a8, Value.slice a9.a a9.n a9.c, Value.slice a10.a a10.n a10.c, Value.int .i64 a11, Value.int .i64 a12, Value.int .i64 a13, Value.int .u32 a14, Value.int .u32 a15, Value.slice a16.a a16.n a16.c, Value.slice a17.a a17.n a17.c, Value.slice a18.a a18.n a18.c], Value.agg #[Value.int .i64 a19, Value.int .i64 a20, Value.int .i64 a21, Value.int .i64 a22, Value.int .i64 a23, Value.int .u32 a24, Value.int .u32 a25, Value.int .u32 a26, Value.slice a27.a a27.n a27.c, Value.slice a28.a a28.n a28.c, Value.int .i64 a29, Value.int .i64 a30, Value.int .i64 a31, Value.int .u32 a32, Value.int .u32 a33, Value.slice a34.a a34.n a34.c, Value.slice a35.a a35.n a35.c, Value.slice a36.a a36.n a36.c]] h (fun v h' => exB (some v) fun u84 => K u84 h')
set_option maxRecDepth 100000 in
theorem F_ref26_SameItem_gen (F_ref24_SameCentral : Int → Int → Int → Int → Int → Int → Int → Int → Sl → Sl → Int → Int → Int → Int → Int → Sl → Int → Int → Int → Int → Int → Int → Int → Int → Sl → Sl → Int → Int → Int → Int → Int → Sl → GH → (Bool → GH → Option β) → Option β) (F_ref01_Same : Sl → Sl → GH → (Bool → GH → Option β) → Option β) (R : Nat) (a1 : Int) (a2 : Int) (a3 : Int) (a4 : Int) (a5 : Int) (a6 : Int) (a7 : Int) (a8 : Int) (a9 : Sl) (a10 : Sl) (a11 : Int) (a12 : Int) (a13 : Int) (a14 : Int) (a15 : Int) (a16 : Sl) (a17 : Sl) (a18 : Sl) (a19 : Int) (a20 : Int) (a21 : Int) (a22 : Int) (a23 : Int) (a24 : Int) (a25 : Int) (a26 : Int) (a27 : Sl) (a28 : Sl) (a29 : Int) (a30 : Int) (a31 : Int) (a32 : Int) (a33 : Int) (a34 : Sl) (a35 : Sl) (a36 : Sl) (h : GH) (K : Bool → GH → Option β) : G_ref26_SameItem F_ref24_SameCentral F_ref01_Same R a1 a2 a3 a4 a5 a6 a7 a8 a9 a10 a11 a12 a13 a14 a15 a16 a17 a18 a19 a20 a21 a22 a23 a24 a25 a26 a27 a28 a29 a30 a31 a32 a33 a34 a35 a36 h K =
    gnew [Value.int .i64 a1, Value.int .i64 a2, Value.int .i64 a3, Value.int .i64 a4, Value.int .i64 a5, Value.int .u32 a6, Value.int .u32 a7, Value.int .u32 a8, Value.slice a9.a a9.n a9.c, Value.slice a10.a a10.n a10.c, Value.int .i64 a11, Value.int .i64 a12, Value.int .i64 a13, Value.int .u32 a14, Value.int .u32 a15, Value.slice a16.a a16.n a16.c, Value.slice a17.a a17.n a17.c, Value.slice a18.a a18.n a18.c] 0 h fun g37 h38 => gnew [Value.int .i64 a19, Value.int .i64 a20, Value.int .i64 a21, Value.int .i64 a22, Value.int .i64 a23, Value.int .u32 a24, Value.int .u32 a25, Value.int .u32 a26, Value.slice a27.a a27.n a27.c, Value.slice a28.a a28.n a28.c, Value.int .i64 a29, Value.int .i64 a30, Value.int .i64 a31, Value.int .u32 a32, Value.int .u32 a33, Value.slice a34.a a34.n a34.c, Value.slice a35.a a35.n a35.c, Value.slice a36.a a36.n a36.c] 0 h38 fun g39 h40 => exI .i64 (h40.cell ⟨g37, 0 + 0, none⟩) fun x41 => exI .i64 (h40.cell ⟨g37, 0 + 0 + 1, none⟩) fun x42 => exI .i64 (h40.cell ⟨g37, 0 + 0 + 1 + 1, none⟩) fun x43 => exI .i64 (h40.cell ⟨g37, 0 + 0 + 1 + 1 + 1, none⟩) fun x44 => exI .i64 (h40.cell ⟨g37, 0 + 0 + 1 + 1 + 1 + 1, none⟩) fun x45 => exI .u32 (h40.cell ⟨g37, 0 + 0 + 1 + 1 + 1 + 1 + 1, none⟩) fun x46 => exI .u32 (h40.cell ⟨g37, 0 + 0 + 1 + 1 + 1 + 1 + 1 + 1, none⟩) fun x47 => exI .u32 (h40.cell ⟨g37, 0 + 0 + 1 + 1 + 1 + 1 + 1 + 1 + 1, none⟩) fun x48 => exS (h40.cell ⟨g37, 0 + 0 + 1 + 1 + 1 + 1 + 1 + 1 + 1 + 1, none⟩) fun x49 => exS (h40.cell ⟨g37, 0 + 0 + 1 + 1 + 1 + 1 + 1 + 1 + 1 + 1 + 1, none⟩) fun x50 => exI .i64 (h40.cell ⟨g37, 0 + 0 + 1 + 1 + 1 + 1 + 1 + 1 + 1 + 1 + 1 + 1, none⟩) fun x51 => exI .i64 (h40.cell ⟨g37, 0 + 0 + 1 + 1 + 1 + 1 + 1 + 1 + 1 + 1 + 1 + 1 + 1, none⟩) fun x52 => exI .i64 (h40.cell ⟨g37, 0 + 0 + 1 + 1 + 1 + 1 + 1 + 1 + 1 + 1 + 1 + 1 + 1 + 1, none⟩) fun x53 => exI .u32 (h40.cell ⟨g37, 0 + 0 + 1 + 1 + 1 + 1 + 1 + 1 + 1 + 1 + 1 + 1 + 1 + 1 + 1, none⟩) fun x54 => exI .u32 (h40.cell ⟨g37, 0 + 0 + 1 + 1 + 1 + 1 + 1 + 1 + 1 + 1 + 1 + 1 + 1 + 1 + 1 + 1, none⟩) fun x55 => exS (h40.cell ⟨g37, 0 + 0 + 1 + 1 + 1 + 1 + 1 + 1 + 1 + 1 + 1 + 1 + 1 + 1 + 1 + 1 + 1, none⟩) fun x56 => exI .i64 (h40.cell ⟨g39, 0 + 0, none⟩) fun x57 => exI .i64 (h40.cell ⟨g39, 0 + 0 + 1, none⟩) fun x58 => exI .i64 (h40.cell ⟨g39, 0 + 0 + 1 + 1, none⟩) fun x59 => exI .i64 (h40.cell ⟨g39, 0 + 0 + 1 + 1 + 1, none⟩) fun x60 => exI .i64 (h40.cell ⟨g39, 0 + 0 + 1 + 1 + 1 + 1, none⟩) fun x61 => exI .u32 (h40.cell ⟨g39, 0 + 0 + 1 + 1 + 1 + 1 + 1, none⟩) fun x62 => exI .u32 (h40.cell ⟨g39, 0 + 0 + 1 + 1 + 1 + 1 + 1 + 1, none⟩) fun x63 => exI .u32 (h40.cell ⟨g39, 0 + 0 + 1 + 1 + 1 + 1 + 1 + 1 + 1, none⟩) fun x64 => exS (h40.cell ⟨g39, 0 + 0 + 1 + 1 + 1 + 1 + 1 + 1 + 1 + 1, none⟩) fun x65 => exS (h40.cell ⟨g39, 0 + 0 + 1 + 1 + 1 + 1 + 1 + 1 + 1 + 1 + 1, none⟩) fun x66 => exI .i64 (h40.cell ⟨g39, 0 + 0 + 1 + 1 + 1 + 1 + 1 + 1 + 1 + 1 + 1 + 1, none⟩) fun x67 => exI .i64 (h40.cell ⟨g39, 0 + 0 + 1 + 1 + 1 + 1 + 1 + 1 + 1 + 1 + 1 + 1 + 1, none⟩) fun x68 => exI .i64 (h40.cell ⟨g39, 0 + 0 + 1 + 1 + 1 + 1 + 1 + 1 + 1 + 1 + 1 + 1 + 1 + 1, none⟩) fun x69 => exI .u32 (h40.cell ⟨g39, 0 + 0 + 1 + 1 + 1 + 1 + 1 + 1 + 1 + 1 + 1 + 1 + 1 + 1 + 1, none⟩) fun x70 => exI .u32 (h40.cell ⟨g39, 0 + 0 + 1 + 1 + 1 + 1 + 1 + 1 + 1 + 1 + 1 + 1 + 1 + 1 + 1 + 1, none⟩) fun x71 => exS (h40.cell ⟨g39, 0 + 0 + 1 + 1 + 1 + 1 + 1 + 1 + 1 + 1 + 1 + 1 + 1 + 1 + 1 + 1 + 1, none⟩) fun x72 => F_ref24_SameCentral x41 x42 x43 x44 x45 x46 x47 x48 x49 x50 x51 x52 x53 x54 x55 x56 x57 x58 x59 x60 x61 x62 x63 x64 x65 x66 x67 x68 x69 x70 x71 x72 h40 fun r73 h74 => (bif r73 then exS (h74.cell ⟨g37, 0 + 16, none⟩) fun x75 => exS (h74.cell ⟨g39, 0 + 16, none⟩) fun x76 => F_ref01_Same x75 x76 h74 fun r77 h78 => (bif r77 then exS (h78.cell ⟨g37, 0 + 17, none⟩) fun x79 => exS (h78.cell ⟨g39, 0 + 17, none⟩) fun x80 => F_ref01_Same x79 x80 h78 fun r81 h82 => K r81 h82 else K false h78) else K false h74) := by kernel_rfl
noncomputable def F_ref26_SameItem (R : Nat) (a1 : Int) (a2 : Int) (a3 : Int) (a4 : Int) (a5 : Int) (a6 : Int) (a7 : Int) (a8 : Int) (a9 : Sl) (a10 : Sl) (a11 : Int) (a12 : Int) (a13 : Int) (a14 : Int) (a15 : Int) (a16 : Sl) (a17 : Sl) (a18 : Sl) (a19 : Int) (a20 : Int) (a21 : Int) (a22 : Int) (a23 : Int) (a24 : Int) (a25 : Int) (a26 : Int) (a27 : Sl) (a28 : Sl) (a29 : Int) (a30 : Int) (a31 : Int) (a32 : Int) (a33 : Int) (a34 : Sl) (a35 : Sl) (a36 : Sl) (h : GH) (K : Bool → GH → Option β) : Option β := G_ref26_SameItem (F_ref24_SameCentral R) (F_ref01_Same R) R a1 a2 a3 a4 a5 a6 a7 a8 a9 a10 a11 a12 a13 a14 a15 a16 a17 a18 a19 a20 a21 a22 a23 a24 a25 a26 a27 a28 a29 a30 a31 a32 a33 a34 a35 a36 h K
set_option maxRecDepth 100000 in
theorem CF_ref26_SameItem_sim {R : Nat} : SimOrc Try.prog (CF_ref26_SameItem (F_ref24_SameCentral R) (F_ref01_Same R) (β := β)) := by
  intro f args h K r hc
  unfold CF_ref26_SameItem at hc
  cases hb : Nat.beq f 43 with
  | true =>
    rw [hb] at hc
    simp only [cond_true] at hc
    obtain rfl := Nat.eq_of_beq_eq_true hb
    split at hc
    · exact any_call (F_ref24_SameCentral_sim (K := K) hc)
    · cases hc
  | false =>
  rw [hb] at hc
  simp only [cond_false] at hc
  cases hb : Nat.beq f 16 with
  | true =>
    rw [hb] at hc
    simp only [cond_true] at hc
    obtain rfl := Nat.eq_of_beq_eq_true hb
    split at hc
    · exact any_call (F_ref01_Same_sim (K := K) hc)
    · cases hc
  | false =>
  rw [hb] at hc
  simp only [cond_false] at hc
  cases hc
set_option maxRecDepth 100000 in
theorem F_ref26_SameItem_sim {R : Nat} {r : β} {a1 : Int} {a2 : Int} {a3 : Int} {a4 : Int} {a5 : Int} {a6 : Int} {a7 : Int} {a8 : Int} {a9 : Sl} {a10 : Sl} {a11 : Int} {a12 : Int} {a13 : Int} {a14 : Int} {a15 : Int} {a16 : Sl} {a17 : Sl} {a18 : Sl} {a19 : Int} {a20 : Int} {a21 : Int} {a22 : Int} {a23 : Int} {a24 : Int} {a25 : Int} {a26 : Int} {a27 : Sl} {a28 : Sl} {a29 : Int} {a30 : Int} {a31 : Int} {a32 : Int} {a33 : Int} {a34 : Sl} {a35 : Sl} {a36 : Sl} {h : GH} {K : Value → GH → Option β} (hc : F_ref26_SameItem R a1 a2 a3 a4 a5 a6 a7 a8 a9 a10 a11 a12 a13 a14 a15 a16 a17 a18 a19 a20 a21 a22 a23 a24 a25 a26 a27 a28 a29 a30 a31 a32 a33 a34 a35 a36 h (fun q0 h' => K (Value.bool q0) h') = some r) : ∃ v h', K v h' = some r ∧ CallSim Try.prog 17 [Value.agg #[Value.int .i64 a1, Value.int .i64 a2, Value.int .i64 a3, Value.int .i64 a4, Value.int .i64 a5, Value.int .u32 a6, Value.int .u32 a7, Value.int .u32 a8, Value.slice a9.a a9.n a9.c, Value.slice a10.a a10.n a10.c, Value.int .i64 a11, Value.int .i64 a12, Value.int .i64 a13, Value.int .u32 a14, Value.int .u32 a15, Value.slice a16.a a16.n a16.c, Value.slice a17.a a17.n a17.c, Value.slice a18.a a18.n a18.c], Value.agg #[Value.int .i64 a19, Value.int .i64 a20, Value.int .i64 a21, Value.int .i64 a22, Value.int .i64 a23, Value.int .u32 a24, Value.int .u32 a25, Value.int .u32 a26, Value.slice a27.a a27.n a27.c, Value.slice a28.a a28.n a28.c, Value.int .i64 a29, Value.int .i64 a30, Value.int .i64 a31, Value.int .u32 a32, Value.int .u32 a33, Value.slice a34.a a34.n a34.c, Value.slice a35.a a35.n a35.c, Value.slice a36.a a36.n a36.c]] h v h' := by
  unfold F_ref26_SameItem G_ref26_SameItem at hc
  obtain ⟨v, h', hk, hs⟩ := gfun_sim (CF_ref26_SameItem_sim (R := R)) mixed_ok (fun f h => by cases h) Try.func17 (by kernel_rfl) hc
  obtain ⟨u0, e0, hk⟩ := exB_v hk; cases e0
  exact ⟨_, h', hk, hs⟩
/-! F4 duffel/duffellaw26.DenoteScans -/
def CF_law26_DenoteScans (F_ref01_Cut : Sl → Int → GH → (Sl → GH → Option β) → Option β) (F_ref01_Copy : Sl → GH → (Sl → GH → Option β) → Option β) (F_denote_Scan : Sl → GH → (Sl → Sl → Int → GH → Option β) → Option β) (F_ref26_Scan : Sl → GH → (Sl → Sl → Int → GH → Option β) → Option β) (F_ref01_Same : Sl → Sl → GH → (Bool → GH → Option β) → Option β) (F_law26_plain : Int → Int → Int → Int → Int → Int → Int → Int → Sl → Sl → Int → Int → Int → Int → Int → Sl → Sl → Sl → GH → (Int → Int → Int → Int → Int → Int → Int → Int → Sl → Sl → Int → Int → Int → Int → Int → Sl → Sl → Sl → GH → Option β) → Option β) (F_ref26_SameItem : Int → Int → Int → Int → Int → Int → Int → Int → Sl → Sl → Int → Int → Int → Int → Int → Sl → Sl → Sl → Int → Int → Int → Int → Int → Int → Int → Int → Sl → Sl → Int → Int → Int → Int → Int → Sl → Sl → Sl → GH → (Bool → GH → Option β) → Option β) (F_law26_lives : GH → (Bool → GH → Option β) → Option β) : Orc β := fun f args h K => bif Nat.beq f 12 then (match args with | [.slice p1a p1n p1c, .int .i64 p2] => F_ref01_Cut ⟨p1a, p1n, p1c⟩ p2 h (fun q4 h' => K (Value.slice q4.a q4.n q4.c) h') | _ => none) else (bif Nat.beq f 13 then (match args with | [.slice p1a p1n p1c] => F_ref01_Copy ⟨p1a, p1n, p1c⟩ h (fun q4 h' => K (Value.slice q4.a q4.n q4.c) h') | _ => none) else (bif Nat.beq f 14 then (match args with | [.slice p1a p1n p1c] => F_denote_Scan ⟨p1a, p1n, p1c⟩ h (fun q41 q42 q43 h' => K (Value.tuple #[Value.slice q41.a q41.n q41.c, Value.slice q42.a q42.n q42.c, Value.int .i64 q43]) h') | _ => none) else (bif Nat.beq f 15 then (match args with | [.slice p1a p1n p1c] => F_ref26_Scan ⟨p1a, p1n, p1c⟩ h (fun q113 q114 q115 h' => K (Value.tuple #[Value.slice q113.a q113.n q113.c, Value.slice q114.a q114.n q114.c, Value.int .i64 q115]) h') | _ => none) else (bif Nat.beq f 16 then (match args with | [.slice p1a p1n p1c, .slice p2a p2n p2c] => F_ref01_Same ⟨p1a, p1n, p1c⟩ ⟨p2a, p2n, p2c⟩ h (fun q16 h' => K (Value.bool q16) h') | _ => none) else (bif Nat.beq f 18 then (match args with | [.agg ⟨[.int .i64 p1, .int .i64 p2, .int .i64 p3, .int .i64 p4, .int .i64 p5, .int .u32 p6, .int .u32 p7, .int .u32 p8, .slice p9a p9n p9c, .slice p10a p10n p10c, .int .i64 p11, .int .i64 p12, .int .i64 p13, .int .u32 p14, .int .u32 p15, .slice p16a p16n p16c, .slice p17a p17n p17c, .slice p18a p18n p18c]⟩] => F_law26_plain p1 p2 p3 p4 p5 p6 p7 p8 ⟨p9a, p9n, p9c⟩ ⟨p10a, p10n, p10c⟩ p11 p12 p13 p14 p15 ⟨p16a, p16n, p16c⟩ ⟨p17a, p17n, p17c⟩ ⟨p18a, p18n, p18c⟩ h (fun q60 q61 q62 q63 q64 q65 q66 q67 q68 q69 q70 q71 q72 q73 q74 q75 q76 q77 h' => K (Value.agg #[Value.int .i64 q60, Value.int .i64 q61, Value.int .i64 q62, Value.int .i64 q63, Value.int .i64 q64, Value.int .u32 q65, Value.int .u32 q66, Value.int .u32 q67, Value.slice q68.a q68.n q68.c, Value.slice q69.a q69.n q69.c, Value.int .i64 q70, Value.int .i64 q71, Value.int .i64 q72, Value.int .u32 q73, Value.int .u32 q74, Value.slice q75.a q75.n q75.c, Value.slice q76.a q76.n q76.c, Value.slice q77.a q77.n q77.c]) h') | _ => none) else (bif Nat.beq f 17 then (match args with | [.agg ⟨[.int .i64 p1, .int .i64 p2, .int .i64 p3, .int .i64 p4, .int .i64 p5, .int .u32 p6, .int .u32 p7, .int .u32 p8, .slice p9a p9n p9c, .slice p10a p10n p10c, .int .i64 p11, .int .i64 p12, .int .i64 p13, .int .u32 p14, .int .u32 p15, .slice p16a p16n p16c, .slice p17a p17n p17c, .slice p18a p18n p18c]⟩, .agg ⟨[.int .i64 p19, .int .i64 p20, .int .i64 p21, .int .i64 p22, .int .i64 p23, .int .u32 p24, .int .u32 p25, .int .u32 p26, .slice p27a p27n p27c, .slice p28a p28n p28c, .int .i64 p29, .int .i64 p30, .int .i64 p31, .int .u32 p32, .int .u32 p33, .slice p34a p34n p34c, .slice p35a p35n p35c, .slice p36a p36n p36c]⟩] => F_ref26_SameItem p1 p2 p3 p4 p5 p6 p7 p8 ⟨p9a, p9n, p9c⟩ ⟨p10a, p10n, p10c⟩ p11 p12 p13 p14 p15 ⟨p16a, p16n, p16c⟩ ⟨p17a, p17n, p17c⟩ ⟨p18a, p18n, p18c⟩ p19 p20 p21 p22 p23 p24 p25 p26 ⟨p27a, p27n, p27c⟩ ⟨p28a, p28n, p28c⟩ p29 p30 p31 p32 p33 ⟨p34a, p34n, p34c⟩ ⟨p35a, p35n, p35c⟩ ⟨p36a, p36n, p36c⟩ h (fun q83 h' => K (Value.bool q83) h') | _ => none) else (bif Nat.beq f 11 then (match args with | [] => F_law26_lives  h (fun q1 h' => K (Value.bool q1) h') | _ => none) else none)))))))
def HF_law26_DenoteScans : Hints := ⟨[(8, [3, 4, 5, 7, 8, 10], [(0, [(4, .ty 36), (5, .ty 23), (7, .ty 39), (8, .ty 23)])], none), (12, [4, 5, 7, 8, 11], [(2, [(5, .ty 23), (8, .ty 23)])], some [(2, .ty 4)])], [], []⟩
noncomputable def BF_law26_DenoteScans : Code := match Try.f4.body with | some c => c | none => .skip
noncomputable def F_law26_DenoteScans_l0 (F_ref01_Cut : Sl → Int → GH → (Sl → GH → Option β) → Option β) (F_ref01_Copy : Sl → GH → (Sl → GH → Option β) → Option β) (F_denote_Scan : Sl → GH → (Sl → Sl → Int → GH → Option β) → Option β) (F_ref26_Scan : Sl → GH → (Sl → Sl → Int → GH → Option β) → Option β) (F_ref01_Same : Sl → Sl → GH → (Bool → GH → Option β) → Option β) (F_law26_plain : Int → Int → Int → Int → Int → Int → Int → Int → Sl → Sl → Int → Int → Int → Int → Int → Sl → Sl → Sl → GH → (Int → Int → Int → Int → Int → Int → Int → Int → Sl → Sl → Int → Int → Int → Int → Int → Sl → Sl → Sl → GH → Option β) → Option β) (F_ref26_SameItem : Int → Int → Int → Int → Int → Int → Int → Int → Sl → Sl → Int → Int → Int → Int → Int → Sl → Sl → Sl → Int → Int → Int → Int → Int → Int → Int → Int → Sl → Sl → Int → Int → Int → Int → Int → Sl → Sl → Sl → GH → (Bool → GH → Option β) → Option β) (F_law26_lives : GH → (Bool → GH → Option β) → Option β) (R : Nat) (n : Nat) (y18 : Sl) (y19 : Sl) (y20 : Sl) (y21 : Sl) (y22 : Sl) (y23 : Int) (h : GH) (K0 : Sl → Sl → Sl → Sl → GH → Option β) : Option β := gloop (gcode Try.prog (CF_law26_DenoteScans F_ref01_Cut F_ref01_Copy F_denote_Scan F_ref26_Scan F_ref01_Same F_law26_plain F_ref26_SameItem F_law26_lives) Try.f4.ntmps HF_law26_DenoteScans R (at_ [true, true, true, true, true, true, false, true, false, false] BF_law26_DenoteScans)) [3, 4, 5, 7, 8, 10] n [(3, Value.slice y18.a y18.n y18.c), (4, Value.slice y19.a y19.n y19.c), (5, Value.slice y20.a y20.n y20.c), (7, Value.slice y21.a y21.n y21.c), (8, Value.slice y22.a y22.n y22.c), (10, Value.int .i64 y23)] h (fun i e' h' => bif Nat.beq i 0 then (exS (some (e'.get 4)) fun u118 => exS (some (e'.get 5)) fun u119 => exS (some (e'.get 7)) fun u120 => exS (some (e'.get 8)) fun u121 => K0 u118 u119 u120 u121 h') else none) (fun e' h' => none)
noncomputable def F_law26_DenoteScans_l1 (F_ref01_Cut : Sl → Int → GH → (Sl → GH → Option β) → Option β) (F_ref01_Copy : Sl → GH → (Sl → GH → Option β) → Option β) (F_denote_Scan : Sl → GH → (Sl → Sl → Int → GH → Option β) → Option β) (F_ref26_Scan : Sl → GH → (Sl → Sl → Int → GH → Option β) → Option β) (F_ref01_Same : Sl → Sl → GH → (Bool → GH → Option β) → Option β) (F_law26_plain : Int → Int → Int → Int → Int → Int → Int → Int → Sl → Sl → Int → Int → Int → Int → Int → Sl → Sl → Sl → GH → (Int → Int → Int → Int → Int → Int → Int → Int → Sl → Sl → Int → Int → Int → Int → Int → Sl → Sl → Sl → GH → Option β) → Option β) (F_ref26_SameItem : Int → Int → Int → Int → Int → Int → Int → Int → Sl → Sl → Int → Int → Int → Int → Int → Sl → Sl → Sl → Int → Int → Int → Int → Int → Int → Int → Int → Sl → Sl → Int → Int → Int → Int → Int → Sl → Sl → Sl → GH → (Bool → GH → Option β) → Option β) (F_law26_lives : GH → (Bool → GH → Option β) → Option β) (R : Nat) (n : Nat) (y39 : Sl) (y40 : Sl) (y41 : Sl) (y42 : Sl) (y43 : Int) (h : GH) (K2 : Sl → Sl → GH → Option β) (Kr : Bool → GH → Option β) : Option β := gloop (gcode Try.prog (CF_law26_DenoteScans F_ref01_Cut F_ref01_Copy F_denote_Scan F_ref26_Scan F_ref01_Same F_law26_plain F_ref26_SameItem F_law26_lives) Try.f4.ntmps HF_law26_DenoteScans R (at_ [true, true, true, true, true, true, true, false, true, false, false] BF_law26_DenoteScans)) [4, 5, 7, 8, 11] n [(4, Value.slice y39.a y39.n y39.c), (5, Value.slice y40.a y40.n y40.c), (7, Value.slice y41.a y41.n y41.c), (8, Value.slice y42.a y42.n y42.c), (11, Value.int .i64 y43)] h (fun i e' h' => bif Nat.beq i 2 then (exS (some (e'.get 5)) fun u122 => exS (some (e'.get 8)) fun u123 => K2 u122 u123 h') else none) (fun e' h' => exB (some (e'.get 2)) fun u124 => Kr u124 h')
set_option maxRecDepth 100000 in
theorem F_law26_DenoteScans_l1_succ (F_ref01_Cut : Sl → Int → GH → (Sl → GH → Option β) → Option β) (F_ref01_Copy : Sl → GH → (Sl → GH → Option β) → Option β) (F_denote_Scan : Sl → GH → (Sl → Sl → Int → GH → Option β) → Option β) (F_ref26_Scan : Sl → GH → (Sl → Sl → Int → GH → Option β) → Option β) (F_ref01_Same : Sl → Sl → GH → (Bool → GH → Option β) → Option β) (F_law26_plain : Int → Int → Int → Int → Int → Int → Int → Int → Sl → Sl → Int → Int → Int → Int → Int → Sl → Sl → Sl → GH → (Int → Int → Int → Int → Int → Int → Int → Int → Sl → Sl → Int → Int → Int → Int → Int → Sl → Sl → Sl → GH → Option β) → Option β) (F_ref26_SameItem : Int → Int → Int → Int → Int → Int → Int → Int → Sl → Sl → Int → Int → Int → Int → Int → Sl → Sl → Sl → Int → Int → Int → Int → Int → Int → Int → Int → Sl → Sl → Int → Int → Int → Int → Int → Sl → Sl → Sl → GH → (Bool → GH → Option β) → Option β) (F_law26_lives : GH → (Bool → GH → Option β) → Option β) (R : Nat) (n : Nat) (y39 : Sl) (y40 : Sl) (y41 : Sl) (y42 : Sl) (y43 : Int) (h : GH) (K2 : Sl → Sl → GH → Option β) (Kr : Bool → GH → Option β) : F_law26_DenoteScans_l1 F_ref01_Cut F_ref01_Copy F_denote_Scan F_ref26_Scan F_ref01_Same F_law26_plain F_ref26_SameItem F_law26_lives R (n + 1) y39 y40 y41 y42 y43 h K2 Kr =
    (bif decide (y43 < ((y39.n : Nat) : Int)) then exA y39.a fun g47 o48 => within y43 y39.n (exI .i64 (h.cell ⟨g47, o48 + y43.toNat * 18, none⟩) fun x49 => exI .i64 (h.cell ⟨g47, o48 + y43.toNat * 18 + 1, none⟩) fun x50 => exI .i64 (h.cell ⟨g47, o48 + y43.toNat * 18 + 1 + 1, none⟩) fun x51 => exI .i64 (h.cell ⟨g47, o48 + y43.toNat * 18 + 1 + 1 + 1, none⟩) fun x52 => exI .i64 (h.cell ⟨g47, o48 + y43.toNat * 18 + 1 + 1 + 1 + 1, none⟩) fun x53 => exI .u32 (h.cell ⟨g47, o48 + y43.toNat * 18 + 1 + 1 + 1 + 1 + 1, none⟩) fun x54 => exI .u32 (h.cell ⟨g47, o48 + y43.toNat * 18 + 1 + 1 + 1 + 1 + 1 + 1, none⟩) fun x55 => exI .u32 (h.cell ⟨g47, o48 + y43.toNat * 18 + 1 + 1 + 1 + 1 + 1 + 1 + 1, none⟩) fun x56 => exS (h.cell ⟨g47, o48 + y43.toNat * 18 + 1 + 1 + 1 + 1 + 1 + 1 + 1 + 1, none⟩) fun x57 => exS (h.cell ⟨g47, o48 + y43.toNat * 18 + 1 + 1 + 1 + 1 + 1 + 1 + 1 + 1 + 1, none⟩) fun x58 => exI .i64 (h.cell ⟨g47, o48 + y43.toNat * 18 + 1 + 1 + 1 + 1 + 1 + 1 + 1 + 1 + 1 + 1, none⟩) fun x59 => exI .i64 (h.cell ⟨g47, o48 + y43.toNat * 18 + 1 + 1 + 1 + 1 + 1 + 1 + 1 + 1 + 1 + 1 + 1, none⟩) fun x60 => exI .i64 (h.cell ⟨g47, o48 + y43.toNat * 18 + 1 + 1 + 1 + 1 + 1 + 1 + 1 + 1 + 1 + 1 + 1 + 1, none⟩) fun x61 => exI .u32 (h.cell ⟨g47, o48 + y43.toNat * 18 + 1 + 1 + 1 + 1 + 1 + 1 + 1 + 1 + 1 + 1 + 1 + 1 + 1, none⟩) fun x62 => exI .u32 (h.cell ⟨g47, o48 + y43.toNat * 18 + 1 + 1 + 1 + 1 + 1 + 1 + 1 + 1 + 1 + 1 + 1 + 1 + 1 + 1, none⟩) fun x63 => exS (h.cell ⟨g47, o48 + y43.toNat * 18 + 1 + 1 + 1 + 1 + 1 + 1 + 1 + 1 + 1 + 1 + 1 + 1 + 1 + 1 + 1, none⟩) fun x64 => exS (h.cell ⟨g47, o48 + y43.toNat * 18 + 1 + 1 + 1 + 1 + 1 + 1 + 1 + 1 + 1 + 1 + 1 + 1 + 1 + 1 + 1 + 1, none⟩) fun x65 => exS (h.cell ⟨g47, o48 + y43.toNat * 18 + 1 + 1 + 1 + 1 + 1 + 1 + 1 + 1 + 1 + 1 + 1 + 1 + 1 + 1 + 1 + 1 + 1, none⟩) fun x66 => F_law26_plain x49 x50 x51 x52 x53 x54 x55 x56 x57 x58 x59 x60 x61 x62 x63 x64 x65 x66 h fun r67 r68 r69 r70 r71 r72 r73 r74 r75 r76 r77 r78 r79 r80 r81 r82 r83 r84 h85 => exA y41.a fun g86 o87 => within y43 y41.n (exI .i64 (h85.cell ⟨g86, o87 + y43.toNat * 18, none⟩) fun x88 => exI .i64 (h85.cell ⟨g86, o87 + y43.toNat * 18 + 1, none⟩) fun x89 => exI .i64 (h85.cell ⟨g86, o87 + y43.toNat * 18 + 1 + 1, none⟩) fun x90 => exI .i64 (h85.cell ⟨g86, o87 + y43.toNat * 18 + 1 + 1 + 1, none⟩) fun x91 => exI .i64 (h85.cell ⟨g86, o87 + y43.toNat * 18 + 1 + 1 + 1 + 1, none⟩) fun x92 => exI .u32 (h85.cell ⟨g86, o87 + y43.toNat * 18 + 1 + 1 + 1 + 1 + 1, none⟩) fun x93 => exI .u32 (h85.cell ⟨g86, o87 + y43.toNat * 18 + 1 + 1 + 1 + 1 + 1 + 1, none⟩) fun x94 => exI .u32 (h85.cell ⟨g86, o87 + y43.toNat * 18 + 1 + 1 + 1 + 1 + 1 + 1 + 1, none⟩) fun x95 => exS (h85.cell ⟨g86, o87 + y43.toNat * 18 + 1 + 1 + 1 + 1 + 1 + 1 + 1 + 1, none⟩) fun x96 => exS (h85.cell ⟨g86, o87 + y43.toNat * 18 + 1 + 1 + 1 + 1 + 1 + 1 + 1 + 1 + 1, none⟩) fun x97 => exI .i64 (h85.cell ⟨g86, o87 + y43.toNat * 18 + 1 + 1 + 1 + 1 + 1 + 1 + 1 + 1 + 1 + 1, none⟩) fun x98 => exI .i64 (h85.cell ⟨g86, o87 + y43.toNat * 18 + 1 + 1 + 1 + 1 + 1 + 1 + 1 + 1 + 1 + 1 + 1, none⟩) fun x99 => exI .i64 (h85.cell ⟨g86, o87 + y43.toNat * 18 + 1 + 1 + 1 + 1 + 1 + 1 + 1 + 1 + 1 + 1 + 1 + 1, none⟩) fun x100 => exI .u32 (h85.cell ⟨g86, o87 + y43.toNat * 18 + 1 + 1 + 1 + 1 + 1 + 1 + 1 + 1 + 1 + 1 + 1 + 1 + 1, none⟩) fun x101 => exI .u32 (h85.cell ⟨g86, o87 + y43.toNat * 18 + 1 + 1 + 1 + 1 + 1 + 1 + 1 + 1 + 1 + 1 + 1 + 1 + 1 + 1, none⟩) fun x102 => exS (h85.cell ⟨g86, o87 + y43.toNat * 18 + 1 + 1 + 1 + 1 + 1 + 1 + 1 + 1 + 1 + 1 + 1 + 1 + 1 + 1 + 1, none⟩) fun x103 => exS (h85.cell ⟨g86, o87 + y43.toNat * 18 + 1 + 1 + 1 + 1 + 1 + 1 + 1 + 1 + 1 + 1 + 1 + 1 + 1 + 1 + 1 + 1, none⟩) fun x104 => exS (h85.cell ⟨g86, o87 + y43.toNat * 18 + 1 + 1 + 1 + 1 + 1 + 1 + 1 + 1 + 1 + 1 + 1 + 1 + 1 + 1 + 1 + 1 + 1, none⟩) fun x105 => F_ref26_SameItem r67 r68 r69 r70 r71 r72 r73 r74 r75 r76 r77 r78 r79 r80 r81 r82 r83 r84 x88 x89 x90 x91 x92 x93 x94 x95 x96 x97 x98 x99 x100 x101 x102 x103 x104 x105 h85 fun r106 h107 => (bif sameAt g86 (o87 + y43.toNat * 18) 18 h h85 then (bif !r106 then Kr false h107 else F_law26_DenoteScans_l1 F_ref01_Cut F_ref01_Copy F_denote_Scan F_ref26_Scan F_ref01_Same F_law26_plain F_ref26_SameItem F_law26_lives R n y39 y40 y41 y42 (IntKind.wrap .i64 (y43 + 1)) h107 K2 Kr) else none))) else K2 y40 y42 h) := by kernel_rfl
set_option maxRecDepth 100000 in
theorem F_law26_DenoteScans_l0_succ (F_ref01_Cut : Sl → Int → GH → (Sl → GH → Option β) → Option β) (F_ref01_Copy : Sl → GH → (Sl → GH → Option β) → Option β) (F_denote_Scan : Sl → GH → (Sl → Sl → Int → GH → Option β) → Option β) (F_ref26_Scan : Sl → GH → (Sl → Sl → Int → GH → Option β) → Option β) (F_ref01_Same : Sl → Sl → GH → (Bool → GH → Option β) → Option β) (F_law26_plain : Int → Int → Int → Int → Int → Int → Int → Int → Sl → Sl → Int → Int → Int → Int → Int → Sl → Sl → Sl → GH → (Int → Int → Int → Int → Int → Int → Int → Int → Sl → Sl → Int → Int → Int → Int → Int → Sl → Sl → Sl → GH → Option β) → Option β) (F_ref26_SameItem : Int → Int → Int → Int → Int → Int → Int → Int → Sl → Sl → Int → Int → Int → Int → Int → Sl → Sl → Sl → Int → Int → Int → Int → Int → Int → Int → Int → Sl → Sl → Int → Int → Int → Int → Int → Sl → Sl → Sl → GH → (Bool → GH → Option β) → Option β) (F_law26_lives : GH → (Bool → GH → Option β) → Option β) (R : Nat) (n : Nat) (y18 : Sl) (y19 : Sl) (y20 : Sl) (y21 : Sl) (y22 : Sl) (y23 : Int) (h : GH) (K0 : Sl → Sl → Sl → Sl → GH → Option β) : F_law26_DenoteScans_l0 F_ref01_Cut F_ref01_Copy F_denote_Scan F_ref26_Scan F_ref01_Same F_law26_plain F_ref26_SameItem F_law26_lives R (n + 1) y18 y19 y20 y21 y22 y23 h K0 =
    (bif decide (y23 < ((y18.n : Nat) : Int)) then exA y18.a fun g28 o29 => within y23 y18.n (exI .u8 (h.cell ⟨g28, o29 + y23.toNat * 1, none⟩) fun x30 => exA y18.a fun g31 o32 => within y23 y18.n (gput g31 (o32 + y23.toNat * 1) [Value.int .u8 (IntKind.wrap .u8 (x30 + 1))] h fun h33 => F_law26_DenoteScans_l0 F_ref01_Cut F_ref01_Copy F_denote_Scan F_ref26_Scan F_ref01_Same F_law26_plain F_ref26_SameItem F_law26_lives R n y18 y19 y20 y21 y22 (IntKind.wrap .i64 (y23 + 1)) h33 K0)) else K0 y19 y20 y21 y22 h) := by kernel_rfl
noncomputable def G_law26_DenoteScans (F_ref01_Cut : Sl → Int → GH → (Sl → GH → Option β) → Option β) (F_ref01_Copy : Sl → GH → (Sl → GH → Option β) → Option β) (F_denote_Scan : Sl → GH → (Sl → Sl → Int → GH → Option β) → Option β) (F_ref26_Scan : Sl → GH → (Sl → Sl → Int → GH → Option β) → Option β) (F_ref01_Same : Sl → Sl → GH → (Bool → GH → Option β) → Option β) (F_law26_plain : Int → Int → Int → Int → Int → Int → Int → Int → Sl → Sl → Int → Int → Int → Int → Int → Sl → Sl → Sl → GH → (Int → Int → Int → Int → Int → Int → Int → Int → Sl → Sl → Int → Int → Int → Int → Int → Sl → Sl → Sl → GH → Option β) → Option β) (F_ref26_SameItem : Int → Int → Int → Int → Int → Int → Int → Int → Sl → Sl → Int → Int → Int → Int → Int → Sl → Sl → Sl → Int → Int → Int → Int → Int → Int → Int → Int → Sl → Sl → Int → Int → Int → Int → Int → Sl → Sl → Sl → GH → (Bool → GH → Option β) → Option β) (F_law26_lives : GH → (Bool → GH → Option β) → Option β) (R : Nat) (a1 : Sl) (h : GH) (K : Bool → GH → Option β) : Option β := gfun Try.prog (CF_law26_DenoteScans F_ref01_Cut F_ref01_Copy F_denote_Scan F_ref26_Scan F_ref01_Same F_law26_plain F_ref26_SameItem F_law26_lives) HF_law26_DenoteScans R Try.f4 [Value.slice a1.a a1.n a1.c] h (fun v h' => exB (some v) fun u125 => K u125 h')
set_option maxRecDepth 100000 in
theorem F_law26_DenoteScans_gen (F_ref01_Cut : Sl → Int → GH → (Sl → GH → Option β) → Option β) (F_ref01_Copy : Sl → GH → (Sl → GH → Option β) → Option β) (F_denote_Scan : Sl → GH → (Sl → Sl → Int → GH → Option β) → Option β) (F_ref26_Scan : Sl → GH → (Sl → Sl → Int → GH → Option β) → Option β) (F_ref01_Same : Sl → Sl → GH → (Bool → GH → Option β) → Option β) (F_law26_plain : Int → Int → Int → Int → Int → Int → Int → Int → Sl → Sl → Int → Int → Int → Int → Int → Sl → Sl → Sl → GH → (Int → Int → Int → Int → Int → Int → Int → Int → Sl → Sl → Int → Int → Int → Int → Int → Sl → Sl → Sl → GH → Option β) → Option β) (F_ref26_SameItem : Int → Int → Int → Int → Int → Int → Int → Int → Sl → Sl → Int → Int → Int → Int → Int → Sl → Sl → Sl → Int → Int → Int → Int → Int → Int → Int → Int → Sl → Sl → Int → Int → Int → Int → Int → Sl → Sl → Sl → GH → (Bool → GH → Option β) → Option β) (F_law26_lives : GH → (Bool → GH → Option β) → Option β) (R : Nat) (a1 : Sl) (h : GH) (K : Bool → GH → Option β) : G_law26_DenoteScans F_ref01_Cut F_ref01_Copy F_denote_Scan F_ref26_Scan F_ref01_Same F_law26_plain F_ref26_SameItem F_law26_lives R a1 h K =
    F_ref01_Cut a1 900 h fun r2 h3 => F_ref01_Copy r2 h3 fun r4 h5 => F_denote_Scan r4 h5 fun r6 r7 r8 h9 => F_ref26_Scan r2 h9 fun r10 r11 r12 h13 => (bif ((r6.n : Nat) : Int) != ((r10.n : Nat) : Int) then K false h13 else F_ref01_Same r7 r11 h13 fun r14 h15 => (bif !r14 then K false h15 else (bif r8 != r12 then K false h15 else F_ref01_Same r4 r2 h15 fun r16 h17 => (bif !r16 then K false h17 else F_law26_DenoteScans_l0 F_ref01_Cut F_ref01_Copy F_denote_Scan F_ref26_Scan F_ref01_Same F_law26_plain F_ref26_SameItem F_law26_lives R R r4 r6 r7 r10 r11 0 h17 (fun w34 w35 w36 w37 h38 => F_law26_DenoteScans_l1 F_ref01_Cut F_ref01_Copy F_denote_Scan F_ref26_Scan F_ref01_Same F_law26_plain F_ref26_SameItem F_law26_lives R R w34 w35 w36 w37 0 h38 (fun w108 w109 h110 => F_ref01_Same w108 w109 h110 fun r111 h112 => (bif r111 then F_law26_lives h112 fun r113 h114 => K r113 h114 else K false h112)) (fun w115 h116 => K w115 h116)))))) := by kernel_rfl
noncomputable def F_law26_DenoteScans (R : Nat) (a1 : Sl) (h : GH) (K : Bool → GH → Option β) : Option β := G_law26_DenoteScans (F_ref01_Cut R) (F_ref01_Copy R) (F_denote_Scan R) (F_ref26_Scan R) (F_ref01_Same R) (F_law26_plain R) (F_ref26_SameItem R) F_law26_lives R a1 h K
set_option maxRecDepth 100000 in
theorem CF_law26_DenoteScans_sim {R : Nat} : SimOrc Try.prog (CF_law26_DenoteScans (F_ref01_Cut R) (F_ref01_Copy R) (F_denote_Scan R) (F_ref26_Scan R) (F_ref01_Same R) (F_law26_plain R) (F_ref26_SameItem R) F_law26_lives (β := β)) := by
  intro f args h K r hc
  unfold CF_law26_DenoteScans at hc
  cases hb : Nat.beq f 12 with
  | true =>
    rw [hb] at hc
    simp only [cond_true] at hc
    obtain rfl := Nat.eq_of_beq_eq_true hb
    split at hc
    · exact any_call (F_ref01_Cut_sim (K := K) hc)
    · cases hc
  | false =>
  rw [hb] at hc
  simp only [cond_false] at hc
  cases hb : Nat.beq f 13 with
  | true =>
    rw [hb] at hc
    simp only [cond_true] at hc
    obtain rfl := Nat.eq_of_beq_eq_true hb
    split at hc
    · exact any_call (F_ref01_Copy_sim (K := K) hc)
    · cases hc
  | false =>
  rw [hb] at hc
  simp only [cond_false] at hc
  cases hb : Nat.beq f 14 with
  | true =>
    rw [hb] at hc
    simp only [cond_true] at hc
    obtain rfl := Nat.eq_of_beq_eq_true hb
    split at hc
    · exact any_call (F_denote_Scan_sim (K := K) hc)
    · cases hc
  | false =>
  rw [hb] at hc
  simp only [cond_false] at hc
  cases hb : Nat.beq f 15 with
  | true =>
    rw [hb] at hc
    simp only [cond_true] at hc
    obtain rfl := Nat.eq_of_beq_eq_true hb
    split at hc
    · exact any_call (F_ref26_Scan_sim (K := K) hc)
    · cases hc
  | false =>
  rw [hb] at hc
  simp only [cond_false] at hc
  cases hb : Nat.beq f 16 with
  | true =>
    rw [hb] at hc
    simp only [cond_true] at hc
    obtain rfl := Nat.eq_of_beq_eq_true hb
    split at hc
    · exact any_call (F_ref01_Same_sim (K := K) hc)
    · cases hc
  | false =>
  rw [hb] at hc
  simp only [cond_false] at hc
  cases hb : Nat.beq f 18 with
  | true =>
    rw [hb] at hc
    simp only [cond_true] at hc
    obtain rfl := Nat.eq_of_beq_eq_true hb
    split at hc
    · exact any_call (F_law26_plain_sim (K := K) hc)
    · cases hc
  | false =>
  rw [hb] at hc
  simp only [cond_false] at hc
  cases hb : Nat.beq f 17 with
  | true =>
    rw [hb] at hc
    simp only [cond_true] at hc
    obtain rfl := Nat.eq_of_beq_eq_true hb
    split at hc
    · exact any_call (F_ref26_SameItem_sim (K := K) hc)
    · cases hc
  | false =>
  rw [hb] at hc
  simp only [cond_false] at hc
  cases hb : Nat.beq f 11 with
  | true =>
    rw [hb] at hc
    simp only [cond_true] at hc
    obtain rfl := Nat.eq_of_beq_eq_true hb
    split at hc
    · exact any_call (F_law26_lives_sim (K := K) hc)
    · cases hc
  | false =>
  rw [hb] at hc
  simp only [cond_false] at hc
  cases hc
set_option maxRecDepth 100000 in
theorem F_law26_DenoteScans_sim {R : Nat} {r : β} {a1 : Sl} {h : GH} {K : Value → GH → Option β} (hc : F_law26_DenoteScans R a1 h (fun q0 h' => K (Value.bool q0) h') = some r) : ∃ v h', K v h' = some r ∧ CallSim Try.prog 4 [Value.slice a1.a a1.n a1.c] h v h' := by
  unfold F_law26_DenoteScans G_law26_DenoteScans at hc
  obtain ⟨v, h', hk, hs⟩ := gfun_sim (CF_law26_DenoteScans_sim (R := R)) mixed_ok (fun f h => by cases h) Try.func4 (by kernel_rfl) hc
  obtain ⟨u0, e0, hk⟩ := exB_v hk; cases e0
  exact ⟨_, h', hk, hs⟩
end
end Go.Proofs.Ytibngikhlgmhaaa.Gx
