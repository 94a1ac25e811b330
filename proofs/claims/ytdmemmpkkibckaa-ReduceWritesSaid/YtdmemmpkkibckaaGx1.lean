/- Functions of the program as the plain machine has them, each with its equation. Printed by a program of this place (wip/gx/gx.py) out of the translation. No condition. -/
import Derived.Test.YtdmemmpkkibckaaGxQ
import Derived.Test.YtdmemmpkkibckaaGx0
namespace Go.Proofs.Ytdmemmpkkibckaa.Gx
open Go
set_option linter.unusedVariables false
section
variable {β : Type}
/-! F18 duffel/follow.Best -/
def CF_follow_Best (F_follow_counts_best : Option Addr → GH → (Sl → GH → Option β) → Option β) : Orc β := fun f args h K => bif Nat.beq f 46 then (match args with | [.pointer p1] => F_follow_counts_best p1 h (fun q43 h' => K (Value.slice q43.a q43.n q43.c) h') | _ => none) else none
def HF_follow_Best : Hints := ⟨[(4, [2, 3, 4, 9, 10, 11], [(0, [(2, .ty 15), (3, .ty 15)])], none), (11, [2, 3, 7, 25], [(2, [(2, .ty 15), (7, .ty 15)])], none)], [], []⟩
noncomputable def BF_follow_Best : Code := match Try.f18.body with | some c => c | none => .skip
noncomputable def F_follow_Best_l0 (F_follow_counts_best : Option Addr → GH → (Sl → GH → Option β) → Option β) (R : Nat) (n : Nat) (y6 : Option Addr) (y7 : Option Addr) (y8 : Int) (y9 : Sl) (y10 : Int) (y11 : Int) (h : GH) (K0 : Option Addr → Option Addr → GH → Option β) : Option β := gloop (gcode Try.prog (CF_follow_Best F_follow_counts_best) Try.f18.ntmps HF_follow_Best R (at_ [true, true, true, false, true, false, false] BF_follow_Best)) [2, 3, 4, 9, 10, 11] n [(2, Value.pointer y6), (3, Value.pointer y7), (4, Value.int .u8 y8), (9, Value.slice y9.a y9.n y9.c), (10, Value.int .i64 y10), (11, Value.int .i64 y11)] h (fun i e' h' => bif Nat.beq i 0 then (exP (some (e'.get 2)) fun u54 => exP (some (e'.get 3)) fun u55 => K0 u54 u55 h') else none) (fun e' h' => none)
noncomputable def F_follow_Best_l1 (F_follow_counts_best : Option Addr → GH → (Sl → GH → Option β) → Option β) (R : Nat) (n : Nat) (y28 : Option Addr) (y29 : Option Addr) (y30 : Option Addr) (y31 : Int) (h : GH) (K2 : Option Addr → Option Addr → GH → Option β) : Option β := gloop (gcode Try.prog (CF_follow_Best F_follow_counts_best) Try.f18.ntmps HF_follow_Best R (at_ [true, true, true, true, true, false, true, false, false] BF_follow_Best)) [2, 3, 7, 25] n [(2, Value.pointer y28), (3, Value.pointer y29), (7, Value.pointer y30), (25, Value.int .i64 y31)] h (fun i e' h' => bif Nat.beq i 2 then (exP (some (e'.get 2)) fun u56 => exP (some (e'.get 7)) fun u57 => K2 u56 u57 h') else none) (fun e' h' => none)
set_option maxRecDepth 100000 in
theorem F_follow_Best_l1_succ (F_follow_counts_best : Option Addr → GH → (Sl → GH → Option β) → Option β) (R : Nat) (n : Nat) (y28 : Option Addr) (y29 : Option Addr) (y30 : Option Addr) (y31 : Int) (h : GH) (K2 : Option Addr → Option Addr → GH → Option β) : F_follow_Best_l1 F_follow_counts_best R (n + 1) y28 y29 y30 y31 h K2 =
    (bif decide (y31 < 256) then exA y29 fun g34 o35 => within y31 256 (F_follow_counts_best (some ⟨g34, o35 + y31.toNat * 256, none⟩) h fun r36 h37 => exA y30 fun g38 o39 => within y31 256 (gput g38 (o39 + y31.toNat * 1) [Value.slice r36.a r36.n r36.c] h37 fun h40 => F_follow_Best_l1 F_follow_counts_best R n y28 y29 y30 (IntKind.wrap .i64 (y31 + 1)) h40 K2)) else K2 y28 y30 h) := by kernel_rfl
set_option maxRecDepth 100000 in
theorem F_follow_Best_l0_succ (F_follow_counts_best : Option Addr → GH → (Sl → GH → Option β) → Option β) (R : Nat) (n : Nat) (y6 : Option Addr) (y7 : Option Addr) (y8 : Int) (y9 : Sl) (y10 : Int) (y11 : Int) (h : GH) (K0 : Option Addr → Option Addr → GH → Option β) : F_follow_Best_l0 F_follow_counts_best R (n + 1) y6 y7 y8 y9 y10 y11 h K0 =
    (bif decide (y11 < y10) then exA y9.a fun g14 o15 => within y11 y9.n (exI .u8 (h.cell ⟨g14, o15 + y11.toNat * 1, none⟩) fun x16 => exA y7 fun g17 o18 => within y8 256 (within x16 256 (exI .i64 (h.cell ⟨g17, o18 + y8.toNat * 256 + x16.toNat * 1, none⟩) fun x19 => exA y7 fun g20 o21 => within y8 256 (within x16 256 (gput g20 (o21 + y8.toNat * 256 + x16.toNat * 1) [Value.int .i64 (IntKind.wrap .i64 (x19 + 1))] h fun h22 => F_follow_Best_l0 F_follow_counts_best R n y6 y7 x16 y9 y10 (IntKind.wrap .i64 (y11 + 1)) h22 K0))))) else K0 y6 y7 h) := by kernel_rfl
noncomputable def G_follow_Best (F_follow_counts_best : Option Addr → GH → (Sl → GH → Option β) → Option β) (R : Nat) (a1 : Sl) (h : GH) (K : List Value → GH → Option β) : Option β := gfun Try.prog (CF_follow_Best F_follow_counts_best) HF_follow_Best R Try.f18 [Value.slice a1.a a1.n a1.c] h (fun v h' => exAg v fun c58 => (bif Nat.beq c58.length 256 then K c58 h' else none))
set_option maxRecDepth 100000 in
theorem F_follow_Best_gen (F_follow_counts_best : Option Addr → GH → (Sl → GH → Option β) → Option β) (R : Nat) (a1 : Sl) (h : GH) (K : List Value → GH → Option β) : G_follow_Best F_follow_counts_best R a1 h K =
    gnew Z40 0 h fun g2 h3 => gnew Z94 0 h3 fun g4 h5 => F_follow_Best_l0 F_follow_counts_best R R (some ⟨g2, 0, none⟩) (some ⟨g4, 0, none⟩) 0 a1 ((a1.n : Nat) : Int) 0 h5 (fun w23 w24 h25 => gnew Z40 0 h25 fun g26 h27 => F_follow_Best_l1 F_follow_counts_best R R w23 w24 (some ⟨g26, 0, none⟩) 0 h27 (fun w41 w42 h43 => exA w42 fun g44 o45 => exL (nsub (rowCells (h43.look g44)) (o45) 256) fun x46 => (bif Nat.beq (x46).length 256 then exA w41 fun g47 o48 => gput g47 (o48) x46 h43 fun h49 => exA w41 fun g50 o51 => exL (nsub (rowCells (h49.look g50)) (o51) 256) fun x52 => (bif Nat.beq (x52).length 256 then K x52 h49 else none) else none))) := by kernel_rfl
noncomputable def F_follow_Best (R : Nat) (a1 : Sl) (h : GH) (K : List Value → GH → Option β) : Option β := G_follow_Best (F_follow_counts_best R) R a1 h K
set_option maxRecDepth 100000 in
theorem CF_follow_Best_sim {R : Nat} : SimOrc Try.prog (CF_follow_Best (F_follow_counts_best R) (β := β)) := by
  intro f args h K r hc
  unfold CF_follow_Best at hc
  cases hb : Nat.beq f 46 with
  | true =>
    rw [hb] at hc
    simp only [cond_true] at hc
    obtain rfl := Nat.eq_of_beq_eq_true hb
    split at hc
    · exact any_call (F_follow_counts_best_sim (K := K) hc)
    · cases hc
  | false =>
  rw [hb] at hc
  simp only [cond_false] at hc
  cases hc
set_option maxRecDepth 100000 in
theorem F_follow_Best_sim {R : Nat} {r : β} {a1 : Sl} {h : GH} {K : Value → GH → Option β} (hc : F_follow_Best R a1 h (fun q0 h' => K (Value.agg (q0).toArray) h') = some r) : ∃ v h', K v h' = some r ∧ CallSim Try.prog 18 [Value.slice a1.a a1.n a1.c] h v h' := by
  unfold F_follow_Best G_follow_Best at hc
  obtain ⟨v, h', hk, hs⟩ := gfun_sim (CF_follow_Best_sim (R := R)) mixed_ok (fun f h => by cases h) Try.func18 (by kernel_rfl) hc
  obtain ⟨cs0, f0, hk⟩ := exAg_v hk; cases f0; obtain ⟨hl0, hk⟩ := beq_v hk
  exact ⟨_, h', hk, hs⟩
/-! F19 duffel/bitio.New -/
def CF_bitio_New  : Orc β := fun f args h K => none
def HF_bitio_New : Hints := ⟨[], [], []⟩
noncomputable def G_bitio_New  (R : Nat)  (h : GH) (K : Option Addr → GH → Option β) : Option β := gfun Try.prog (CF_bitio_New ) HF_bitio_New R Try.f19 [] h (fun v h' => exP (some v) fun u4 => K u4 h')
set_option maxRecDepth 100000 in
theorem F_bitio_New_gen  (R : Nat)  (h : GH) (K : Option Addr → GH → Option β) : G_bitio_New  R  h K =
    gnew [Value.slice none 0 0, Value.int .u64 0, Value.int .i64 0] 0 h fun g1 h2 => K (some ⟨g1, 0, none⟩) h2 := by kernel_rfl
noncomputable def F_bitio_New (R : Nat)  (h : GH) (K : Option Addr → GH → Option β) : Option β := G_bitio_New  R  h K
theorem CF_bitio_New_sim : SimOrc Try.prog (CF_bitio_New (β := β)) := by
  intro f args h K r hc
  cases hc
set_option maxRecDepth 100000 in
theorem F_bitio_New_sim {R : Nat} {r : β}  {h : GH} {K : Value → GH → Option β} (hc : F_bitio_New R  h (fun q0 h' => K (Value.pointer q0) h') = some r) : ∃ v h', K v h' = some r ∧ CallSim Try.prog 19 [] h v h' := by
  unfold F_bitio_New G_bitio_New at hc
  obtain ⟨v, h', hk, hs⟩ := gfun_sim CF_bitio_New_sim mixed_ok (fun f h => by cases h) Try.func19 (by kernel_rfl) hc
  obtain ⟨u0, e0, hk⟩ := exP_v hk; cases e0
  exact ⟨_, h', hk, hs⟩
/-! F48 (*duffel/bitio.Writer).Put -/
def CF_bitio_Writer_Put  : Orc β := fun f args h K => none
def HF_bitio_Writer_Put : Hints := ⟨[(4, [0], [(0, [])], none)], [], []⟩
noncomputable def BF_bitio_Writer_Put : Code := match Try.f48.body with | some c => c | none => .skip
noncomputable def F_bitio_Writer_Put_l0  (R : Nat) (n : Nat) (y19 : Option Addr) (h : GH) (K0 : GH → Option β) : Option β := gloop (gcode Try.prog (CF_bitio_Writer_Put ) Try.f48.ntmps HF_bitio_Writer_Put R (at_ [true, true, true, true, false, false] BF_bitio_Writer_Put)) [0] n [(0, Value.pointer y19)] h (fun i e' h' => bif Nat.beq i 0 then (K0 h') else none) (fun e' h' => none)
set_option maxRecDepth 100000 in
theorem F_bitio_Writer_Put_l0_succ  (R : Nat) (n : Nat) (y19 : Option Addr) (h : GH) (K0 : GH → Option β) : F_bitio_Writer_Put_l0  R (n + 1) y19 h K0 =
    exA y19 fun g20 o21 => exI .i64 (h.cell ⟨g20, o21 + 2, none⟩) fun x22 => (bif decide (x22 ≥ 8) then exA y19 fun g23 o24 => exS (h.cell ⟨g23, o24 + 0, none⟩) fun x25 => exA y19 fun g26 o27 => exI .u64 (h.cell ⟨g26, o27 + 1, none⟩) fun x28 => gnew [Value.int .u8 (IntKind.wrap .u8 x28)] 1 h fun g29 h30 => gappS 1 1 x25 ⟨(some ⟨g29, 0, none⟩), 1, 1⟩ h30 fun s31 h32 => exA y19 fun g33 o34 => gput g33 (o34 + 0) [Value.slice s31.a s31.n s31.c] h32 fun h35 => exA y19 fun g36 o37 => exI .u64 (h35.cell ⟨g36, o37 + 1, none⟩) fun x38 => exA y19 fun g39 o40 => gput g39 (o40 + 1) [Value.int .u64 (shrI .u64 x38 8)] h35 fun h41 => exA y19 fun g42 o43 => exI .i64 (h41.cell ⟨g42, o43 + 2, none⟩) fun x44 => exA y19 fun g45 o46 => gput g45 (o46 + 2) [Value.int .i64 (IntKind.wrap .i64 (x44 - 8))] h41 fun h47 => F_bitio_Writer_Put_l0 R n y19 h47 K0 else K0 h) := by kernel_rfl
noncomputable def G_bitio_Writer_Put  (R : Nat) (a1 : Option Addr) (a2 : Int) (a3 : Int) (h : GH) (K : GH → Option β) : Option β := gfun Try.prog (CF_bitio_Writer_Put ) HF_bitio_Writer_Put R Try.f48 [Value.pointer a1, Value.int .u32 a2, Value.int .i64 a3] h (fun _ h' => K h')
set_option maxRecDepth 100000 in
theorem F_bitio_Writer_Put_gen  (R : Nat) (a1 : Option Addr) (a2 : Int) (a3 : Int) (h : GH) (K : GH → Option β) : G_bitio_Writer_Put  R a1 a2 a3 h K =
    (bif a1.isNone then K h else exA a1 fun g4 o5 => exI .u64 (h.cell ⟨g4, o5 + 1, none⟩) fun x6 => (bif decide ((if 32 < (if 0 > a3 then 0 else a3) then 32 else if 0 > a3 then 0 else a3) < 0) then none else exA a1 fun g7 o8 => exI .i64 (h.cell ⟨g7, o8 + 2, none⟩) fun x9 => (bif decide (x9 < 0) then none else exA a1 fun g10 o11 => gput g10 (o11 + 1) [Value.int .u64 (IntKind.wrap .u64 (BitVec.ofInt (IntKind.bits .u64) x6 ||| BitVec.ofInt (IntKind.bits .u64) (shlI .u64 (IntKind.wrap .u64 (BitVec.ofInt (IntKind.bits .u64) (IntKind.wrap .u64 a2) &&& BitVec.ofInt (IntKind.bits .u64) (IntKind.wrap .u64 ((shlI .u64 1 (if 32 < (if 0 > a3 then 0 else a3) then 32 else if 0 > a3 then 0 else a3)) - 1))).toNat) x9)).toNat)] h fun h12 => exA a1 fun g13 o14 => exI .i64 (h12.cell ⟨g13, o14 + 2, none⟩) fun x15 => exA a1 fun g16 o17 => gput g16 (o17 + 2) [Value.int .i64 (IntKind.wrap .i64 (x15 + (if 32 < (if 0 > a3 then 0 else a3) then 32 else if 0 > a3 then 0 else a3)))] h12 fun h18 => F_bitio_Writer_Put_l0 R R a1 h18 (fun h48 => K h48)))) := by kernel_rfl
noncomputable def F_bitio_Writer_Put (R : Nat) (a1 : Option Addr) (a2 : Int) (a3 : Int) (h : GH) (K : GH → Option β) : Option β := G_bitio_Writer_Put  R a1 a2 a3 h K
theorem CF_bitio_Writer_Put_sim : SimOrc Try.prog (CF_bitio_Writer_Put (β := β)) := by
  intro f args h K r hc
  cases hc
set_option maxRecDepth 100000 in
theorem F_bitio_Writer_Put_sim {R : Nat} {r : β} {a1 : Option Addr} {a2 : Int} {a3 : Int} {h : GH} {K : Value → GH → Option β} (hc : F_bitio_Writer_Put R a1 a2 a3 h (fun h' => K (Value.tuple #[]) h') = some r) : ∃ v h', K v h' = some r ∧ CallSim Try.prog 48 [Value.pointer a1, Value.int .u32 a2, Value.int .i64 a3] h v h' := by
  unfold F_bitio_Writer_Put G_bitio_Writer_Put at hc
  obtain ⟨v, h', hk, hs⟩ := gfun_sim CF_bitio_Writer_Put_sim mixed_ok (fun f h => by cases h) Try.func48 (by kernel_rfl) hc
  exact ⟨_, h', hk, hs.unit⟩
/-! F20 duffel/follow.PutSets -/
def CF_follow_PutSets (F_follow_first : Sl → GH → (Sl → GH → Option β) → Option β) (F_bitio_Writer_Put : Option Addr → Int → Int → GH → (GH → Option β) → Option β) : Orc β := fun f args h K => bif Nat.beq f 47 then (match args with | [.slice p1a p1n p1c] => F_follow_first ⟨p1a, p1n, p1c⟩ h (fun q3 h' => K (Value.slice q3.a q3.n q3.c) h') | _ => none) else (bif Nat.beq f 48 then (match args with | [.pointer p1, .int .u32 p2, .int .i64 p3] => F_bitio_Writer_Put p1 p2 p3 h (fun h' => K (Value.tuple #[]) h') | _ => none) else none)
def HF_follow_PutSets : Hints := ⟨[(2, [0, 3, 4], [(0, [])], none), (7, [0, 3, 4, 21, 22, 23], [(2, [(0, .ty 42), (3, .ty 15), (4, .ty 3)])], none)], [], []⟩
noncomputable def BF_follow_PutSets : Code := match Try.f20.body with | some c => c | none => .skip
noncomputable def F_follow_PutSets_l0 (F_follow_first : Sl → GH → (Sl → GH → Option β) → Option β) (F_bitio_Writer_Put : Option Addr → Int → Int → GH → (GH → Option β) → Option β) (R : Nat) (n : Nat) (y5 : Option Addr) (y6 : Option Addr) (y7 : Int) (h : GH) (K0 : GH → Option β) : Option β := gloop (gcode Try.prog (CF_follow_PutSets F_follow_first F_bitio_Writer_Put) Try.f20.ntmps HF_follow_PutSets R (at_ [true, true, false, false] BF_follow_PutSets)) [0, 3, 4] n [(0, Value.pointer y5), (3, Value.pointer y6), (4, Value.int .i64 y7)] h (fun i e' h' => bif Nat.beq i 0 then (K0 h') else none) (fun e' h' => none)
noncomputable def F_follow_PutSets_l1 (F_follow_first : Sl → GH → (Sl → GH → Option β) → Option β) (F_bitio_Writer_Put : Option Addr → Int → Int → GH → (GH → Option β) → Option β) (R : Nat) (n : Nat) (y14 : Option Addr) (y15 : Option Addr) (y16 : Int) (y17 : Sl) (y18 : Int) (y19 : Int) (h : GH) (K2 : Option Addr → Option Addr → Int → GH → Option β) : Option β := gloop (gcode Try.prog (CF_follow_PutSets F_follow_first F_bitio_Writer_Put) Try.f20.ntmps HF_follow_PutSets R (at_ [true, true, false, false, true, false, false, true, true, true, false, false] BF_follow_PutSets)) [0, 3, 4, 21, 22, 23] n [(0, Value.pointer y14), (3, Value.pointer y15), (4, Value.int .i64 y16), (21, Value.slice y17.a y17.n y17.c), (22, Value.int .i64 y18), (23, Value.int .i64 y19)] h (fun i e' h' => bif Nat.beq i 2 then (exP (some (e'.get 0)) fun u32 => exP (some (e'.get 3)) fun u33 => exI .i64 (some (e'.get 4)) fun u34 => K2 u32 u33 u34 h') else none) (fun e' h' => none)
set_option maxRecDepth 100000 in
theorem F_follow_PutSets_l1_succ (F_follow_first : Sl → GH → (Sl → GH → Option β) → Option β) (F_bitio_Writer_Put : Option Addr → Int → Int → GH → (GH → Option β) → Option β) (R : Nat) (n : Nat) (y14 : Option Addr) (y15 : Option Addr) (y16 : Int) (y17 : Sl) (y18 : Int) (y19 : Int) (h : GH) (K2 : Option Addr → Option Addr → Int → GH → Option β) : F_follow_PutSets_l1 F_follow_first F_bitio_Writer_Put R (n + 1) y14 y15 y16 y17 y18 y19 h K2 =
    (bif decide (y19 < y18) then exA y17.a fun g23 o24 => within y19 y17.n (exI .u8 (h.cell ⟨g23, o24 + y19.toNat * 1, none⟩) fun x25 => F_bitio_Writer_Put y14 (IntKind.wrap .u32 x25) 8 h fun h26 => F_follow_PutSets_l1 F_follow_first F_bitio_Writer_Put R n y14 y15 y16 y17 y18 (IntKind.wrap .i64 (y19 + 1)) h26 K2) else K2 y14 y15 y16 h) := by kernel_rfl
set_option maxRecDepth 100000 in
theorem F_follow_PutSets_l0_succ (F_follow_first : Sl → GH → (Sl → GH → Option β) → Option β) (F_bitio_Writer_Put : Option Addr → Int → Int → GH → (GH → Option β) → Option β) (R : Nat) (n : Nat) (y5 : Option Addr) (y6 : Option Addr) (y7 : Int) (h : GH) (K0 : GH → Option β) : F_follow_PutSets_l0 F_follow_first F_bitio_Writer_Put R (n + 1) y5 y6 y7 h K0 =
    (bif decide (y7 ≥ 0) then exA y6 fun g8 o9 => within y7 256 (exS (h.cell ⟨g8, o9 + y7.toNat * 1, none⟩) fun x10 => F_follow_first x10 h fun r11 h12 => F_bitio_Writer_Put y5 (IntKind.wrap .u32 ((r11.n : Nat) : Int)) 6 h12 fun h13 => F_follow_PutSets_l1 F_follow_first F_bitio_Writer_Put R R y5 y6 y7 r11 ((r11.n : Nat) : Int) 0 h13 (fun w27 w28 w29 h30 => F_follow_PutSets_l0 F_follow_first F_bitio_Writer_Put R n w27 w28 (IntKind.wrap .i64 (w29 - 1)) h30 K0)) else K0 h) := by kernel_rfl
noncomputable def G_follow_PutSets (F_follow_first : Sl → GH → (Sl → GH → Option β) → Option β) (F_bitio_Writer_Put : Option Addr → Int → Int → GH → (GH → Option β) → Option β) (R : Nat) (a1 : Option Addr) (a2 : List Value) (h : GH) (K : GH → Option β) : Option β := gfun Try.prog (CF_follow_PutSets F_follow_first F_bitio_Writer_Put) HF_follow_PutSets R Try.f20 [Value.pointer a1, Value.agg (a2).toArray] h (fun _ h' => K h')
set_option maxRecDepth 100000 in
theorem F_follow_PutSets_gen (F_follow_first : Sl → GH → (Sl → GH → Option β) → Option β) (F_bitio_Writer_Put : Option Addr → Int → Int → GH → (GH → Option β) → Option β) (R : Nat) (a1 : Option Addr) (a2 : List Value) (h : GH) (K : GH → Option β) : G_follow_PutSets F_follow_first F_bitio_Writer_Put R a1 a2 h K =
    gnew a2 0 h fun g3 h4 => F_follow_PutSets_l0 F_follow_first F_bitio_Writer_Put R R a1 (some ⟨g3, 0, none⟩) 255 h4 (fun h31 => K h31) := by kernel_rfl
noncomputable def F_follow_PutSets (R : Nat) (a1 : Option Addr) (a2 : List Value) (h : GH) (K : GH → Option β) : Option β := G_follow_PutSets (F_follow_first R) (F_bitio_Writer_Put R) R a1 a2 h K
set_option maxRecDepth 100000 in
theorem CF_follow_PutSets_sim {R : Nat} : SimOrc Try.prog (CF_follow_PutSets (F_follow_first R) (F_bitio_Writer_Put R) (β := β)) := by
  intro f args h K r hc
  unfold CF_follow_PutSets at hc
  cases hb : Nat.beq f 47 with
  | true =>
    rw [hb] at hc
    simp only [cond_true] at hc
    obtain rfl := Nat.eq_of_beq_eq_true hb
    split at hc
    · exact any_call (F_follow_first_sim (K := K) hc)
    · cases hc
  | false =>
  rw [hb] at hc
  simp only [cond_false] at hc
  cases hb : Nat.beq f 48 with
  | true =>
    rw [hb] at hc
    simp only [cond_true] at hc
    obtain rfl := Nat.eq_of_beq_eq_true hb
    split at hc
    · exact any_call (F_bitio_Writer_Put_sim (K := K) hc)
    · cases hc
  | false =>
  rw [hb] at hc
  simp only [cond_false] at hc
  cases hc
set_option maxRecDepth 100000 in
theorem F_follow_PutSets_sim {R : Nat} {r : β} {a1 : Option Addr} {a2 : List Value} {h : GH} {K : Value → GH → Option β} (hc : F_follow_PutSets R a1 a2 h (fun h' => K (Value.tuple #[]) h') = some r) : ∃ v h', K v h' = some r ∧ CallSim Try.prog 20 [Value.pointer a1, Value.agg (a2).toArray] h v h' := by
  unfold F_follow_PutSets G_follow_PutSets at hc
  obtain ⟨v, h', hk, hs⟩ := gfun_sim (CF_follow_PutSets_sim (R := R)) mixed_ok (fun f h => by cases h) Try.func20 (by kernel_rfl) hc
  exact ⟨_, h', hk, hs.unit⟩
/-! F49 bytes.IndexByte -/
def CF_bytes_IndexByte (F_internal_bytealg_IndexByte : Sl → Int → GH → (Int → GH → Option β) → Option β) : Orc β := fun f args h K => bif Nat.beq f 76 then (match args with | [.slice p1a p1n p1c, .int .u8 p2] => F_internal_bytealg_IndexByte ⟨p1a, p1n, p1c⟩ p2 h (fun q1 h' => K (Value.int .i64 q1) h') | _ => none) else none
def HF_bytes_IndexByte : Hints := ⟨[], [], []⟩
noncomputable def G_bytes_IndexByte (F_internal_bytealg_IndexByte : Sl → Int → GH → (Int → GH → Option β) → Option β) (R : Nat) (a1 : Sl) (a2 : Int) (h : GH) (K : Int → GH → Option β) : Option β := gfun Try.prog (CF_bytes_IndexByte F_internal_bytealg_IndexByte) HF_bytes_IndexByte R Try.f49 [Value.slice a1.a a1.n a1.c, Value.int .u8 a2] h (fun v h' => exI .i64 (some v) fun u6 => K u6 h')
set_option maxRecDepth 100000 in
theorem F_bytes_IndexByte_gen (F_internal_bytealg_IndexByte : Sl → Int → GH → (Int → GH → Option β) → Option β) (R : Nat) (a1 : Sl) (a2 : Int) (h : GH) (K : Int → GH → Option β) : G_bytes_IndexByte F_internal_bytealg_IndexByte R a1 a2 h K =
    F_internal_bytealg_IndexByte a1 a2 h fun r3 h4 => K r3 h4 := by kernel_rfl
noncomputable def F_bytes_IndexByte (R : Nat) (a1 : Sl) (a2 : Int) (h : GH) (K : Int → GH → Option β) : Option β := G_bytes_IndexByte F_internal_bytealg_IndexByte R a1 a2 h K
set_option maxRecDepth 100000 in
theorem CF_bytes_IndexByte_sim {R : Nat} : SimOrc Try.prog (CF_bytes_IndexByte F_internal_bytealg_IndexByte (β := β)) := by
  intro f args h K r hc
  unfold CF_bytes_IndexByte at hc
  cases hb : Nat.beq f 76 with
  | true =>
    rw [hb] at hc
    simp only [cond_true] at hc
    obtain rfl := Nat.eq_of_beq_eq_true hb
    split at hc
    · exact any_ext (F_internal_bytealg_IndexByte_sim (K := K) hc)
    · cases hc
  | false =>
  rw [hb] at hc
  simp only [cond_false] at hc
  cases hc
set_option maxRecDepth 100000 in
theorem F_bytes_IndexByte_sim {R : Nat} {r : β} {a1 : Sl} {a2 : Int} {h : GH} {K : Value → GH → Option β} (hc : F_bytes_IndexByte R a1 a2 h (fun q0 h' => K (Value.int .i64 q0) h') = some r) : ∃ v h', K v h' = some r ∧ CallSim Try.prog 49 [Value.slice a1.a a1.n a1.c, Value.int .u8 a2] h v h' := by
  unfold F_bytes_IndexByte G_bytes_IndexByte at hc
  obtain ⟨v, h', hk, hs⟩ := gfun_sim (CF_bytes_IndexByte_sim (R := R)) mixed_ok (fun f h => by cases h) Try.func49 (by kernel_rfl) hc
  obtain ⟨u0, e0, hk⟩ := exI_v hk; cases e0
  exact ⟨_, h', hk, hs⟩
/-! F21 duffel/follow.Put -/
def CF_follow_Put (F_follow_first : Sl → GH → (Sl → GH → Option β) → Option β) (F_bitio_Writer_Put : Option Addr → Int → Int → GH → (GH → Option β) → Option β) (F_bytes_IndexByte : Sl → Int → GH → (Int → GH → Option β) → Option β) (F_follow_Width : Int → GH → (Int → GH → Option β) → Option β) : Orc β := fun f args h K => bif Nat.beq f 47 then (match args with | [.slice p1a p1n p1c] => F_follow_first ⟨p1a, p1n, p1c⟩ h (fun q3 h' => K (Value.slice q3.a q3.n q3.c) h') | _ => none) else (bif Nat.beq f 48 then (match args with | [.pointer p1, .int .u32 p2, .int .i64 p3] => F_bitio_Writer_Put p1 p2 p3 h (fun h' => K (Value.tuple #[]) h') | _ => none) else (bif Nat.beq f 49 then (match args with | [.slice p1a p1n p1c, .int .u8 p2] => F_bytes_IndexByte ⟨p1a, p1n, p1c⟩ p2 h (fun q5 h' => K (Value.int .i64 q5) h') | _ => none) else (bif Nat.beq f 50 then (match args with | [.int .i64 p1] => F_follow_Width p1 h (fun q4 h' => K (Value.int .i64 q4) h') | _ => none) else none)))
def HF_follow_Put : Hints := ⟨[], [], []⟩
noncomputable def G_follow_Put (F_follow_first : Sl → GH → (Sl → GH → Option β) → Option β) (F_bitio_Writer_Put : Option Addr → Int → Int → GH → (GH → Option β) → Option β) (F_bytes_IndexByte : Sl → Int → GH → (Int → GH → Option β) → Option β) (F_follow_Width : Int → GH → (Int → GH → Option β) → Option β) (R : Nat) (a1 : Option Addr) (a2 : List Value) (a3 : Int) (a4 : Int) (h : GH) (K : GH → Option β) : Option β := gfun Try.prog (CF_follow_Put F_follow_first F_bitio_Writer_Put F_bytes_IndexByte F_follow_Width) HF_follow_Put R Try.f21 [Value.pointer a1, Value.agg (a2).toArray, Value.int .u8 a3, Value.int .u8 a4] h (fun _ h' => K h')
set_option maxRecDepth 100000 in
theorem F_follow_Put_gen (F_follow_first : Sl → GH → (Sl → GH → Option β) → Option β) (F_bitio_Writer_Put : Option Addr → Int → Int → GH → (GH → Option β) → Option β) (F_bytes_IndexByte : Sl → Int → GH → (Int → GH → Option β) → Option β) (F_follow_Width : Int → GH → (Int → GH → Option β) → Option β) (R : Nat) (a1 : Option Addr) (a2 : List Value) (a3 : Int) (a4 : Int) (h : GH) (K : GH → Option β) : G_follow_Put F_follow_first F_bitio_Writer_Put F_bytes_IndexByte F_follow_Width R a1 a2 a3 a4 h K =
    gnew a2 0 h fun g5 h6 => within a3 256 (exS (h6.cell ⟨g5, 0 + a3.toNat * 1, none⟩) fun x7 => F_follow_first x7 h6 fun r8 h9 => (bif ((r8.n : Nat) : Int) == 0 then F_bitio_Writer_Put a1 (IntKind.wrap .u32 a4) 8 h9 fun h10 => K h10 else F_bytes_IndexByte r8 a4 h9 fun r11 h12 => (bif decide (r11 ≥ 0) then F_bitio_Writer_Put a1 0 1 h12 fun h13 => F_follow_Width ((r8.n : Nat) : Int) h13 fun r14 h15 => F_bitio_Writer_Put a1 (IntKind.wrap .u32 r11) r14 h15 fun h16 => K h16 else F_bitio_Writer_Put a1 1 1 h12 fun h17 => F_bitio_Writer_Put a1 (IntKind.wrap .u32 a4) 8 h17 fun h18 => K h18))) := by kernel_rfl
noncomputable def F_follow_Put (R : Nat) (a1 : Option Addr) (a2 : List Value) (a3 : Int) (a4 : Int) (h : GH) (K : GH → Option β) : Option β := G_follow_Put (F_follow_first R) (F_bitio_Writer_Put R) (F_bytes_IndexByte R) (F_follow_Width R) R a1 a2 a3 a4 h K
set_option maxRecDepth 100000 in
theorem CF_follow_Put_sim {R : Nat} : SimOrc Try.prog (CF_follow_Put (F_follow_first R) (F_bitio_Writer_Put R) (F_bytes_IndexByte R) (F_follow_Width R) (β := β)) := by
  intro f args h K r hc
  unfold CF_follow_Put at hc
  cases hb : Nat.beq f 47 with
  | true =>
    rw [hb] at hc
    simp only [cond_true] at hc
    obtain rfl := Nat.eq_of_beq_eq_true hb
    split at hc
    · exact any_call (F_follow_first_sim (K := K) hc)
    · cases hc
  | false =>
  rw [hb] at hc
  simp only [cond_false] at hc
  cases hb : Nat.beq f 48 with
  | true =>
    rw [hb] at hc
    simp only [cond_true] at hc
    obtain rfl := Nat.eq_of_beq_eq_true hb
    split at hc
    · exact any_call (F_bitio_Writer_Put_sim (K := K) hc)
    · cases hc
  | false =>
  rw [hb] at hc
  simp only [cond_false] at hc
  cases hb : Nat.beq f 49 with
  | true =>
    rw [hb] at hc
    simp only [cond_true] at hc
    obtain rfl := Nat.eq_of_beq_eq_true hb
    split at hc
    · exact any_call (F_bytes_IndexByte_sim (K := K) hc)
    · cases hc
  | false =>
  rw [hb] at hc
  simp only [cond_false] at hc
  cases hb : Nat.beq f 50 with
  | true =>
    rw [hb] at hc
    simp only [cond_true] at hc
    obtain rfl := Nat.eq_of_beq_eq_true hb
    split at hc
    · exact any_call (F_follow_Width_sim (K := K) hc)
    · cases hc
  | false =>
  rw [hb] at hc
  simp only [cond_false] at hc
  cases hc
set_option maxRecDepth 100000 in
theorem F_follow_Put_sim {R : Nat} {r : β} {a1 : Option Addr} {a2 : List Value} {a3 : Int} {a4 : Int} {h : GH} {K : Value → GH → Option β} (hc : F_follow_Put R a1 a2 a3 a4 h (fun h' => K (Value.tuple #[]) h') = some r) : ∃ v h', K v h' = some r ∧ CallSim Try.prog 21 [Value.pointer a1, Value.agg (a2).toArray, Value.int .u8 a3, Value.int .u8 a4] h v h' := by
  unfold F_follow_Put G_follow_Put at hc
  obtain ⟨v, h', hk, hs⟩ := gfun_sim (CF_follow_Put_sim (R := R)) mixed_ok (fun f h => by cases h) Try.func21 (by kernel_rfl) hc
  exact ⟨_, h', hk, hs.unit⟩
/-! F51 bytes.Clone -/
def CF_bytes_Clone  : Orc β := fun f args h K => none
def HF_bytes_Clone : Hints := ⟨[], [], []⟩
noncomputable def G_bytes_Clone  (R : Nat) (a1 : Sl) (h : GH) (K : Sl → GH → Option β) : Option β := gfun Try.prog (CF_bytes_Clone ) HF_bytes_Clone R Try.f51 [Value.slice a1.a a1.n a1.c] h (fun v h' => exS (some v) fun u7 => K u7 h')
set_option maxRecDepth 100000 in
theorem F_bytes_Clone_gen  (R : Nat) (a1 : Sl) (h : GH) (K : Sl → GH → Option β) : G_bytes_Clone  R a1 h K =
    (bif Option.isNone a1.a then K ⟨none, 0, 0⟩ h else gnew [] 1 h fun g2 h3 => gappS 1 1 ⟨(some ⟨g2, 0, none⟩), 0, 0⟩ a1 h3 fun s4 h5 => K s4 h5) := by kernel_rfl
noncomputable def F_bytes_Clone (R : Nat) (a1 : Sl) (h : GH) (K : Sl → GH → Option β) : Option β := G_bytes_Clone  R a1 h K
theorem CF_bytes_Clone_sim : SimOrc Try.prog (CF_bytes_Clone (β := β)) := by
  intro f args h K r hc
  cases hc
set_option maxRecDepth 100000 in
theorem F_bytes_Clone_sim {R : Nat} {r : β} {a1 : Sl} {h : GH} {K : Value → GH → Option β} (hc : F_bytes_Clone R a1 h (fun q0 h' => K (Value.slice q0.a q0.n q0.c) h') = some r) : ∃ v h', K v h' = some r ∧ CallSim Try.prog 51 [Value.slice a1.a a1.n a1.c] h v h' := by
  unfold F_bytes_Clone G_bytes_Clone at hc
  obtain ⟨v, h', hk, hs⟩ := gfun_sim CF_bytes_Clone_sim mixed_ok (fun f h => by cases h) Try.func51 (by kernel_rfl) hc
  obtain ⟨u0, e0, hk⟩ := exS_v hk; cases e0
  exact ⟨_, h', hk, hs⟩
/-! F22 (*duffel/bitio.Writer).Bytes -/
def CF_bitio_Writer_Bytes (F_bytes_Clone : Sl → GH → (Sl → GH → Option β) → Option β) : Orc β := fun f args h K => bif Nat.beq f 51 then (match args with | [.slice p1a p1n p1c] => F_bytes_Clone ⟨p1a, p1n, p1c⟩ h (fun q6 h' => K (Value.slice q6.a q6.n q6.c) h') | _ => none) else none
def HF_bitio_Writer_Bytes : Hints := ⟨[], [], []⟩
noncomputable def G_bitio_Writer_Bytes (F_bytes_Clone : Sl → GH → (Sl → GH → Option β) → Option β) (R : Nat) (a1 : Option Addr) (h : GH) (K : Sl → GH → Option β) : Option β := gfun Try.prog (CF_bitio_Writer_Bytes F_bytes_Clone) HF_bitio_Writer_Bytes R Try.f22 [Value.pointer a1] h (fun v h' => exS (some v) fun u18 => K u18 h')
set_option maxRecDepth 100000 in
theorem F_bitio_Writer_Bytes_gen (F_bytes_Clone : Sl → GH → (Sl → GH → Option β) → Option β) (R : Nat) (a1 : Option Addr) (h : GH) (K : Sl → GH → Option β) : G_bitio_Writer_Bytes F_bytes_Clone R a1 h K =
    (bif a1.isNone then K ⟨none, 0, 0⟩ h else exA a1 fun g2 o3 => exS (h.cell ⟨g2, o3 + 0, none⟩) fun x4 => F_bytes_Clone x4 h fun r5 h6 => exA a1 fun g7 o8 => exI .i64 (h6.cell ⟨g7, o8 + 2, none⟩) fun x9 => (bif decide (x9 > 0) then exA a1 fun g10 o11 => exI .u64 (h6.cell ⟨g10, o11 + 1, none⟩) fun x12 => gnew [Value.int .u8 (IntKind.wrap .u8 x12)] 1 h6 fun g13 h14 => gappS 1 1 r5 ⟨(some ⟨g13, 0, none⟩), 1, 1⟩ h14 fun s15 h16 => K s15 h16 else K r5 h6)) := by kernel_rfl
noncomputable def F_bitio_Writer_Bytes (R : Nat) (a1 : Option Addr) (h : GH) (K : Sl → GH → Option β) : Option β := G_bitio_Writer_Bytes (F_bytes_Clone R) R a1 h K
set_option maxRecDepth 100000 in
theorem CF_bitio_Writer_Bytes_sim {R : Nat} : SimOrc Try.prog (CF_bitio_Writer_Bytes (F_bytes_Clone R) (β := β)) := by
  intro f args h K r hc
  unfold CF_bitio_Writer_Bytes at hc
  cases hb : Nat.beq f 51 with
  | true =>
    rw [hb] at hc
    simp only [cond_true] at hc
    obtain rfl := Nat.eq_of_beq_eq_true hb
    split at hc
    · exact any_call (F_bytes_Clone_sim (K := K) hc)
    · cases hc
  | false =>
  rw [hb] at hc
  simp only [cond_false] at hc
  cases hc
set_option maxRecDepth 100000 in
theorem F_bitio_Writer_Bytes_sim {R : Nat} {r : β} {a1 : Option Addr} {h : GH} {K : Value → GH → Option β} (hc : F_bitio_Writer_Bytes R a1 h (fun q0 h' => K (Value.slice q0.a q0.n q0.c) h') = some r) : ∃ v h', K v h' = some r ∧ CallSim Try.prog 22 [Value.pointer a1] h v h' := by
  unfold F_bitio_Writer_Bytes G_bitio_Writer_Bytes at hc
  obtain ⟨v, h', hk, hs⟩ := gfun_sim (CF_bitio_Writer_Bytes_sim (R := R)) mixed_ok (fun f h => by cases h) Try.func22 (by kernel_rfl) hc
  obtain ⟨u0, e0, hk⟩ := exS_v hk; cases e0
  exact ⟨_, h', hk, hs⟩
/-! F10 duffel/reduce.Encode -/
def CF_reduce_Encode (F_dle_Encode : Sl → Int → GH → (Sl → Int → GH → Option β) → Option β) (F_follow_Best : Sl → GH → (List Value → GH → Option β) → Option β) (F_bitio_New : GH → (Option Addr → GH → Option β) → Option β) (F_follow_PutSets : Option Addr → List Value → GH → (GH → Option β) → Option β) (F_follow_Put : Option Addr → List Value → Int → Int → GH → (GH → Option β) → Option β) (F_bitio_Writer_Bytes : Option Addr → GH → (Sl → GH → Option β) → Option β) : Orc β := fun f args h K => bif Nat.beq f 17 then (match args with | [.slice p1a p1n p1c, .int .i64 p2] => F_dle_Encode ⟨p1a, p1n, p1c⟩ p2 h (fun q50 q51 h' => K (Value.tuple #[Value.slice q50.a q50.n q50.c, Value.int .i64 q51]) h') | _ => none) else (bif Nat.beq f 18 then (match args with | [.slice p1a p1n p1c] => F_follow_Best ⟨p1a, p1n, p1c⟩ h (fun q53 h' => K (Value.agg (q53).toArray) h') | _ => none) else (bif Nat.beq f 19 then (match args with | [] => F_bitio_New  h (fun q3 h' => K (Value.pointer q3) h') | _ => none) else (bif Nat.beq f 20 then (match args with | [.pointer p1, .agg ⟨p2⟩] => F_follow_PutSets p1 p2 h (fun h' => K (Value.tuple #[]) h') | _ => none) else (bif Nat.beq f 21 then (match args with | [.pointer p1, .agg ⟨p2⟩, .int .u8 p3, .int .u8 p4] => F_follow_Put p1 p2 p3 p4 h (fun h' => K (Value.tuple #[]) h') | _ => none) else (bif Nat.beq f 22 then (match args with | [.pointer p1] => F_bitio_Writer_Bytes p1 h (fun q17 h' => K (Value.slice q17.a q17.n q17.c) h') | _ => none) else none)))))
def HF_reduce_Encode : Hints := ⟨[(9, [8, 9, 10, 33, 34, 35], [(0, [(9, .ty 42)])], none)], [], []⟩
noncomputable def BF_reduce_Encode : Code := match Try.f10.body with | some c => c | none => .skip
noncomputable def F_reduce_Encode_l0 (F_dle_Encode : Sl → Int → GH → (Sl → Int → GH → Option β) → Option β) (F_follow_Best : Sl → GH → (List Value → GH → Option β) → Option β) (F_bitio_New : GH → (Option Addr → GH → Option β) → Option β) (F_follow_PutSets : Option Addr → List Value → GH → (GH → Option β) → Option β) (F_follow_Put : Option Addr → List Value → Int → Int → GH → (GH → Option β) → Option β) (F_bitio_Writer_Bytes : Option Addr → GH → (Sl → GH → Option β) → Option β) (R : Nat) (n : Nat) (y15 : Option Addr) (y16 : Option Addr) (y17 : Int) (y18 : Sl) (y19 : Int) (y20 : Int) (h : GH) (K0 : Option Addr → GH → Option β) : Option β := gloop (gcode Try.prog (CF_reduce_Encode F_dle_Encode F_follow_Best F_bitio_New F_follow_PutSets F_follow_Put F_bitio_Writer_Bytes) Try.f10.ntmps HF_reduce_Encode R (at_ [true, true, true, true, true, true, true, false, true, false, false] BF_reduce_Encode)) [8, 9, 10, 33, 34, 35] n [(8, Value.pointer y15), (9, Value.pointer y16), (10, Value.int .u8 y17), (33, Value.slice y18.a y18.n y18.c), (34, Value.int .i64 y19), (35, Value.int .i64 y20)] h (fun i e' h' => bif Nat.beq i 0 then (exP (some (e'.get 9)) fun u35 => K0 u35 h') else none) (fun e' h' => none)
set_option maxRecDepth 100000 in
theorem F_reduce_Encode_l0_succ (F_dle_Encode : Sl → Int → GH → (Sl → Int → GH → Option β) → Option β) (F_follow_Best : Sl → GH → (List Value → GH → Option β) → Option β) (F_bitio_New : GH → (Option Addr → GH → Option β) → Option β) (F_follow_PutSets : Option Addr → List Value → GH → (GH → Option β) → Option β) (F_follow_Put : Option Addr → List Value → Int → Int → GH → (GH → Option β) → Option β) (F_bitio_Writer_Bytes : Option Addr → GH → (Sl → GH → Option β) → Option β) (R : Nat) (n : Nat) (y15 : Option Addr) (y16 : Option Addr) (y17 : Int) (y18 : Sl) (y19 : Int) (y20 : Int) (h : GH) (K0 : Option Addr → GH → Option β) : F_reduce_Encode_l0 F_dle_Encode F_follow_Best F_bitio_New F_follow_PutSets F_follow_Put F_bitio_Writer_Bytes R (n + 1) y15 y16 y17 y18 y19 y20 h K0 =
    (bif decide (y20 < y19) then exA y18.a fun g22 o23 => within y20 y18.n (exI .u8 (h.cell ⟨g22, o23 + y20.toNat * 1, none⟩) fun x24 => exA y15 fun g25 o26 => exL (nsub (rowCells (h.look g25)) (o26) 256) fun x27 => F_follow_Put y16 x27 y17 x24 h fun h28 => F_reduce_Encode_l0 F_dle_Encode F_follow_Best F_bitio_New F_follow_PutSets F_follow_Put F_bitio_Writer_Bytes R n y15 y16 x24 y18 y19 (IntKind.wrap .i64 (y20 + 1)) h28 K0) else K0 y16 h) := by kernel_rfl
noncomputable def G_reduce_Encode (F_dle_Encode : Sl → Int → GH → (Sl → Int → GH → Option β) → Option β) (F_follow_Best : Sl → GH → (List Value → GH → Option β) → Option β) (F_bitio_New : GH → (Option Addr → GH → Option β) → Option β) (F_follow_PutSets : Option Addr → List Value → GH → (GH → Option β) → Option β) (F_follow_Put : Option Addr → List Value → Int → Int → GH → (GH → Option β) → Option β) (F_bitio_Writer_Bytes : Option Addr → GH → (Sl → GH → Option β) → Option β) (R : Nat) (a1 : Sl) (a2 : Int) (h : GH) (K : Sl → Int → GH → Option β) : Option β := gfun Try.prog (CF_reduce_Encode F_dle_Encode F_follow_Best F_bitio_New F_follow_PutSets F_follow_Put F_bitio_Writer_Bytes) HF_reduce_Encode R Try.f10 [Value.slice a1.a a1.n a1.c, Value.int .i64 a2] h (fun v h' => exTup 2 v fun vs => exV (nth vs 0) fun v0 => exS (some v0) fun u36 => exV (nth vs 1) fun v1 => exI .i64 (some v1) fun u37 => K u36 u37 h')
set_option maxRecDepth 100000 in
theorem F_reduce_Encode_gen (F_dle_Encode : Sl → Int → GH → (Sl → Int → GH → Option β) → Option β) (F_follow_Best : Sl → GH → (List Value → GH → Option β) → Option β) (F_bitio_New : GH → (Option Addr → GH → Option β) → Option β) (F_follow_PutSets : Option Addr → List Value → GH → (GH → Option β) → Option β) (F_follow_Put : Option Addr → List Value → Int → Int → GH → (GH → Option β) → Option β) (F_bitio_Writer_Bytes : Option Addr → GH → (Sl → GH → Option β) → Option β) (R : Nat) (a1 : Sl) (a2 : Int) (h : GH) (K : Sl → Int → GH → Option β) : G_reduce_Encode F_dle_Encode F_follow_Best F_bitio_New F_follow_PutSets F_follow_Put F_bitio_Writer_Bytes R a1 a2 h K =
    F_dle_Encode a1 a2 h fun r3 r4 h5 => (bif r4 != 0 then K ⟨none, 0, 0⟩ r4 h5 else (bif ((r3.n : Nat) : Int) == 0 then K ⟨none, 0, 0⟩ r4 h5 else F_follow_Best r3 h5 fun r6 h7 => gnew Z40 0 h7 fun g8 h9 => (bif Nat.beq (r6).length 256 then gput g8 (0) r6 h9 fun h10 => F_bitio_New h10 fun r11 h12 => exL (nsub (rowCells (h12.look g8)) (0) 256) fun x13 => F_follow_PutSets r11 x13 h12 fun h14 => F_reduce_Encode_l0 F_dle_Encode F_follow_Best F_bitio_New F_follow_PutSets F_follow_Put F_bitio_Writer_Bytes R R (some ⟨g8, 0, none⟩) r11 0 r3 ((r3.n : Nat) : Int) 0 h14 (fun w29 h30 => F_bitio_Writer_Bytes w29 h30 fun r31 h32 => K r31 0 h32) else none))) := by kernel_rfl
noncomputable def F_reduce_Encode (R : Nat) (a1 : Sl) (a2 : Int) (h : GH) (K : Sl → Int → GH → Option β) : Option β := G_reduce_Encode (F_dle_Encode R) (F_follow_Best R) (F_bitio_New R) (F_follow_PutSets R) (F_follow_Put R) (F_bitio_Writer_Bytes R) R a1 a2 h K
set_option maxRecDepth 100000 in
theorem CF_reduce_Encode_sim {R : Nat} : SimOrc Try.prog (CF_reduce_Encode (F_dle_Encode R) (F_follow_Best R) (F_bitio_New R) (F_follow_PutSets R) (F_follow_Put R) (F_bitio_Writer_Bytes R) (β := β)) := by
  intro f args h K r hc
  unfold CF_reduce_Encode at hc
  cases hb : Nat.beq f 17 with
  | true =>
    rw [hb] at hc
    simp only [cond_true] at hc
    obtain rfl := Nat.eq_of_beq_eq_true hb
    split at hc
    · exact any_call (F_dle_Encode_sim (K := K) hc)
    · cases hc
  | false =>
  rw [hb] at hc
  simp only [cond_false] at hc
  cases hb : Nat.beq f 18 with
  | true =>
    rw [hb] at hc
    simp only [cond_true] at hc
    obtain rfl := Nat.eq_of_beq_eq_true hb
    split at hc
    · exact any_call (F_follow_Best_sim (K := K) hc)
    · cases hc
  | false =>
  rw [hb] at hc
  simp only [cond_false] at hc
  cases hb : Nat.beq f 19 with
  | true =>
    rw [hb] at hc
    simp only [cond_true] at hc
    obtain rfl := Nat.eq_of_beq_eq_true hb
    split at hc
    · exact any_call (F_bitio_New_sim (K := K) hc)
    · cases hc
  | false =>
  rw [hb] at hc
  simp only [cond_false] at hc
  cases hb : Nat.beq f 20 with
  | true =>
    rw [hb] at hc
    simp only [cond_true] at hc
    obtain rfl := Nat.eq_of_beq_eq_true hb
    split at hc
    · exact any_call (F_follow_PutSets_sim (K := K) hc)
    · cases hc
  | false =>
  rw [hb] at hc
  simp only [cond_false] at hc
  cases hb : Nat.beq f 21 with
  | true =>
    rw [hb] at hc
    simp only [cond_true] at hc
    obtain rfl := Nat.eq_of_beq_eq_true hb
    split at hc
    · exact any_call (F_follow_Put_sim (K := K) hc)
    · cases hc
  | false =>
  rw [hb] at hc
  simp only [cond_false] at hc
  cases hb : Nat.beq f 22 with
  | true =>
    rw [hb] at hc
    simp only [cond_true] at hc
    obtain rfl := Nat.eq_of_beq_eq_true hb
    split at hc
    · exact any_call (F_bitio_Writer_Bytes_sim (K := K) hc)
    · cases hc
  | false =>
  rw [hb] at hc
  simp only [cond_false] at hc
  cases hc
set_option maxRecDepth 100000 in
theorem F_reduce_Encode_sim {R : Nat} {r : β} {a1 : Sl} {a2 : Int} {h : GH} {K : Value → GH → Option β} (hc : F_reduce_Encode R a1 a2 h (fun q0 q1 h' => K (Value.tuple #[Value.slice q0.a q0.n q0.c, Value.int .i64 q1]) h') = some r) : ∃ v h', K v h' = some r ∧ CallSim Try.prog 10 [Value.slice a1.a a1.n a1.c, Value.int .i64 a2] h v h' := by
  unfold F_reduce_Encode G_reduce_Encode at hc
  obtain ⟨v, h', hk, hs⟩ := gfun_sim (CF_reduce_Encode_sim (R := R)) mixed_ok (fun f h => by cases h) Try.func10 (by kernel_rfl) hc
  obtain ⟨vs, rfl, hl, hk⟩ := exTup_v hk
  obtain ⟨v0, t0, hk⟩ := exV_v hk
  obtain ⟨u0, e0, hk⟩ := exS_v hk; cases e0
  obtain ⟨v1, t1, hk⟩ := exV_v hk
  obtain ⟨u1, e1, hk⟩ := exI_v hk; cases e1
  obtain rfl := arr2 hl t0 t1
  exact ⟨_, h', hk, hs⟩
/-! F52 duffel/duffelref13.two -/
def CF_ref13_two  : Orc β := fun f args h K => none
def HF_ref13_two : Hints := ⟨[(3, [0, 3, 4], [(0, [(3, .ty 3)])], none)], [], []⟩
noncomputable def BF_ref13_two : Code := match Try.f52.body with | some c => c | none => .skip
noncomputable def F_ref13_two_l0  (R : Nat) (n : Nat) (y2 : Int) (y3 : Int) (y4 : Int) (h : GH) (K0 : Int → GH → Option β) : Option β := gloop (gcode Try.prog (CF_ref13_two ) Try.f52.ntmps HF_ref13_two R (at_ [true, true, false, true, false, false] BF_ref13_two)) [0, 3, 4] n [(0, Value.int .i64 y2), (3, Value.int .i64 y3), (4, Value.int .i64 y4)] h (fun i e' h' => bif Nat.beq i 0 then (exI .i64 (some (e'.get 3)) fun u9 => K0 u9 h') else none) (fun e' h' => none)
set_option maxRecDepth 100000 in
theorem F_ref13_two_l0_succ  (R : Nat) (n : Nat) (y2 : Int) (y3 : Int) (y4 : Int) (h : GH) (K0 : Int → GH → Option β) : F_ref13_two_l0  R (n + 1) y2 y3 y4 h K0 =
    (bif decide (y4 < y2) then F_ref13_two_l0 R n y2 (IntKind.wrap .i64 (y3 * 2)) (IntKind.wrap .i64 (y4 + 1)) h K0 else K0 y3 h) := by kernel_rfl
noncomputable def G_ref13_two  (R : Nat) (a1 : Int) (h : GH) (K : Int → GH → Option β) : Option β := gfun Try.prog (CF_ref13_two ) HF_ref13_two R Try.f52 [Value.int .i64 a1] h (fun v h' => exI .i64 (some v) fun u10 => K u10 h')
set_option maxRecDepth 100000 in
theorem F_ref13_two_gen  (R : Nat) (a1 : Int) (h : GH) (K : Int → GH → Option β) : G_ref13_two  R a1 h K =
    F_ref13_two_l0 R R a1 1 0 h (fun w6 h7 => K w6 h7) := by kernel_rfl
noncomputable def F_ref13_two (R : Nat) (a1 : Int) (h : GH) (K : Int → GH → Option β) : Option β := G_ref13_two  R a1 h K
theorem CF_ref13_two_sim : SimOrc Try.prog (CF_ref13_two (β := β)) := by
  intro f args h K r hc
  cases hc
set_option maxRecDepth 100000 in
theorem F_ref13_two_sim {R : Nat} {r : β} {a1 : Int} {h : GH} {K : Value → GH → Option β} (hc : F_ref13_two R a1 h (fun q0 h' => K (Value.int .i64 q0) h') = some r) : ∃ v h', K v h' = some r ∧ CallSim Try.prog 52 [Value.int .i64 a1] h v h' := by
  unfold F_ref13_two G_ref13_two at hc
  obtain ⟨v, h', hk, hs⟩ := gfun_sim CF_ref13_two_sim mixed_ok (fun f h => by cases h) Try.func52 (by kernel_rfl) hc
  obtain ⟨u0, e0, hk⟩ := exI_v hk; cases e0
  exact ⟨_, h', hk, hs⟩
/-! F78 duffel/duffelref09.Check -/
def CF_ref09_Check  : Orc β := fun f args h K => none
def HF_ref09_Check : Hints := ⟨[], [], []⟩
noncomputable def G_ref09_Check  (R : Nat) (a1 : Int) (a2 : Int) (a3 : Int) (a4 : Int) (a5 : Bool) (h : GH) (K : Bool → GH → Option β) : Option β := gfun Try.prog (CF_ref09_Check ) HF_ref09_Check R Try.f78 [Value.agg #[Value.int .i64 a1, Value.int .i64 a2, Value.int .i64 a3, Value.int .i64 a4, Value.bool a5]] h (fun v h' => exB (some v) fun u18 => K u18 h')
set_option maxRecDepth 100000 in
theorem F_ref09_Check_gen  (R : Nat) (a1 : Int) (a2 : Int) (a3 : Int) (a4 : Int) (a5 : Bool) (h : GH) (K : Bool → GH → Option β) : G_ref09_Check  R a1 a2 a3 a4 a5 h K =
    gnew [Value.int .i64 a1, Value.int .i64 a2, Value.int .i64 a3, Value.int .i64 a4, Value.bool a5] 0 h fun g6 h7 => exI .i64 (h7.cell ⟨g6, 0 + 0, none⟩) fun x8 => (bif decide ((1 : Int) ≤ x8) then exI .i64 (h7.cell ⟨g6, 0 + 0, none⟩) fun x9 => (bif decide (x9 ≤ 65536) then exI .i64 (h7.cell ⟨g6, 0 + 1, none⟩) fun x10 => (bif decide ((2 : Int) ≤ x10) then exI .i64 (h7.cell ⟨g6, 0 + 1, none⟩) fun x11 => (bif decide (x11 ≤ 3) then exI .i64 (h7.cell ⟨g6, 0 + 1, none⟩) fun x12 => exI .i64 (h7.cell ⟨g6, 0 + 2, none⟩) fun x13 => (bif decide (x12 ≤ x13) then exI .i64 (h7.cell ⟨g6, 0 + 2, none⟩) fun x14 => (bif decide (x14 ≤ 65538) then exI .i64 (h7.cell ⟨g6, 0 + 3, none⟩) fun x15 => (bif decide ((0 : Int) ≤ x15) then exI .i64 (h7.cell ⟨g6, 0 + 3, none⟩) fun x16 => K (decide (x16 ≤ 4096)) h7 else K false h7) else K false h7) else K false h7) else K false h7) else K false h7) else K false h7) else K false h7) := by kernel_rfl
noncomputable def F_ref09_Check (R : Nat) (a1 : Int) (a2 : Int) (a3 : Int) (a4 : Int) (a5 : Bool) (h : GH) (K : Bool → GH → Option β) : Option β := G_ref09_Check  R a1 a2 a3 a4 a5 h K
theorem CF_ref09_Check_sim : SimOrc Try.prog (CF_ref09_Check (β := β)) := by
  intro f args h K r hc
  cases hc
set_option maxRecDepth 100000 in
theorem F_ref09_Check_sim {R : Nat} {r : β} {a1 : Int} {a2 : Int} {a3 : Int} {a4 : Int} {a5 : Bool} {h : GH} {K : Value → GH → Option β} (hc : F_ref09_Check R a1 a2 a3 a4 a5 h (fun q0 h' => K (Value.bool q0) h') = some r) : ∃ v h', K v h' = some r ∧ CallSim Try.prog 78 [Value.agg #[Value.int .i64 a1, Value.int .i64 a2, Value.int .i64 a3, Value.int .i64 a4, Value.bool a5]] h v h' := by
  unfold F_ref09_Check G_ref09_Check at hc
  obtain ⟨v, h', hk, hs⟩ := gfun_sim CF_ref09_Check_sim mixed_ok (fun f h => by cases h) Try.func78 (by kernel_rfl) hc
  obtain ⟨u0, e0, hk⟩ := exB_v hk; cases e0
  exact ⟨_, h', hk, hs⟩
/-! F95 duffel/duffelref09.same -/
def CF_ref09_same  : Orc β := fun f args h K => none
def HF_ref09_same : Hints := ⟨[(2, [0, 1, 2, 3, 9], [(0, [(9, .ty 3)])], none)], [], []⟩
noncomputable def BF_ref09_same : Code := match Try.f95.body with | some c => c | none => .skip
noncomputable def F_ref09_same_l0  (R : Nat) (n : Nat) (y5 : Sl) (y6 : Int) (y7 : Int) (y8 : Int) (y9 : Int) (h : GH) (K0 : Int → GH → Option β) : Option β := gloop (gcode Try.prog (CF_ref09_same ) Try.f95.ntmps HF_ref09_same R (at_ [true, true, false, false, false] BF_ref09_same)) [0, 1, 2, 3, 9] n [(0, Value.slice y5.a y5.n y5.c), (1, Value.int .i64 y6), (2, Value.int .i64 y7), (3, Value.int .i64 y8), (9, Value.int .i64 y9)] h (fun i e' h' => bif Nat.beq i 0 then (exI .i64 (some (e'.get 9)) fun u20 => K0 u20 h') else none) (fun e' h' => none)
set_option maxRecDepth 100000 in
theorem F_ref09_same_l0_succ  (R : Nat) (n : Nat) (y5 : Sl) (y6 : Int) (y7 : Int) (y8 : Int) (y9 : Int) (h : GH) (K0 : Int → GH → Option β) : F_ref09_same_l0  R (n + 1) y5 y6 y7 y8 y9 h K0 =
    (bif decide (y9 < y8) then (bif decide ((IntKind.wrap .i64 (y7 + y9)) < ((y5.n : Nat) : Int)) then exA y5.a fun g11 o12 => within (IntKind.wrap .i64 (y6 + y9)) y5.n (exI .u8 (h.cell ⟨g11, o12 + (IntKind.wrap .i64 (y6 + y9)).toNat * 1, none⟩) fun x13 => exA y5.a fun g14 o15 => within (IntKind.wrap .i64 (y7 + y9)) y5.n (exI .u8 (h.cell ⟨g14, o15 + (IntKind.wrap .i64 (y7 + y9)).toNat * 1, none⟩) fun x16 => (bif x13 == x16 then F_ref09_same_l0 R n y5 y6 y7 y8 (IntKind.wrap .i64 (y9 + 1)) h K0 else K0 y9 h))) else K0 y9 h) else K0 y9 h) := by kernel_rfl
noncomputable def G_ref09_same  (R : Nat) (a1 : Sl) (a2 : Int) (a3 : Int) (a4 : Int) (h : GH) (K : Int → GH → Option β) : Option β := gfun Try.prog (CF_ref09_same ) HF_ref09_same R Try.f95 [Value.slice a1.a a1.n a1.c, Value.int .i64 a2, Value.int .i64 a3, Value.int .i64 a4] h (fun v h' => exI .i64 (some v) fun u21 => K u21 h')
set_option maxRecDepth 100000 in
theorem F_ref09_same_gen  (R : Nat) (a1 : Sl) (a2 : Int) (a3 : Int) (a4 : Int) (h : GH) (K : Int → GH → Option β) : G_ref09_same  R a1 a2 a3 a4 h K =
    F_ref09_same_l0 R R a1 a2 a3 a4 0 h (fun w17 h18 => K w17 h18) := by kernel_rfl
noncomputable def F_ref09_same (R : Nat) (a1 : Sl) (a2 : Int) (a3 : Int) (a4 : Int) (h : GH) (K : Int → GH → Option β) : Option β := G_ref09_same  R a1 a2 a3 a4 h K
theorem CF_ref09_same_sim : SimOrc Try.prog (CF_ref09_same (β := β)) := by
  intro f args h K r hc
  cases hc
set_option maxRecDepth 100000 in
theorem F_ref09_same_sim {R : Nat} {r : β} {a1 : Sl} {a2 : Int} {a3 : Int} {a4 : Int} {h : GH} {K : Value → GH → Option β} (hc : F_ref09_same R a1 a2 a3 a4 h (fun q0 h' => K (Value.int .i64 q0) h') = some r) : ∃ v h', K v h' = some r ∧ CallSim Try.prog 95 [Value.slice a1.a a1.n a1.c, Value.int .i64 a2, Value.int .i64 a3, Value.int .i64 a4] h v h' := by
  unfold F_ref09_same G_ref09_same at hc
  obtain ⟨v, h', hk, hs⟩ := gfun_sim CF_ref09_same_sim mixed_ok (fun f h => by cases h) Try.func95 (by kernel_rfl) hc
  obtain ⟨u0, e0, hk⟩ := exI_v hk; cases e0
  exact ⟨_, h', hk, hs⟩
/-! F79 duffel/duffelref09.At -/
def CF_ref09_At (F_ref09_same : Sl → Int → Int → Int → GH → (Int → GH → Option β) → Option β) : Orc β := fun f args h K => bif Nat.beq f 95 then (match args with | [.slice p1a p1n p1c, .int .i64 p2, .int .i64 p3, .int .i64 p4] => F_ref09_same ⟨p1a, p1n, p1c⟩ p2 p3 p4 h (fun q19 h' => K (Value.int .i64 q19) h') | _ => none) else none
def HF_ref09_At : Hints := ⟨[(4, [0, 2, 4, 6, 7, 8, 9], [(0, [(6, .ty 15), (7, .ty 15)])], none)], [], []⟩
noncomputable def BF_ref09_At : Code := match Try.f79.body with | some c => c | none => .skip
noncomputable def F_ref09_At_l0 (F_ref09_same : Sl → Int → Int → Int → GH → (Int → GH → Option β) → Option β) (R : Nat) (n : Nat) (y15 : Sl) (y16 : Int) (y17 : Option Addr) (y18 : Option Addr) (y19 : Option Addr) (y20 : Int) (y21 : Int) (h : GH) (K0 : Option Addr → Option Addr → GH → Option β) : Option β := gloop (gcode Try.prog (CF_ref09_At F_ref09_same) Try.f79.ntmps HF_ref09_At R (at_ [true, true, true, false, true, false, false] BF_ref09_At)) [0, 2, 4, 6, 7, 8, 9] n [(0, Value.slice y15.a y15.n y15.c), (2, Value.int .i64 y16), (4, Value.pointer y17), (6, Value.pointer y18), (7, Value.pointer y19), (8, Value.int .i64 y20), (9, Value.int .i64 y21)] h (fun i e' h' => bif Nat.beq i 0 then (exP (some (e'.get 6)) fun u68 => exP (some (e'.get 7)) fun u69 => K0 u68 u69 h') else none) (fun e' h' => none)
set_option maxRecDepth 100000 in
theorem F_ref09_At_l0_succ (F_ref09_same : Sl → Int → Int → Int → GH → (Int → GH → Option β) → Option β) (R : Nat) (n : Nat) (y15 : Sl) (y16 : Int) (y17 : Option Addr) (y18 : Option Addr) (y19 : Option Addr) (y20 : Int) (y21 : Int) (h : GH) (K0 : Option Addr → Option Addr → GH → Option β) : F_ref09_At_l0 F_ref09_same R (n + 1) y15 y16 y17 y18 y19 y20 y21 h K0 =
    (bif decide (y21 ≥ 0) then exA y17 fun g24 o25 => exI .i64 (h.cell ⟨g24, o25 + 0, none⟩) fun x26 => (bif decide ((IntKind.wrap .i64 (y16 - y21)) ≤ x26) then exA y17 fun g27 o28 => exI .i64 (h.cell ⟨g27, o28 + 3, none⟩) fun x29 => (bif decide (y20 < x29) then exA y17 fun g30 o31 => exI .i64 (h.cell ⟨g30, o31 + 1, none⟩) fun x32 => F_ref09_same y15 y21 y16 x32 h fun r33 h34 => exA y17 fun g35 o36 => exI .i64 (h34.cell ⟨g35, o36 + 1, none⟩) fun x37 => (bif sameAt g35 (o36 + 1) 1 h h34 then (bif decide (r33 < x37) then F_ref09_At_l0 F_ref09_same R n y15 y16 y17 y18 y19 y20 (IntKind.wrap .i64 (y21 - 1)) h34 K0 else exA y17 fun g38 o39 => exI .i64 (h34.cell ⟨g38, o39 + 2, none⟩) fun x40 => F_ref09_same y15 y21 y16 x40 h34 fun r41 h42 => exA y19 fun g43 o44 => exI .i64 (h42.cell ⟨g43, o44 + 2, none⟩) fun x45 => (bif decide (r41 > x45) then exA y19 fun g46 o47 => gput g46 (o47) [Value.int .u8 0, Value.int .i64 (IntKind.wrap .i64 (y16 - y21)), Value.int .i64 r41] h42 fun h48 => F_ref09_At_l0 F_ref09_same R n y15 y16 y17 y18 y19 (IntKind.wrap .i64 (y20 + 1)) (IntKind.wrap .i64 (y21 - 1)) h48 K0 else F_ref09_At_l0 F_ref09_same R n y15 y16 y17 y18 y19 (IntKind.wrap .i64 (y20 + 1)) (IntKind.wrap .i64 (y21 - 1)) h42 K0)) else none) else K0 y18 y19 h) else K0 y18 y19 h) else K0 y18 y19 h) := by kernel_rfl
noncomputable def G_ref09_At (F_ref09_same : Sl → Int → Int → Int → GH → (Int → GH → Option β) → Option β) (R : Nat) (a1 : Sl) (a2 : Int) (a3 : Int) (a4 : Int) (a5 : Int) (a6 : Bool) (a7 : Int) (h : GH) (K : Int → Int → Int → GH → Option β) : Option β := gfun Try.prog (CF_ref09_At F_ref09_same) HF_ref09_At R Try.f79 [Value.slice a1.a a1.n a1.c, Value.agg #[Value.int .i64 a2, Value.int .i64 a3, Value.int .i64 a4, Value.int .i64 a5, Value.bool a6], Value.int .i64 a7] h (fun v h' => exAg v fun c70 => (bif Nat.beq c70.length 3 then exI .u8 (nth c70 (0)) fun u71 => exI .i64 (nth c70 (0 + 1)) fun u72 => exI .i64 (nth c70 (0 + 1 + 1)) fun u73 => K u71 u72 u73 h' else none))
set_option maxRecDepth 100000 in
theorem F_ref09_At_gen (F_ref09_same : Sl → Int → Int → Int → GH → (Int → GH → Option β) → Option β) (R : Nat) (a1 : Sl) (a2 : Int) (a3 : Int) (a4 : Int) (a5 : Int) (a6 : Bool) (a7 : Int) (h : GH) (K : Int → Int → Int → GH → Option β) : G_ref09_At F_ref09_same R a1 a2 a3 a4 a5 a6 a7 h K =
    gnew [Value.int .i64 a2, Value.int .i64 a3, Value.int .i64 a4, Value.int .i64 a5, Value.bool a6] 0 h fun g8 h9 => gnew [Value.int .u8 0, Value.int .i64 0, Value.int .i64 0] 0 h9 fun g10 h11 => gnew [Value.int .u8 0, Value.int .i64 0, Value.int .i64 0] 0 h11 fun g12 h13 => gput g12 (0) [Value.int .u8 0, Value.int .i64 0, Value.int .i64 0] h13 fun h14 => F_ref09_At_l0 F_ref09_same R R a1 a7 (some ⟨g8, 0, none⟩) (some ⟨g10, 0, none⟩) (some ⟨g12, 0, none⟩) 0 (IntKind.wrap .i64 (a7 - 1)) h14 (fun w49 w50 h51 => exA w50 fun g52 o53 => exI .u8 (h51.cell ⟨g52, o53, none⟩) fun x54 => exI .i64 (h51.cell ⟨g52, o53 + 1, none⟩) fun x55 => exI .i64 (h51.cell ⟨g52, o53 + 1 + 1, none⟩) fun x56 => exA w49 fun g57 o58 => gput g57 (o58) [Value.int .u8 x54, Value.int .i64 x55, Value.int .i64 x56] h51 fun h59 => exA w49 fun g60 o61 => exI .u8 (h59.cell ⟨g60, o61, none⟩) fun x62 => exI .i64 (h59.cell ⟨g60, o61 + 1, none⟩) fun x63 => exI .i64 (h59.cell ⟨g60, o61 + 1 + 1, none⟩) fun x64 => K x62 x63 x64 h59) := by kernel_rfl
noncomputable def F_ref09_At (R : Nat) (a1 : Sl) (a2 : Int) (a3 : Int) (a4 : Int) (a5 : Int) (a6 : Bool) (a7 : Int) (h : GH) (K : Int → Int → Int → GH → Option β) : Option β := G_ref09_At (F_ref09_same R) R a1 a2 a3 a4 a5 a6 a7 h K
set_option maxRecDepth 100000 in
theorem CF_ref09_At_sim {R : Nat} : SimOrc Try.prog (CF_ref09_At (F_ref09_same R) (β := β)) := by
  intro f args h K r hc
  unfold CF_ref09_At at hc
  cases hb : Nat.beq f 95 with
  | true =>
    rw [hb] at hc
    simp only [cond_true] at hc
    obtain rfl := Nat.eq_of_beq_eq_true hb
    split at hc
    · exact any_call (F_ref09_same_sim (K := K) hc)
    · cases hc
  | false =>
  rw [hb] at hc
  simp only [cond_false] at hc
  cases hc
set_option maxRecDepth 100000 in
theorem F_ref09_At_sim {R : Nat} {r : β} {a1 : Sl} {a2 : Int} {a3 : Int} {a4 : Int} {a5 : Int} {a6 : Bool} {a7 : Int} {h : GH} {K : Value → GH → Option β} (hc : F_ref09_At R a1 a2 a3 a4 a5 a6 a7 h (fun q0 q1 q2 h' => K (Value.agg #[Value.int .u8 q0, Value.int .i64 q1, Value.int .i64 q2]) h') = some r) : ∃ v h', K v h' = some r ∧ CallSim Try.prog 79 [Value.slice a1.a a1.n a1.c, Value.agg #[Value.int .i64 a2, Value.int .i64 a3, Value.int .i64 a4, Value.int .i64 a5, Value.bool a6], Value.int .i64 a7] h v h' := by
  unfold F_ref09_At G_ref09_At at hc
  obtain ⟨v, h', hk, hs⟩ := gfun_sim (CF_ref09_At_sim (R := R)) mixed_ok (fun f h => by cases h) Try.func79 (by kernel_rfl) hc
  obtain ⟨cs0, f0, hk⟩ := exAg_v hk; cases f0; obtain ⟨hl0, hk⟩ := beq_v hk
  obtain ⟨u1, e1, hk⟩ := exI_v hk
  obtain ⟨u2, e2, hk⟩ := exI_v hk
  obtain ⟨u3, e3, hk⟩ := exI_v hk
  obtain rfl := arr3 hl0 e1 e2 e3
  exact ⟨_, h', hk, hs⟩
/-! F53 duffel/duffelref09.Find -/
def CF_ref09_Find (F_ref09_Check : Int → Int → Int → Int → Bool → GH → (Bool → GH → Option β) → Option β) (F_ref09_At : Sl → Int → Int → Int → Int → Bool → Int → GH → (Int → Int → Int → GH → Option β) → Option β) : Orc β := fun f args h K => bif Nat.beq f 78 then (match args with | [.agg ⟨[.int .i64 p1, .int .i64 p2, .int .i64 p3, .int .i64 p4, .bool p5]⟩] => F_ref09_Check p1 p2 p3 p4 p5 h (fun q17 h' => K (Value.bool q17) h') | _ => none) else (bif Nat.beq f 79 then (match args with | [.slice p1a p1n p1c, .agg ⟨[.int .i64 p2, .int .i64 p3, .int .i64 p4, .int .i64 p5, .bool p6]⟩, .int .i64 p7] => F_ref09_At ⟨p1a, p1n, p1c⟩ p2 p3 p4 p5 p6 p7 h (fun q65 q66 q67 h' => K (Value.agg #[Value.int .u8 q65, Value.int .i64 q66, Value.int .i64 q67]) h') | _ => none) else none)
def HF_ref09_Find : Hints := ⟨[(5, [0, 3, 6, 7], [(0, [(6, .ty 83)])], none)], [], []⟩
noncomputable def BF_ref09_Find : Code := match Try.f53.body with | some c => c | none => .skip
noncomputable def F_ref09_Find_l0 (F_ref09_Check : Int → Int → Int → Int → Bool → GH → (Bool → GH → Option β) → Option β) (F_ref09_At : Sl → Int → Int → Int → Int → Bool → Int → GH → (Int → Int → Int → GH → Option β) → Option β) (R : Nat) (n : Nat) (y16 : Sl) (y17 : Option Addr) (y18 : Sl) (y19 : Int) (h : GH) (K0 : Sl → GH → Option β) : Option β := gloop (gcode Try.prog (CF_ref09_Find F_ref09_Check F_ref09_At) Try.f53.ntmps HF_ref09_Find R (at_ [true, true, true, true, false, false, false] BF_ref09_Find)) [0, 3, 6, 7] n [(0, Value.slice y16.a y16.n y16.c), (3, Value.pointer y17), (6, Value.slice y18.a y18.n y18.c), (7, Value.int .i64 y19)] h (fun i e' h' => bif Nat.beq i 0 then (exS (some (e'.get 6)) fun u146 => K0 u146 h') else none) (fun e' h' => none)
set_option maxRecDepth 100000 in
theorem F_ref09_Find_l0_succ (F_ref09_Check : Int → Int → Int → Int → Bool → GH → (Bool → GH → Option β) → Option β) (F_ref09_At : Sl → Int → Int → Int → Int → Bool → Int → GH → (Int → Int → Int → GH → Option β) → Option β) (R : Nat) (n : Nat) (y16 : Sl) (y17 : Option Addr) (y18 : Sl) (y19 : Int) (h : GH) (K0 : Sl → GH → Option β) : F_ref09_Find_l0 F_ref09_Check F_ref09_At R (n + 1) y16 y17 y18 y19 h K0 =
    (bif decide (y19 < ((y16.n : Nat) : Int)) then exA y17 fun g21 o22 => exI .i64 (h.cell ⟨g21, o22, none⟩) fun x23 => exI .i64 (h.cell ⟨g21, o22 + 1, none⟩) fun x24 => exI .i64 (h.cell ⟨g21, o22 + 1 + 1, none⟩) fun x25 => exI .i64 (h.cell ⟨g21, o22 + 1 + 1 + 1, none⟩) fun x26 => exB (h.cell ⟨g21, o22 + 1 + 1 + 1 + 1, none⟩) fun x27 => F_ref09_At y16 x23 x24 x25 x26 x27 y19 h fun r28 r29 r30 h31 => gnew [Value.int .u8 0, Value.int .i64 0, Value.int .i64 0] 0 h31 fun g32 h33 => gput g32 (0) [Value.int .u8 r28, Value.int .i64 r29, Value.int .i64 r30] h33 fun h34 => exA y17 fun g35 o36 => exB (h34.cell ⟨g35, o36 + 4, none⟩) fun x37 => (bif x37 then exI .i64 (h34.cell ⟨g32, 0 + 2, none⟩) fun x38 => exA y17 fun g39 o40 => exI .i64 (h34.cell ⟨g39, o40 + 2, none⟩) fun x41 => (bif decide (x38 < x41) then exI .i64 (h34.cell ⟨g32, 0 + 2, none⟩) fun x42 => (bif decide (x42 > 0) then (bif decide ((IntKind.wrap .i64 (y19 + 1)) < ((y16.n : Nat) : Int)) then exA y17 fun g43 o44 => exI .i64 (h34.cell ⟨g43, o44, none⟩) fun x45 => exI .i64 (h34.cell ⟨g43, o44 + 1, none⟩) fun x46 => exI .i64 (h34.cell ⟨g43, o44 + 1 + 1, none⟩) fun x47 => exI .i64 (h34.cell ⟨g43, o44 + 1 + 1 + 1, none⟩) fun x48 => exB (h34.cell ⟨g43, o44 + 1 + 1 + 1 + 1, none⟩) fun x49 => F_ref09_At y16 x45 x46 x47 x48 x49 (IntKind.wrap .i64 (y19 + 1)) h34 fun r50 r51 r52 h53 => exI .i64 (h53.cell ⟨g32, 0 + 2, none⟩) fun x54 => (bif sameAt g32 (0 + 2) 1 h34 h53 then exI .i64 (h53.cell ⟨g32, 0 + 2, none⟩) fun x55 => (bif x55 == 0 then exA y16.a fun g56 o57 => within y19 y16.n (exI .u8 (h53.cell ⟨g56, o57 + y19.toNat * 1, none⟩) fun x58 => gnew [Value.int .u8 x58, Value.int .i64 0, Value.int .i64 0] 3 h53 fun g59 h60 => gappS 3 24 y18 ⟨(some ⟨g59, 0, none⟩), 1, 1⟩ h60 fun s61 h62 => F_ref09_Find_l0 F_ref09_Check F_ref09_At R n y16 y17 s61 (IntKind.wrap .i64 (y19 + 1)) h62 K0) else (bif decide (r52 > x54) then exA y16.a fun g63 o64 => within y19 y16.n (exI .u8 (h53.cell ⟨g63, o64 + y19.toNat * 1, none⟩) fun x65 => gnew [Value.int .u8 x65, Value.int .i64 0, Value.int .i64 0] 3 h53 fun g66 h67 => gappS 3 24 y18 ⟨(some ⟨g66, 0, none⟩), 1, 1⟩ h67 fun s68 h69 => F_ref09_Find_l0 F_ref09_Check F_ref09_At R n y16 y17 s68 (IntKind.wrap .i64 (y19 + 1)) h69 K0) else exI .u8 (h53.cell ⟨g32, 0, none⟩) fun x70 => exI .i64 (h53.cell ⟨g32, 0 + 1, none⟩) fun x71 => exI .i64 (h53.cell ⟨g32, 0 + 1 + 1, none⟩) fun x72 => gnew [Value.int .u8 x70, Value.int .i64 x71, Value.int .i64 x72] 3 h53 fun g73 h74 => gappS 3 24 y18 ⟨(some ⟨g73, 0, none⟩), 1, 1⟩ h74 fun s75 h76 => exI .i64 (h76.cell ⟨g32, 0 + 2, none⟩) fun x77 => F_ref09_Find_l0 F_ref09_Check F_ref09_At R n y16 y17 s75 (IntKind.wrap .i64 (y19 + x77)) h76 K0)) else none) else exI .i64 (h34.cell ⟨g32, 0 + 2, none⟩) fun x78 => (bif x78 == 0 then exA y16.a fun g79 o80 => within y19 y16.n (exI .u8 (h34.cell ⟨g79, o80 + y19.toNat * 1, none⟩) fun x81 => gnew [Value.int .u8 x81, Value.int .i64 0, Value.int .i64 0] 3 h34 fun g82 h83 => gappS 3 24 y18 ⟨(some ⟨g82, 0, none⟩), 1, 1⟩ h83 fun s84 h85 => F_ref09_Find_l0 F_ref09_Check F_ref09_At R n y16 y17 s84 (IntKind.wrap .i64 (y19 + 1)) h85 K0) else exI .u8 (h34.cell ⟨g32, 0, none⟩) fun x86 => exI .i64 (h34.cell ⟨g32, 0 + 1, none⟩) fun x87 => exI .i64 (h34.cell ⟨g32, 0 + 1 + 1, none⟩) fun x88 => gnew [Value.int .u8 x86, Value.int .i64 x87, Value.int .i64 x88] 3 h34 fun g89 h90 => gappS 3 24 y18 ⟨(some ⟨g89, 0, none⟩), 1, 1⟩ h90 fun s91 h92 => exI .i64 (h92.cell ⟨g32, 0 + 2, none⟩) fun x93 => F_ref09_Find_l0 F_ref09_Check F_ref09_At R n y16 y17 s91 (IntKind.wrap .i64 (y19 + x93)) h92 K0)) else exI .i64 (h34.cell ⟨g32, 0 + 2, none⟩) fun x94 => (bif x94 == 0 then exA y16.a fun g95 o96 => within y19 y16.n (exI .u8 (h34.cell ⟨g95, o96 + y19.toNat * 1, none⟩) fun x97 => gnew [Value.int .u8 x97, Value.int .i64 0, Value.int .i64 0] 3 h34 fun g98 h99 => gappS 3 24 y18 ⟨(some ⟨g98, 0, none⟩), 1, 1⟩ h99 fun s100 h101 => F_ref09_Find_l0 F_ref09_Check F_ref09_At R n y16 y17 s100 (IntKind.wrap .i64 (y19 + 1)) h101 K0) else exI .u8 (h34.cell ⟨g32, 0, none⟩) fun x102 => exI .i64 (h34.cell ⟨g32, 0 + 1, none⟩) fun x103 => exI .i64 (h34.cell ⟨g32, 0 + 1 + 1, none⟩) fun x104 => gnew [Value.int .u8 x102, Value.int .i64 x103, Value.int .i64 x104] 3 h34 fun g105 h106 => gappS 3 24 y18 ⟨(some ⟨g105, 0, none⟩), 1, 1⟩ h106 fun s107 h108 => exI .i64 (h108.cell ⟨g32, 0 + 2, none⟩) fun x109 => F_ref09_Find_l0 F_ref09_Check F_ref09_At R n y16 y17 s107 (IntKind.wrap .i64 (y19 + x109)) h108 K0)) else exI .i64 (h34.cell ⟨g32, 0 + 2, none⟩) fun x110 => (bif x110 == 0 then exA y16.a fun g111 o112 => within y19 y16.n (exI .u8 (h34.cell ⟨g111, o112 + y19.toNat * 1, none⟩) fun x113 => gnew [Value.int .u8 x113, Value.int .i64 0, Value.int .i64 0] 3 h34 fun g114 h115 => gappS 3 24 y18 ⟨(some ⟨g114, 0, none⟩), 1, 1⟩ h115 fun s116 h117 => F_ref09_Find_l0 F_ref09_Check F_ref09_At R n y16 y17 s116 (IntKind.wrap .i64 (y19 + 1)) h117 K0) else exI .u8 (h34.cell ⟨g32, 0, none⟩) fun x118 => exI .i64 (h34.cell ⟨g32, 0 + 1, none⟩) fun x119 => exI .i64 (h34.cell ⟨g32, 0 + 1 + 1, none⟩) fun x120 => gnew [Value.int .u8 x118, Value.int .i64 x119, Value.int .i64 x120] 3 h34 fun g121 h122 => gappS 3 24 y18 ⟨(some ⟨g121, 0, none⟩), 1, 1⟩ h122 fun s123 h124 => exI .i64 (h124.cell ⟨g32, 0 + 2, none⟩) fun x125 => F_ref09_Find_l0 F_ref09_Check F_ref09_At R n y16 y17 s123 (IntKind.wrap .i64 (y19 + x125)) h124 K0)) else exI .i64 (h34.cell ⟨g32, 0 + 2, none⟩) fun x126 => (bif x126 == 0 then exA y16.a fun g127 o128 => within y19 y16.n (exI .u8 (h34.cell ⟨g127, o128 + y19.toNat * 1, none⟩) fun x129 => gnew [Value.int .u8 x129, Value.int .i64 0, Value.int .i64 0] 3 h34 fun g130 h131 => gappS 3 24 y18 ⟨(some ⟨g130, 0, none⟩), 1, 1⟩ h131 fun s132 h133 => F_ref09_Find_l0 F_ref09_Check F_ref09_At R n y16 y17 s132 (IntKind.wrap .i64 (y19 + 1)) h133 K0) else exI .u8 (h34.cell ⟨g32, 0, none⟩) fun x134 => exI .i64 (h34.cell ⟨g32, 0 + 1, none⟩) fun x135 => exI .i64 (h34.cell ⟨g32, 0 + 1 + 1, none⟩) fun x136 => gnew [Value.int .u8 x134, Value.int .i64 x135, Value.int .i64 x136] 3 h34 fun g137 h138 => gappS 3 24 y18 ⟨(some ⟨g137, 0, none⟩), 1, 1⟩ h138 fun s139 h140 => exI .i64 (h140.cell ⟨g32, 0 + 2, none⟩) fun x141 => F_ref09_Find_l0 F_ref09_Check F_ref09_At R n y16 y17 s139 (IntKind.wrap .i64 (y19 + x141)) h140 K0)) else K0 y18 h) := by kernel_rfl
noncomputable def G_ref09_Find (F_ref09_Check : Int → Int → Int → Int → Bool → GH → (Bool → GH → Option β) → Option β) (F_ref09_At : Sl → Int → Int → Int → Int → Bool → Int → GH → (Int → Int → Int → GH → Option β) → Option β) (R : Nat) (a1 : Sl) (a2 : Int) (a3 : Int) (a4 : Int) (a5 : Int) (a6 : Bool) (h : GH) (K : Sl → Int → GH → Option β) : Option β := gfun Try.prog (CF_ref09_Find F_ref09_Check F_ref09_At) HF_ref09_Find R Try.f53 [Value.slice a1.a a1.n a1.c, Value.agg #[Value.int .i64 a2, Value.int .i64 a3, Value.int .i64 a4, Value.int .i64 a5, Value.bool a6]] h (fun v h' => exTup 2 v fun vs => exV (nth vs 0) fun v0 => exS (some v0) fun u147 => exV (nth vs 1) fun v1 => exI .i64 (some v1) fun u148 => K u147 u148 h')
set_option maxRecDepth 100000 in
theorem F_ref09_Find_gen (F_ref09_Check : Int → Int → Int → Int → Bool → GH → (Bool → GH → Option β) → Option β) (F_ref09_At : Sl → Int → Int → Int → Int → Bool → Int → GH → (Int → Int → Int → GH → Option β) → Option β) (R : Nat) (a1 : Sl) (a2 : Int) (a3 : Int) (a4 : Int) (a5 : Int) (a6 : Bool) (h : GH) (K : Sl → Int → GH → Option β) : G_ref09_Find F_ref09_Check F_ref09_At R a1 a2 a3 a4 a5 a6 h K =
    gnew [Value.int .i64 a2, Value.int .i64 a3, Value.int .i64 a4, Value.int .i64 a5, Value.bool a6] 0 h fun g7 h8 => exI .i64 (h8.cell ⟨g7, 0, none⟩) fun x9 => exI .i64 (h8.cell ⟨g7, 0 + 1, none⟩) fun x10 => exI .i64 (h8.cell ⟨g7, 0 + 1 + 1, none⟩) fun x11 => exI .i64 (h8.cell ⟨g7, 0 + 1 + 1 + 1, none⟩) fun x12 => exB (h8.cell ⟨g7, 0 + 1 + 1 + 1 + 1, none⟩) fun x13 => F_ref09_Check x9 x10 x11 x12 x13 h8 fun r14 h15 => (bif !r14 then K ⟨none, 0, 0⟩ 2 h15 else F_ref09_Find_l0 F_ref09_Check F_ref09_At R R a1 (some ⟨g7, 0, none⟩) ⟨none, 0, 0⟩ 0 h15 (fun w142 h143 => K w142 0 h143)) := by kernel_rfl
noncomputable def F_ref09_Find (R : Nat) (a1 : Sl) (a2 : Int) (a3 : Int) (a4 : Int) (a5 : Int) (a6 : Bool) (h : GH) (K : Sl → Int → GH → Option β) : Option β := G_ref09_Find (F_ref09_Check R) (F_ref09_At R) R a1 a2 a3 a4 a5 a6 h K
set_option maxRecDepth 100000 in
theorem CF_ref09_Find_sim {R : Nat} : SimOrc Try.prog (CF_ref09_Find (F_ref09_Check R) (F_ref09_At R) (β := β)) := by
  intro f args h K r hc
  unfold CF_ref09_Find at hc
  cases hb : Nat.beq f 78 with
  | true =>
    rw [hb] at hc
    simp only [cond_true] at hc
    obtain rfl := Nat.eq_of_beq_eq_true hb
    split at hc
    · exact any_call (F_ref09_Check_sim (K := K) hc)
    · cases hc
  | false =>
  rw [hb] at hc
  simp only [cond_false] at hc
  cases hb : Nat.beq f 79 with
  | true =>
    rw [hb] at hc
    simp only [cond_true] at hc
    obtain rfl := Nat.eq_of_beq_eq_true hb
    split at hc
    · exact any_call (F_ref09_At_sim (K := K) hc)
    · cases hc
  | false =>
  rw [hb] at hc
  simp only [cond_false] at hc
  cases hc
set_option maxRecDepth 100000 in
theorem F_ref09_Find_sim {R : Nat} {r : β} {a1 : Sl} {a2 : Int} {a3 : Int} {a4 : Int} {a5 : Int} {a6 : Bool} {h : GH} {K : Value → GH → Option β} (hc : F_ref09_Find R a1 a2 a3 a4 a5 a6 h (fun q0 q1 h' => K (Value.tuple #[Value.slice q0.a q0.n q0.c, Value.int .i64 q1]) h') = some r) : ∃ v h', K v h' = some r ∧ CallSim Try.prog 53 [Value.slice a1.a a1.n a1.c, Value.agg #[Value.int .i64 a2, Value.int .i64 a3, Value.int .i64 a4, Value.int .i64 a5, Value.bool a6]] h v h' := by
  unfold F_ref09_Find G_ref09_Find at hc
  obtain ⟨v, h', hk, hs⟩ := gfun_sim (CF_ref09_Find_sim (R := R)) mixed_ok (fun f h => by cases h) Try.func53 (by kernel_rfl) hc
  obtain ⟨vs, rfl, hl, hk⟩ := exTup_v hk
  obtain ⟨v0, t0, hk⟩ := exV_v hk
  obtain ⟨u0, e0, hk⟩ := exS_v hk; cases e0
  obtain ⟨v1, t1, hk⟩ := exV_v hk
  obtain ⟨u1, e1, hk⟩ := exI_v hk; cases e1
  obtain rfl := arr2 hl t0 t1
  exact ⟨_, h', hk, hs⟩
/-! F23 duffel/duffelref13.Encode -/
def CF_ref13_Encode (F_ref13_two : Int → GH → (Int → GH → Option β) → Option β) (F_ref09_Find : Sl → Int → Int → Int → Int → Bool → GH → (Sl → Int → GH → Option β) → Option β) : Orc β := fun f args h K => bif Nat.beq f 52 then (match args with | [.int .i64 p1] => F_ref13_two p1 h (fun q8 h' => K (Value.int .i64 q8) h') | _ => none) else (bif Nat.beq f 53 then (match args with | [.slice p1a p1n p1c, .agg ⟨[.int .i64 p2, .int .i64 p3, .int .i64 p4, .int .i64 p5, .bool p6]⟩] => F_ref09_Find ⟨p1a, p1n, p1c⟩ p2 p3 p4 p5 p6 h (fun q144 q145 h' => K (Value.tuple #[Value.slice q144.a q144.n q144.c, Value.int .i64 q145]) h') | _ => none) else none)
def HF_ref13_Encode : Hints := ⟨[(8, [0, 6, 7, 9, 10, 11], [(0, [(9, .ty 22)])], none), (21, [0, 6, 7, 9, 10, 11, 12, 14], [(2, [(0, .ty 22), (6, .ty 3), (7, .ty 83), (9, .ty 22), (10, .ty 3), (11, .ty 3), (12, .ty 3)])], none)], [], []⟩
noncomputable def BF_ref13_Encode : Code := match Try.f23.body with | some c => c | none => .skip
noncomputable def F_ref13_Encode_l0 (F_ref13_two : Int → GH → (Int → GH → Option β) → Option β) (F_ref09_Find : Sl → Int → Int → Int → Int → Bool → GH → (Sl → Int → GH → Option β) → Option β) (R : Nat) (n : Nat) (y10 : Sl) (y11 : Int) (y12 : Sl) (y13 : Sl) (y14 : Int) (y15 : Int) (h : GH) (K0 : Sl → GH → Option β) : Option β := gloop (gcode Try.prog (CF_ref13_Encode F_ref13_two F_ref09_Find) Try.f23.ntmps HF_ref13_Encode R (at_ [true, true, true, true, true, true, false, true, false, false] BF_ref13_Encode)) [0, 6, 7, 9, 10, 11] n [(0, Value.slice y10.a y10.n y10.c), (6, Value.int .i64 y11), (7, Value.slice y12.a y12.n y12.c), (9, Value.slice y13.a y13.n y13.c), (10, Value.int .i64 y14), (11, Value.int .i64 y15)] h (fun i e' h' => bif Nat.beq i 0 then (exS (some (e'.get 9)) fun u239 => K0 u239 h') else none) (fun e' h' => none)
noncomputable def F_ref13_Encode_l1 (F_ref13_two : Int → GH → (Int → GH → Option β) → Option β) (F_ref09_Find : Sl → Int → Int → Int → Int → Bool → GH → (Sl → Int → GH → Option β) → Option β) (R : Nat) (n : Nat) (y23 : Sl) (y24 : Int) (y25 : Sl) (y26 : Sl) (y27 : Int) (y28 : Int) (y29 : Int) (y30 : Int) (h : GH) (K2 : Sl → Int → Sl → Sl → Int → Int → Int → GH → Option β) : Option β := gloop (gcode Try.prog (CF_ref13_Encode F_ref13_two F_ref09_Find) Try.f23.ntmps HF_ref13_Encode R (at_ [true, true, true, true, true, true, false, true, false, false, true, false, false, true, true, true, true, false, true, false, true, false, false] BF_ref13_Encode)) [0, 6, 7, 9, 10, 11, 12, 14] n [(0, Value.slice y23.a y23.n y23.c), (6, Value.int .i64 y24), (7, Value.slice y25.a y25.n y25.c), (9, Value.slice y26.a y26.n y26.c), (10, Value.int .i64 y27), (11, Value.int .i64 y28), (12, Value.int .i64 y29), (14, Value.int .i64 y30)] h (fun i e' h' => bif Nat.beq i 2 then (exS (some (e'.get 0)) fun u240 => exI .i64 (some (e'.get 6)) fun u241 => exS (some (e'.get 7)) fun u242 => exS (some (e'.get 9)) fun u243 => exI .i64 (some (e'.get 10)) fun u244 => exI .i64 (some (e'.get 11)) fun u245 => exI .i64 (some (e'.get 12)) fun u246 => K2 u240 u241 u242 u243 u244 u245 u246 h') else none) (fun e' h' => none)
set_option maxRecDepth 100000 in
theorem F_ref13_Encode_l1_succ (F_ref13_two : Int → GH → (Int → GH → Option β) → Option β) (F_ref09_Find : Sl → Int → Int → Int → Int → Bool → GH → (Sl → Int → GH → Option β) → Option β) (R : Nat) (n : Nat) (y23 : Sl) (y24 : Int) (y25 : Sl) (y26 : Sl) (y27 : Int) (y28 : Int) (y29 : Int) (y30 : Int) (h : GH) (K2 : Sl → Int → Sl → Sl → Int → Int → Int → GH → Option β) : F_ref13_Encode_l1 F_ref13_two F_ref09_Find R (n + 1) y23 y24 y25 y26 y27 y28 y29 y30 h K2 =
    (bif decide (y30 < (IntKind.wrap .i64 (y27 + y29))) then exA y23.a fun g38 o39 => within y30 y23.n (exI .u8 (h.cell ⟨g38, o39 + y30.toNat * 1, none⟩) fun x40 => gnew [Value.int .u8 x40] 1 h fun g41 h42 => gappS 1 1 y26 ⟨(some ⟨g41, 0, none⟩), 1, 1⟩ h42 fun s43 h44 => exA y23.a fun g45 o46 => within y30 y23.n (exI .u8 (h44.cell ⟨g45, o46 + y30.toNat * 1, none⟩) fun x47 => (bif x47 == 144 then gnew [Value.int .u8 0] 1 h44 fun g48 h49 => gappS 1 1 s43 ⟨(some ⟨g48, 0, none⟩), 1, 1⟩ h49 fun s50 h51 => F_ref13_Encode_l1 F_ref13_two F_ref09_Find R n y23 y24 y25 s50 y27 y28 y29 (IntKind.wrap .i64 (y30 + 1)) h51 K2 else F_ref13_Encode_l1 F_ref13_two F_ref09_Find R n y23 y24 y25 s43 y27 y28 y29 (IntKind.wrap .i64 (y30 + 1)) h44 K2))) else K2 y23 y24 y25 y26 y27 y28 y29 h) := by kernel_rfl
set_option maxRecDepth 100000 in
theorem F_ref13_Encode_l0_succ (F_ref13_two : Int → GH → (Int → GH → Option β) → Option β) (F_ref09_Find : Sl → Int → Int → Int → Int → Bool → GH → (Sl → Int → GH → Option β) → Option β) (R : Nat) (n : Nat) (y10 : Sl) (y11 : Int) (y12 : Sl) (y13 : Sl) (y14 : Int) (y15 : Int) (h : GH) (K0 : Sl → GH → Option β) : F_ref13_Encode_l0 F_ref13_two F_ref09_Find R (n + 1) y10 y11 y12 y13 y14 y15 h K0 =
    (bif decide (y15 < ((y12.n : Nat) : Int)) then exA y12.a fun g17 o18 => within y15 y12.n (exI .i64 (h.cell ⟨g17, o18 + y15.toNat * 3 + 2, none⟩) fun x19 => (bif decide (x19 > 0) then (bif decide ((IntKind.wrap .i64 (x19 - 3)) > (IntKind.wrap .i64 (y11 - 1))) then exA y12.a fun g20 o21 => within y15 y12.n (exI .i64 (h.cell ⟨g20, o21 + y15.toNat * 3 + 1, none⟩) fun x22 => (bif x19 == 0 then (bif (IntKind.wrap .i64 ((IntKind.wrap .i64 (y11 - 1)) + (IntKind.wrap .i64 (y11 * (IntKind.wrap .i64 (Int.tdiv (IntKind.wrap .i64 (x22 - 1)) 256)))))) == 0 then F_ref13_Encode_l1 F_ref13_two F_ref09_Find R R y10 y11 y12 y13 y14 y15 1 y14 h (fun w52 w53 w54 w55 w56 w57 w58 h59 => F_ref13_Encode_l0 F_ref13_two F_ref09_Find R n w52 w53 w54 w55 (IntKind.wrap .i64 (w56 + w58)) (IntKind.wrap .i64 (w57 + 1)) h59 K0) else gnew [Value.int .u8 144, Value.int .u8 (IntKind.wrap .u8 (IntKind.wrap .i64 ((IntKind.wrap .i64 (y11 - 1)) + (IntKind.wrap .i64 (y11 * (IntKind.wrap .i64 (Int.tdiv (IntKind.wrap .i64 (x22 - 1)) 256)))))))] 1 h fun g60 h61 => gappS 1 1 y13 ⟨(some ⟨g60, 0, none⟩), 2, 2⟩ h61 fun s62 h63 => (bif decide ((IntKind.wrap .i64 (1 - 3)) ≥ (IntKind.wrap .i64 (y11 - 1))) then gnew [Value.int .u8 (IntKind.wrap .u8 (IntKind.wrap .i64 ((IntKind.wrap .i64 (1 - 3)) - (IntKind.wrap .i64 (y11 - 1)))))] 1 h63 fun g64 h65 => gappS 1 1 s62 ⟨(some ⟨g64, 0, none⟩), 1, 1⟩ h65 fun s66 h67 => exA y12.a fun g68 o69 => within y15 y12.n (exI .i64 (h67.cell ⟨g68, o69 + y15.toNat * 3 + 1, none⟩) fun x70 => gnew [Value.int .u8 (IntKind.wrap .u8 (Int.tmod (IntKind.wrap .i64 (x70 - 1)) 256))] 1 h67 fun g71 h72 => gappS 1 1 s66 ⟨(some ⟨g71, 0, none⟩), 1, 1⟩ h72 fun s73 h74 => F_ref13_Encode_l0 F_ref13_two F_ref09_Find R n y10 y11 y12 s73 (IntKind.wrap .i64 (y14 + 1)) (IntKind.wrap .i64 (y15 + 1)) h74 K0) else exA y12.a fun g75 o76 => within y15 y12.n (exI .i64 (h63.cell ⟨g75, o76 + y15.toNat * 3 + 1, none⟩) fun x77 => gnew [Value.int .u8 (IntKind.wrap .u8 (Int.tmod (IntKind.wrap .i64 (x77 - 1)) 256))] 1 h63 fun g78 h79 => gappS 1 1 s62 ⟨(some ⟨g78, 0, none⟩), 1, 1⟩ h79 fun s80 h81 => F_ref13_Encode_l0 F_ref13_two F_ref09_Find R n y10 y11 y12 s80 (IntKind.wrap .i64 (y14 + 1)) (IntKind.wrap .i64 (y15 + 1)) h81 K0))) else (bif (IntKind.wrap .i64 ((IntKind.wrap .i64 (y11 - 1)) + (IntKind.wrap .i64 (y11 * (IntKind.wrap .i64 (Int.tdiv (IntKind.wrap .i64 (x22 - 1)) 256)))))) == 0 then F_ref13_Encode_l1 F_ref13_two F_ref09_Find R R y10 y11 y12 y13 y14 y15 x19 y14 h (fun w82 w83 w84 w85 w86 w87 w88 h89 => F_ref13_Encode_l0 F_ref13_two F_ref09_Find R n w82 w83 w84 w85 (IntKind.wrap .i64 (w86 + w88)) (IntKind.wrap .i64 (w87 + 1)) h89 K0) else gnew [Value.int .u8 144, Value.int .u8 (IntKind.wrap .u8 (IntKind.wrap .i64 ((IntKind.wrap .i64 (y11 - 1)) + (IntKind.wrap .i64 (y11 * (IntKind.wrap .i64 (Int.tdiv (IntKind.wrap .i64 (x22 - 1)) 256)))))))] 1 h fun g90 h91 => gappS 1 1 y13 ⟨(some ⟨g90, 0, none⟩), 2, 2⟩ h91 fun s92 h93 => (bif decide ((IntKind.wrap .i64 (x19 - 3)) ≥ (IntKind.wrap .i64 (y11 - 1))) then gnew [Value.int .u8 (IntKind.wrap .u8 (IntKind.wrap .i64 ((IntKind.wrap .i64 (x19 - 3)) - (IntKind.wrap .i64 (y11 - 1)))))] 1 h93 fun g94 h95 => gappS 1 1 s92 ⟨(some ⟨g94, 0, none⟩), 1, 1⟩ h95 fun s96 h97 => exA y12.a fun g98 o99 => within y15 y12.n (exI .i64 (h97.cell ⟨g98, o99 + y15.toNat * 3 + 1, none⟩) fun x100 => gnew [Value.int .u8 (IntKind.wrap .u8 (Int.tmod (IntKind.wrap .i64 (x100 - 1)) 256))] 1 h97 fun g101 h102 => gappS 1 1 s96 ⟨(some ⟨g101, 0, none⟩), 1, 1⟩ h102 fun s103 h104 => F_ref13_Encode_l0 F_ref13_two F_ref09_Find R n y10 y11 y12 s103 (IntKind.wrap .i64 (y14 + x19)) (IntKind.wrap .i64 (y15 + 1)) h104 K0) else exA y12.a fun g105 o106 => within y15 y12.n (exI .i64 (h93.cell ⟨g105, o106 + y15.toNat * 3 + 1, none⟩) fun x107 => gnew [Value.int .u8 (IntKind.wrap .u8 (Int.tmod (IntKind.wrap .i64 (x107 - 1)) 256))] 1 h93 fun g108 h109 => gappS 1 1 s92 ⟨(some ⟨g108, 0, none⟩), 1, 1⟩ h109 fun s110 h111 => F_ref13_Encode_l0 F_ref13_two F_ref09_Find R n y10 y11 y12 s110 (IntKind.wrap .i64 (y14 + x19)) (IntKind.wrap .i64 (y15 + 1)) h111 K0))))) else exA y12.a fun g112 o113 => within y15 y12.n (exI .i64 (h.cell ⟨g112, o113 + y15.toNat * 3 + 1, none⟩) fun x114 => (bif x19 == 0 then (bif (IntKind.wrap .i64 ((IntKind.wrap .i64 (x19 - 3)) + (IntKind.wrap .i64 (y11 * (IntKind.wrap .i64 (Int.tdiv (IntKind.wrap .i64 (x114 - 1)) 256)))))) == 0 then F_ref13_Encode_l1 F_ref13_two F_ref09_Find R R y10 y11 y12 y13 y14 y15 1 y14 h (fun w115 w116 w117 w118 w119 w120 w121 h122 => F_ref13_Encode_l0 F_ref13_two F_ref09_Find R n w115 w116 w117 w118 (IntKind.wrap .i64 (w119 + w121)) (IntKind.wrap .i64 (w120 + 1)) h122 K0) else gnew [Value.int .u8 144, Value.int .u8 (IntKind.wrap .u8 (IntKind.wrap .i64 ((IntKind.wrap .i64 (x19 - 3)) + (IntKind.wrap .i64 (y11 * (IntKind.wrap .i64 (Int.tdiv (IntKind.wrap .i64 (x114 - 1)) 256)))))))] 1 h fun g123 h124 => gappS 1 1 y13 ⟨(some ⟨g123, 0, none⟩), 2, 2⟩ h124 fun s125 h126 => (bif decide ((IntKind.wrap .i64 (1 - 3)) ≥ (IntKind.wrap .i64 (y11 - 1))) then gnew [Value.int .u8 (IntKind.wrap .u8 (IntKind.wrap .i64 ((IntKind.wrap .i64 (1 - 3)) - (IntKind.wrap .i64 (y11 - 1)))))] 1 h126 fun g127 h128 => gappS 1 1 s125 ⟨(some ⟨g127, 0, none⟩), 1, 1⟩ h128 fun s129 h130 => exA y12.a fun g131 o132 => within y15 y12.n (exI .i64 (h130.cell ⟨g131, o132 + y15.toNat * 3 + 1, none⟩) fun x133 => gnew [Value.int .u8 (IntKind.wrap .u8 (Int.tmod (IntKind.wrap .i64 (x133 - 1)) 256))] 1 h130 fun g134 h135 => gappS 1 1 s129 ⟨(some ⟨g134, 0, none⟩), 1, 1⟩ h135 fun s136 h137 => F_ref13_Encode_l0 F_ref13_two F_ref09_Find R n y10 y11 y12 s136 (IntKind.wrap .i64 (y14 + 1)) (IntKind.wrap .i64 (y15 + 1)) h137 K0) else exA y12.a fun g138 o139 => within y15 y12.n (exI .i64 (h126.cell ⟨g138, o139 + y15.toNat * 3 + 1, none⟩) fun x140 => gnew [Value.int .u8 (IntKind.wrap .u8 (Int.tmod (IntKind.wrap .i64 (x140 - 1)) 256))] 1 h126 fun g141 h142 => gappS 1 1 s125 ⟨(some ⟨g141, 0, none⟩), 1, 1⟩ h142 fun s143 h144 => F_ref13_Encode_l0 F_ref13_two F_ref09_Find R n y10 y11 y12 s143 (IntKind.wrap .i64 (y14 + 1)) (IntKind.wrap .i64 (y15 + 1)) h144 K0))) else (bif (IntKind.wrap .i64 ((IntKind.wrap .i64 (x19 - 3)) + (IntKind.wrap .i64 (y11 * (IntKind.wrap .i64 (Int.tdiv (IntKind.wrap .i64 (x114 - 1)) 256)))))) == 0 then F_ref13_Encode_l1 F_ref13_two F_ref09_Find R R y10 y11 y12 y13 y14 y15 x19 y14 h (fun w145 w146 w147 w148 w149 w150 w151 h152 => F_ref13_Encode_l0 F_ref13_two F_ref09_Find R n w145 w146 w147 w148 (IntKind.wrap .i64 (w149 + w151)) (IntKind.wrap .i64 (w150 + 1)) h152 K0) else gnew [Value.int .u8 144, Value.int .u8 (IntKind.wrap .u8 (IntKind.wrap .i64 ((IntKind.wrap .i64 (x19 - 3)) + (IntKind.wrap .i64 (y11 * (IntKind.wrap .i64 (Int.tdiv (IntKind.wrap .i64 (x114 - 1)) 256)))))))] 1 h fun g153 h154 => gappS 1 1 y13 ⟨(some ⟨g153, 0, none⟩), 2, 2⟩ h154 fun s155 h156 => (bif decide ((IntKind.wrap .i64 (x19 - 3)) ≥ (IntKind.wrap .i64 (y11 - 1))) then gnew [Value.int .u8 (IntKind.wrap .u8 (IntKind.wrap .i64 ((IntKind.wrap .i64 (x19 - 3)) - (IntKind.wrap .i64 (y11 - 1)))))] 1 h156 fun g157 h158 => gappS 1 1 s155 ⟨(some ⟨g157, 0, none⟩), 1, 1⟩ h158 fun s159 h160 => exA y12.a fun g161 o162 => within y15 y12.n (exI .i64 (h160.cell ⟨g161, o162 + y15.toNat * 3 + 1, none⟩) fun x163 => gnew [Value.int .u8 (IntKind.wrap .u8 (Int.tmod (IntKind.wrap .i64 (x163 - 1)) 256))] 1 h160 fun g164 h165 => gappS 1 1 s159 ⟨(some ⟨g164, 0, none⟩), 1, 1⟩ h165 fun s166 h167 => F_ref13_Encode_l0 F_ref13_two F_ref09_Find R n y10 y11 y12 s166 (IntKind.wrap .i64 (y14 + x19)) (IntKind.wrap .i64 (y15 + 1)) h167 K0) else exA y12.a fun g168 o169 => within y15 y12.n (exI .i64 (h156.cell ⟨g168, o169 + y15.toNat * 3 + 1, none⟩) fun x170 => gnew [Value.int .u8 (IntKind.wrap .u8 (Int.tmod (IntKind.wrap .i64 (x170 - 1)) 256))] 1 h156 fun g171 h172 => gappS 1 1 s155 ⟨(some ⟨g171, 0, none⟩), 1, 1⟩ h172 fun s173 h174 => F_ref13_Encode_l0 F_ref13_two F_ref09_Find R n y10 y11 y12 s173 (IntKind.wrap .i64 (y14 + x19)) (IntKind.wrap .i64 (y15 + 1)) h174 K0)))))) else (bif x19 == 0 then (bif (0 : Int) == 0 then F_ref13_Encode_l1 F_ref13_two F_ref09_Find R R y10 y11 y12 y13 y14 y15 1 y14 h (fun w175 w176 w177 w178 w179 w180 w181 h182 => F_ref13_Encode_l0 F_ref13_two F_ref09_Find R n w175 w176 w177 w178 (IntKind.wrap .i64 (w179 + w181)) (IntKind.wrap .i64 (w180 + 1)) h182 K0) else gnew [Value.int .u8 144, Value.int .u8 (IntKind.wrap .u8 0)] 1 h fun g183 h184 => gappS 1 1 y13 ⟨(some ⟨g183, 0, none⟩), 2, 2⟩ h184 fun s185 h186 => (bif decide ((IntKind.wrap .i64 (1 - 3)) ≥ (IntKind.wrap .i64 (y11 - 1))) then gnew [Value.int .u8 (IntKind.wrap .u8 (IntKind.wrap .i64 ((IntKind.wrap .i64 (1 - 3)) - (IntKind.wrap .i64 (y11 - 1)))))] 1 h186 fun g187 h188 => gappS 1 1 s185 ⟨(some ⟨g187, 0, none⟩), 1, 1⟩ h188 fun s189 h190 => exA y12.a fun g191 o192 => within y15 y12.n (exI .i64 (h190.cell ⟨g191, o192 + y15.toNat * 3 + 1, none⟩) fun x193 => gnew [Value.int .u8 (IntKind.wrap .u8 (Int.tmod (IntKind.wrap .i64 (x193 - 1)) 256))] 1 h190 fun g194 h195 => gappS 1 1 s189 ⟨(some ⟨g194, 0, none⟩), 1, 1⟩ h195 fun s196 h197 => F_ref13_Encode_l0 F_ref13_two F_ref09_Find R n y10 y11 y12 s196 (IntKind.wrap .i64 (y14 + 1)) (IntKind.wrap .i64 (y15 + 1)) h197 K0) else exA y12.a fun g198 o199 => within y15 y12.n (exI .i64 (h186.cell ⟨g198, o199 + y15.toNat * 3 + 1, none⟩) fun x200 => gnew [Value.int .u8 (IntKind.wrap .u8 (Int.tmod (IntKind.wrap .i64 (x200 - 1)) 256))] 1 h186 fun g201 h202 => gappS 1 1 s185 ⟨(some ⟨g201, 0, none⟩), 1, 1⟩ h202 fun s203 h204 => F_ref13_Encode_l0 F_ref13_two F_ref09_Find R n y10 y11 y12 s203 (IntKind.wrap .i64 (y14 + 1)) (IntKind.wrap .i64 (y15 + 1)) h204 K0))) else (bif (0 : Int) == 0 then F_ref13_Encode_l1 F_ref13_two F_ref09_Find R R y10 y11 y12 y13 y14 y15 x19 y14 h (fun w205 w206 w207 w208 w209 w210 w211 h212 => F_ref13_Encode_l0 F_ref13_two F_ref09_Find R n w205 w206 w207 w208 (IntKind.wrap .i64 (w209 + w211)) (IntKind.wrap .i64 (w210 + 1)) h212 K0) else gnew [Value.int .u8 144, Value.int .u8 (IntKind.wrap .u8 0)] 1 h fun g213 h214 => gappS 1 1 y13 ⟨(some ⟨g213, 0, none⟩), 2, 2⟩ h214 fun s215 h216 => (bif decide ((IntKind.wrap .i64 (x19 - 3)) ≥ (IntKind.wrap .i64 (y11 - 1))) then gnew [Value.int .u8 (IntKind.wrap .u8 (IntKind.wrap .i64 ((IntKind.wrap .i64 (x19 - 3)) - (IntKind.wrap .i64 (y11 - 1)))))] 1 h216 fun g217 h218 => gappS 1 1 s215 ⟨(some ⟨g217, 0, none⟩), 1, 1⟩ h218 fun s219 h220 => exA y12.a fun g221 o222 => within y15 y12.n (exI .i64 (h220.cell ⟨g221, o222 + y15.toNat * 3 + 1, none⟩) fun x223 => gnew [Value.int .u8 (IntKind.wrap .u8 (Int.tmod (IntKind.wrap .i64 (x223 - 1)) 256))] 1 h220 fun g224 h225 => gappS 1 1 s219 ⟨(some ⟨g224, 0, none⟩), 1, 1⟩ h225 fun s226 h227 => F_ref13_Encode_l0 F_ref13_two F_ref09_Find R n y10 y11 y12 s226 (IntKind.wrap .i64 (y14 + x19)) (IntKind.wrap .i64 (y15 + 1)) h227 K0) else exA y12.a fun g228 o229 => within y15 y12.n (exI .i64 (h216.cell ⟨g228, o229 + y15.toNat * 3 + 1, none⟩) fun x230 => gnew [Value.int .u8 (IntKind.wrap .u8 (Int.tmod (IntKind.wrap .i64 (x230 - 1)) 256))] 1 h216 fun g231 h232 => gappS 1 1 s215 ⟨(some ⟨g231, 0, none⟩), 1, 1⟩ h232 fun s233 h234 => F_ref13_Encode_l0 F_ref13_two F_ref09_Find R n y10 y11 y12 s233 (IntKind.wrap .i64 (y14 + x19)) (IntKind.wrap .i64 (y15 + 1)) h234 K0)))))) else K0 y13 h) := by kernel_rfl
noncomputable def G_ref13_Encode (F_ref13_two : Int → GH → (Int → GH → Option β) → Option β) (F_ref09_Find : Sl → Int → Int → Int → Int → Bool → GH → (Sl → Int → GH → Option β) → Option β) (R : Nat) (a1 : Sl) (a2 : Int) (h : GH) (K : Sl → Int → GH → Option β) : Option β := gfun Try.prog (CF_ref13_Encode F_ref13_two F_ref09_Find) HF_ref13_Encode R Try.f23 [Value.slice a1.a a1.n a1.c, Value.int .i64 a2] h (fun v h' => exTup 2 v fun vs => exV (nth vs 0) fun v0 => exS (some v0) fun u247 => exV (nth vs 1) fun v1 => exI .i64 (some v1) fun u248 => K u247 u248 h')
set_option maxRecDepth 100000 in
theorem F_ref13_Encode_gen (F_ref13_two : Int → GH → (Int → GH → Option β) → Option β) (F_ref09_Find : Sl → Int → Int → Int → Int → Bool → GH → (Sl → Int → GH → Option β) → Option β) (R : Nat) (a1 : Sl) (a2 : Int) (h : GH) (K : Sl → Int → GH → Option β) : G_ref13_Encode F_ref13_two F_ref09_Find R a1 a2 h K =
    (bif decide (a2 < 1) then K ⟨none, 0, 0⟩ 2 h else (bif decide (a2 > 4) then K ⟨none, 0, 0⟩ 2 h else F_ref13_two (IntKind.wrap .i64 (8 - a2)) h fun r3 h4 => F_ref13_two a2 h4 fun r5 h6 => F_ref09_Find a1 (IntKind.wrap .i64 (256 * r5)) 3 (IntKind.wrap .i64 (r3 + 257)) 64 true h6 fun r7 r8 h9 => F_ref13_Encode_l0 F_ref13_two F_ref09_Find R R a1 r3 r7 ⟨none, 0, 0⟩ 0 0 h9 (fun w235 h236 => K w235 0 h236))) := by kernel_rfl
noncomputable def F_ref13_Encode (R : Nat) (a1 : Sl) (a2 : Int) (h : GH) (K : Sl → Int → GH → Option β) : Option β := G_ref13_Encode (F_ref13_two R) (F_ref09_Find R) R a1 a2 h K
set_option maxRecDepth 100000 in
theorem CF_ref13_Encode_sim {R : Nat} : SimOrc Try.prog (CF_ref13_Encode (F_ref13_two R) (F_ref09_Find R) (β := β)) := by
  intro f args h K r hc
  unfold CF_ref13_Encode at hc
  cases hb : Nat.beq f 52 with
  | true =>
    rw [hb] at hc
    simp only [cond_true] at hc
    obtain rfl := Nat.eq_of_beq_eq_true hb
    split at hc
    · exact any_call (F_ref13_two_sim (K := K) hc)
    · cases hc
  | false =>
  rw [hb] at hc
  simp only [cond_false] at hc
  cases hb : Nat.beq f 53 with
  | true =>
    rw [hb] at hc
    simp only [cond_true] at hc
    obtain rfl := Nat.eq_of_beq_eq_true hb
    split at hc
    · exact any_call (F_ref09_Find_sim (K := K) hc)
    · cases hc
  | false =>
  rw [hb] at hc
  simp only [cond_false] at hc
  cases hc
set_option maxRecDepth 100000 in
theorem F_ref13_Encode_sim {R : Nat} {r : β} {a1 : Sl} {a2 : Int} {h : GH} {K : Value → GH → Option β} (hc : F_ref13_Encode R a1 a2 h (fun q0 q1 h' => K (Value.tuple #[Value.slice q0.a q0.n q0.c, Value.int .i64 q1]) h') = some r) : ∃ v h', K v h' = some r ∧ CallSim Try.prog 23 [Value.slice a1.a a1.n a1.c, Value.int .i64 a2] h v h' := by
  unfold F_ref13_Encode G_ref13_Encode at hc
  obtain ⟨v, h', hk, hs⟩ := gfun_sim (CF_ref13_Encode_sim (R := R)) mixed_ok (fun f h => by cases h) Try.func23 (by kernel_rfl) hc
  obtain ⟨vs, rfl, hl, hk⟩ := exTup_v hk
  obtain ⟨v0, t0, hk⟩ := exV_v hk
  obtain ⟨u0, e0, hk⟩ := exS_v hk; cases e0
  obtain ⟨v1, t1, hk⟩ := exV_v hk
  obtain ⟨u1, e1, hk⟩ := exI_v hk; cases e1
  obtain rfl := arr2 hl t0 t1
  exact ⟨_, h', hk, hs⟩
/-! F80 duffel/duffelref12.behind -/
def CF_ref12_behind  : Orc β := fun f args h K => none
def HF_ref12_behind : Hints := ⟨[(4, [0, 1, 4, 5, 6, 7], [(0, [(4, .ty 15), (5, .ty 15)])], none)], [], []⟩
noncomputable def BF_ref12_behind : Code := match Try.f80.body with | some c => c | none => .skip
noncomputable def F_ref12_behind_l0  (R : Nat) (n : Nat) (y7 : Sl) (y8 : Int) (y9 : Option Addr) (y10 : Option Addr) (y11 : Int) (y12 : Int) (h : GH) (K0 : Option Addr → Option Addr → GH → Option β) : Option β := gloop (gcode Try.prog (CF_ref12_behind ) Try.f80.ntmps HF_ref12_behind R (at_ [true, true, true, false, true, false, false] BF_ref12_behind)) [0, 1, 4, 5, 6, 7] n [(0, Value.slice y7.a y7.n y7.c), (1, Value.int .u8 y8), (4, Value.pointer y9), (5, Value.pointer y10), (6, Value.int .u8 y11), (7, Value.int .i64 y12)] h (fun i e' h' => bif Nat.beq i 0 then (exP (some (e'.get 4)) fun u46 => exP (some (e'.get 5)) fun u47 => K0 u46 u47 h') else none) (fun e' h' => none)
set_option maxRecDepth 100000 in
theorem F_ref12_behind_l0_succ  (R : Nat) (n : Nat) (y7 : Sl) (y8 : Int) (y9 : Option Addr) (y10 : Option Addr) (y11 : Int) (y12 : Int) (h : GH) (K0 : Option Addr → Option Addr → GH → Option β) : F_ref12_behind_l0  R (n + 1) y7 y8 y9 y10 y11 y12 h K0 =
    (bif decide (y12 < ((y7.n : Nat) : Int)) then (bif y11 == y8 then exA y7.a fun g15 o16 => within y12 y7.n (exI .u8 (h.cell ⟨g15, o16 + y12.toNat * 1, none⟩) fun x17 => exA y7.a fun g18 o19 => within y12 y7.n (exI .u8 (h.cell ⟨g18, o19 + y12.toNat * 1, none⟩) fun x20 => exA y10 fun g21 o22 => within x20 256 (exI .i64 (h.cell ⟨g21, o22 + x20.toNat * 1, none⟩) fun x23 => exA y10 fun g24 o25 => within x17 256 (gput g24 (o25 + x17.toNat * 1) [Value.int .i64 (IntKind.wrap .i64 (x23 + 1))] h fun h26 => exA y7.a fun g27 o28 => within y12 y7.n (exI .u8 (h26.cell ⟨g27, o28 + y12.toNat * 1, none⟩) fun x29 => F_ref12_behind_l0 R n y7 y8 y9 y10 x29 (IntKind.wrap .i64 (y12 + 1)) h26 K0))))) else exA y7.a fun g30 o31 => within y12 y7.n (exI .u8 (h.cell ⟨g30, o31 + y12.toNat * 1, none⟩) fun x32 => F_ref12_behind_l0 R n y7 y8 y9 y10 x32 (IntKind.wrap .i64 (y12 + 1)) h K0)) else K0 y9 y10 h) := by kernel_rfl
noncomputable def G_ref12_behind  (R : Nat) (a1 : Sl) (a2 : Int) (h : GH) (K : List Value → GH → Option β) : Option β := gfun Try.prog (CF_ref12_behind ) HF_ref12_behind R Try.f80 [Value.slice a1.a a1.n a1.c, Value.int .u8 a2] h (fun v h' => exAg v fun c48 => (bif Nat.beq c48.length 256 then K c48 h' else none))
set_option maxRecDepth 100000 in
theorem F_ref12_behind_gen  (R : Nat) (a1 : Sl) (a2 : Int) (h : GH) (K : List Value → GH → Option β) : G_ref12_behind  R a1 a2 h K =
    gnew Z92 0 h fun g3 h4 => gnew Z92 0 h4 fun g5 h6 => F_ref12_behind_l0 R R a1 a2 (some ⟨g3, 0, none⟩) (some ⟨g5, 0, none⟩) 0 0 h6 (fun w33 w34 h35 => exA w34 fun g36 o37 => exL (nsub (rowCells (h35.look g36)) (o37) 256) fun x38 => (bif Nat.beq (x38).length 256 then exA w33 fun g39 o40 => gput g39 (o40) x38 h35 fun h41 => exA w33 fun g42 o43 => exL (nsub (rowCells (h41.look g42)) (o43) 256) fun x44 => (bif Nat.beq (x44).length 256 then K x44 h41 else none) else none)) := by kernel_rfl
noncomputable def F_ref12_behind (R : Nat) (a1 : Sl) (a2 : Int) (h : GH) (K : List Value → GH → Option β) : Option β := G_ref12_behind  R a1 a2 h K
theorem CF_ref12_behind_sim : SimOrc Try.prog (CF_ref12_behind (β := β)) := by
  intro f args h K r hc
  cases hc
set_option maxRecDepth 100000 in
theorem F_ref12_behind_sim {R : Nat} {r : β} {a1 : Sl} {a2 : Int} {h : GH} {K : Value → GH → Option β} (hc : F_ref12_behind R a1 a2 h (fun q0 h' => K (Value.agg (q0).toArray) h') = some r) : ∃ v h', K v h' = some r ∧ CallSim Try.prog 80 [Value.slice a1.a a1.n a1.c, Value.int .u8 a2] h v h' := by
  unfold F_ref12_behind G_ref12_behind at hc
  obtain ⟨v, h', hk, hs⟩ := gfun_sim CF_ref12_behind_sim mixed_ok (fun f h => by cases h) Try.func80 (by kernel_rfl) hc
  obtain ⟨cs0, f0, hk⟩ := exAg_v hk; cases f0; obtain ⟨hl0, hk⟩ := beq_v hk
  exact ⟨_, h', hk, hs⟩
/-! F57 duffel/duffelref12.at -/
def CF_ref12_at  : Orc β := fun f args h K => none
def HF_ref12_at : Hints := ⟨[(2, [0, 1, 5], [(0, [])], some [(4, .ty 3)])], [], []⟩
noncomputable def BF_ref12_at : Code := match Try.f57.body with | some c => c | none => .skip
noncomputable def F_ref12_at_l0  (R : Nat) (n : Nat) (y3 : Sl) (y4 : Int) (y5 : Int) (h : GH) (K0 : GH → Option β) (Kr : Int → GH → Option β) : Option β := gloop (gcode Try.prog (CF_ref12_at ) Try.f57.ntmps HF_ref12_at R (at_ [true, false, true, false, false] BF_ref12_at)) [0, 1, 5] n [(0, Value.slice y3.a y3.n y3.c), (1, Value.int .u8 y4), (5, Value.int .i64 y5)] h (fun i e' h' => bif Nat.beq i 0 then (K0 h') else none) (fun e' h' => exI .i64 (some (e'.get 4)) fun u14 => Kr u14 h')
set_option maxRecDepth 100000 in
theorem F_ref12_at_l0_succ  (R : Nat) (n : Nat) (y3 : Sl) (y4 : Int) (y5 : Int) (h : GH) (K0 : GH → Option β) (Kr : Int → GH → Option β) : F_ref12_at_l0  R (n + 1) y3 y4 y5 h K0 Kr =
    (bif decide (y5 < ((y3.n : Nat) : Int)) then exA y3.a fun g7 o8 => within y5 y3.n (exI .u8 (h.cell ⟨g7, o8 + y5.toNat * 1, none⟩) fun x9 => (bif x9 == y4 then Kr y5 h else F_ref12_at_l0 R n y3 y4 (IntKind.wrap .i64 (y5 + 1)) h K0 Kr)) else K0 h) := by kernel_rfl
noncomputable def G_ref12_at  (R : Nat) (a1 : Sl) (a2 : Int) (h : GH) (K : Int → GH → Option β) : Option β := gfun Try.prog (CF_ref12_at ) HF_ref12_at R Try.f57 [Value.slice a1.a a1.n a1.c, Value.int .u8 a2] h (fun v h' => exI .i64 (some v) fun u15 => K u15 h')
set_option maxRecDepth 100000 in
theorem F_ref12_at_gen  (R : Nat) (a1 : Sl) (a2 : Int) (h : GH) (K : Int → GH → Option β) : G_ref12_at  R a1 a2 h K =
    F_ref12_at_l0 R R a1 a2 0 h (fun h10 => K (-1) h10) (fun w11 h12 => K w11 h12) := by kernel_rfl
noncomputable def F_ref12_at (R : Nat) (a1 : Sl) (a2 : Int) (h : GH) (K : Int → GH → Option β) : Option β := G_ref12_at  R a1 a2 h K
theorem CF_ref12_at_sim : SimOrc Try.prog (CF_ref12_at (β := β)) := by
  intro f args h K r hc
  cases hc
set_option maxRecDepth 100000 in
theorem F_ref12_at_sim {R : Nat} {r : β} {a1 : Sl} {a2 : Int} {h : GH} {K : Value → GH → Option β} (hc : F_ref12_at R a1 a2 h (fun q0 h' => K (Value.int .i64 q0) h') = some r) : ∃ v h', K v h' = some r ∧ CallSim Try.prog 57 [Value.slice a1.a a1.n a1.c, Value.int .u8 a2] h v h' := by
  unfold F_ref12_at G_ref12_at at hc
  obtain ⟨v, h', hk, hs⟩ := gfun_sim CF_ref12_at_sim mixed_ok (fun f h => by cases h) Try.func57 (by kernel_rfl) hc
  obtain ⟨u0, e0, hk⟩ := exI_v hk; cases e0
  exact ⟨_, h', hk, hs⟩
/-! F58 duffel/duffelref12.Width -/
def CF_ref12_Width  : Orc β := fun f args h K => none
def HF_ref12_Width : Hints := ⟨[(4, [0, 3, 4], [(0, [(3, .ty 3)])], none)], [], []⟩
noncomputable def BF_ref12_Width : Code := match Try.f58.body with | some c => c | none => .skip
noncomputable def F_ref12_Width_l0  (R : Nat) (n : Nat) (y2 : Int) (y3 : Int) (y4 : Int) (h : GH) (K0 : Int → GH → Option β) : Option β := gloop (gcode Try.prog (CF_ref12_Width ) Try.f58.ntmps HF_ref12_Width R (at_ [true, true, true, false, false, false] BF_ref12_Width)) [0, 3, 4] n [(0, Value.int .i64 y2), (3, Value.int .i64 y3), (4, Value.int .i64 y4)] h (fun i e' h' => bif Nat.beq i 0 then (exI .i64 (some (e'.get 3)) fun u9 => K0 u9 h') else none) (fun e' h' => none)
set_option maxRecDepth 100000 in
theorem F_ref12_Width_l0_succ  (R : Nat) (n : Nat) (y2 : Int) (y3 : Int) (y4 : Int) (h : GH) (K0 : Int → GH → Option β) : F_ref12_Width_l0  R (n + 1) y2 y3 y4 h K0 =
    (bif decide (y4 < y2) then F_ref12_Width_l0 R n y2 (IntKind.wrap .i64 (y3 + 1)) (IntKind.wrap .i64 (y4 * 2)) h K0 else K0 y3 h) := by kernel_rfl
noncomputable def G_ref12_Width  (R : Nat) (a1 : Int) (h : GH) (K : Int → GH → Option β) : Option β := gfun Try.prog (CF_ref12_Width ) HF_ref12_Width R Try.f58 [Value.int .i64 a1] h (fun v h' => exI .i64 (some v) fun u10 => K u10 h')
set_option maxRecDepth 100000 in
theorem F_ref12_Width_gen  (R : Nat) (a1 : Int) (h : GH) (K : Int → GH → Option β) : G_ref12_Width  R a1 h K =
    (bif decide (a1 < 1) then K 0 h else (bif decide (a1 > 32) then K 0 h else F_ref12_Width_l0 R R a1 1 2 h (fun w6 h7 => K w6 h7))) := by kernel_rfl
noncomputable def F_ref12_Width (R : Nat) (a1 : Int) (h : GH) (K : Int → GH → Option β) : Option β := G_ref12_Width  R a1 h K
theorem CF_ref12_Width_sim : SimOrc Try.prog (CF_ref12_Width (β := β)) := by
  intro f args h K r hc
  cases hc
set_option maxRecDepth 100000 in
theorem F_ref12_Width_sim {R : Nat} {r : β} {a1 : Int} {h : GH} {K : Value → GH → Option β} (hc : F_ref12_Width R a1 h (fun q0 h' => K (Value.int .i64 q0) h') = some r) : ∃ v h', K v h' = some r ∧ CallSim Try.prog 58 [Value.int .i64 a1] h v h' := by
  unfold F_ref12_Width G_ref12_Width at hc
  obtain ⟨v, h', hk, hs⟩ := gfun_sim CF_ref12_Width_sim mixed_ok (fun f h => by cases h) Try.func58 (by kernel_rfl) hc
  obtain ⟨u0, e0, hk⟩ := exI_v hk; cases e0
  exact ⟨_, h', hk, hs⟩
/-! F81 duffel/duffelref12.Cost -/
def CF_ref12_Cost (F_ref12_at : Sl → Int → GH → (Int → GH → Option β) → Option β) (F_ref12_Width : Int → GH → (Int → GH → Option β) → Option β) : Orc β := fun f args h K => bif Nat.beq f 57 then (match args with | [.slice p1a p1n p1c, .int .u8 p2] => F_ref12_at ⟨p1a, p1n, p1c⟩ p2 h (fun q13 h' => K (Value.int .i64 q13) h') | _ => none) else (bif Nat.beq f 58 then (match args with | [.int .i64 p1] => F_ref12_Width p1 h (fun q8 h' => K (Value.int .i64 q8) h') | _ => none) else none)
def HF_ref12_Cost : Hints := ⟨[(3, [1, 2, 5, 6], [(0, [(5, .ty 3)])], none)], [], []⟩
noncomputable def BF_ref12_Cost : Code := match Try.f81.body with | some c => c | none => .skip
noncomputable def F_ref12_Cost_l0 (F_ref12_at : Sl → Int → GH → (Int → GH → Option β) → Option β) (F_ref12_Width : Int → GH → (Int → GH → Option β) → Option β) (R : Nat) (n : Nat) (y5 : Sl) (y6 : Option Addr) (y7 : Int) (y8 : Int) (h : GH) (K0 : Int → GH → Option β) : Option β := gloop (gcode Try.prog (CF_ref12_Cost F_ref12_at F_ref12_Width) Try.f81.ntmps HF_ref12_Cost R (at_ [true, true, false, true, false, false] BF_ref12_Cost)) [1, 2, 5, 6] n [(1, Value.slice y5.a y5.n y5.c), (2, Value.pointer y6), (5, Value.int .i64 y7), (6, Value.int .i64 y8)] h (fun i e' h' => bif Nat.beq i 0 then (exI .i64 (some (e'.get 5)) fun u26 => K0 u26 h') else none) (fun e' h' => none)
set_option maxRecDepth 100000 in
theorem F_ref12_Cost_l0_succ (F_ref12_at : Sl → Int → GH → (Int → GH → Option β) → Option β) (F_ref12_Width : Int → GH → (Int → GH → Option β) → Option β) (R : Nat) (n : Nat) (y5 : Sl) (y6 : Option Addr) (y7 : Int) (y8 : Int) (h : GH) (K0 : Int → GH → Option β) : F_ref12_Cost_l0 F_ref12_at F_ref12_Width R (n + 1) y5 y6 y7 y8 h K0 =
    (bif decide (y8 < 256) then (bif ((y5.n : Nat) : Int) == 0 then exA y6 fun g10 o11 => within y8 256 (exI .i64 (h.cell ⟨g10, o11 + y8.toNat * 1, none⟩) fun x12 => F_ref12_Cost_l0 F_ref12_at F_ref12_Width R n y5 y6 (IntKind.wrap .i64 (y7 + (IntKind.wrap .i64 (8 * x12)))) (IntKind.wrap .i64 (y8 + 1)) h K0) else F_ref12_at y5 (IntKind.wrap .u8 y8) h fun r13 h14 => (bif decide (r13 ≥ 0) then exA y6 fun g15 o16 => within y8 256 (exI .i64 (h14.cell ⟨g15, o16 + y8.toNat * 1, none⟩) fun x17 => F_ref12_Width ((y5.n : Nat) : Int) h14 fun r18 h19 => (bif sameAt g15 (o16 + y8.toNat * 1) 1 h14 h19 then F_ref12_Cost_l0 F_ref12_at F_ref12_Width R n y5 y6 (IntKind.wrap .i64 (y7 + (IntKind.wrap .i64 (x17 * (IntKind.wrap .i64 (1 + r18)))))) (IntKind.wrap .i64 (y8 + 1)) h19 K0 else none)) else exA y6 fun g20 o21 => within y8 256 (exI .i64 (h14.cell ⟨g20, o21 + y8.toNat * 1, none⟩) fun x22 => F_ref12_Cost_l0 F_ref12_at F_ref12_Width R n y5 y6 (IntKind.wrap .i64 (y7 + (IntKind.wrap .i64 (9 * x22)))) (IntKind.wrap .i64 (y8 + 1)) h14 K0))) else K0 y7 h) := by kernel_rfl
noncomputable def G_ref12_Cost (F_ref12_at : Sl → Int → GH → (Int → GH → Option β) → Option β) (F_ref12_Width : Int → GH → (Int → GH → Option β) → Option β) (R : Nat) (a1 : List Value) (a2 : Sl) (h : GH) (K : Int → GH → Option β) : Option β := gfun Try.prog (CF_ref12_Cost F_ref12_at F_ref12_Width) HF_ref12_Cost R Try.f81 [Value.agg (a1).toArray, Value.slice a2.a a2.n a2.c] h (fun v h' => exI .i64 (some v) fun u27 => K u27 h')
set_option maxRecDepth 100000 in
theorem F_ref12_Cost_gen (F_ref12_at : Sl → Int → GH → (Int → GH → Option β) → Option β) (F_ref12_Width : Int → GH → (Int → GH → Option β) → Option β) (R : Nat) (a1 : List Value) (a2 : Sl) (h : GH) (K : Int → GH → Option β) : G_ref12_Cost F_ref12_at F_ref12_Width R a1 a2 h K =
    gnew a1 0 h fun g3 h4 => F_ref12_Cost_l0 F_ref12_at F_ref12_Width R R a2 (some ⟨g3, 0, none⟩) (IntKind.wrap .i64 (8 * ((a2.n : Nat) : Int))) 0 h4 (fun w23 h24 => K w23 h24) := by kernel_rfl
noncomputable def F_ref12_Cost (R : Nat) (a1 : List Value) (a2 : Sl) (h : GH) (K : Int → GH → Option β) : Option β := G_ref12_Cost (F_ref12_at R) (F_ref12_Width R) R a1 a2 h K
set_option maxRecDepth 100000 in
theorem CF_ref12_Cost_sim {R : Nat} : SimOrc Try.prog (CF_ref12_Cost (F_ref12_at R) (F_ref12_Width R) (β := β)) := by
  intro f args h K r hc
  unfold CF_ref12_Cost at hc
  cases hb : Nat.beq f 57 with
  | true =>
    rw [hb] at hc
    simp only [cond_true] at hc
    obtain rfl := Nat.eq_of_beq_eq_true hb
    split at hc
    · exact any_call (F_ref12_at_sim (K := K) hc)
    · cases hc
  | false =>
  rw [hb] at hc
  simp only [cond_false] at hc
  cases hb : Nat.beq f 58 with
  | true =>
    rw [hb] at hc
    simp only [cond_true] at hc
    obtain rfl := Nat.eq_of_beq_eq_true hb
    split at hc
    · exact any_call (F_ref12_Width_sim (K := K) hc)
    · cases hc
  | false =>
  rw [hb] at hc
  simp only [cond_false] at hc
  cases hc
set_option maxRecDepth 100000 in
theorem F_ref12_Cost_sim {R : Nat} {r : β} {a1 : List Value} {a2 : Sl} {h : GH} {K : Value → GH → Option β} (hc : F_ref12_Cost R a1 a2 h (fun q0 h' => K (Value.int .i64 q0) h') = some r) : ∃ v h', K v h' = some r ∧ CallSim Try.prog 81 [Value.agg (a1).toArray, Value.slice a2.a a2.n a2.c] h v h' := by
  unfold F_ref12_Cost G_ref12_Cost at hc
  obtain ⟨v, h', hk, hs⟩ := gfun_sim (CF_ref12_Cost_sim (R := R)) mixed_ok (fun f h => by cases h) Try.func81 (by kernel_rfl) hc
  obtain ⟨u0, e0, hk⟩ := exI_v hk; cases e0
  exact ⟨_, h', hk, hs⟩
/-! F54 duffel/duffelref12.One -/
def CF_ref12_One (F_ref12_behind : Sl → Int → GH → (List Value → GH → Option β) → Option β) (F_ref12_at : Sl → Int → GH → (Int → GH → Option β) → Option β) (F_ref12_Cost : List Value → Sl → GH → (Int → GH → Option β) → Option β) : Orc β := fun f args h K => bif Nat.beq f 80 then (match args with | [.slice p1a p1n p1c, .int .u8 p2] => F_ref12_behind ⟨p1a, p1n, p1c⟩ p2 h (fun q45 h' => K (Value.agg (q45).toArray) h') | _ => none) else (bif Nat.beq f 57 then (match args with | [.slice p1a p1n p1c, .int .u8 p2] => F_ref12_at ⟨p1a, p1n, p1c⟩ p2 h (fun q13 h' => K (Value.int .i64 q13) h') | _ => none) else (bif Nat.beq f 81 then (match args with | [.agg ⟨p1⟩, .slice p2a p2n p2c] => F_ref12_Cost p1 ⟨p2a, p2n, p2c⟩ h (fun q25 h' => K (Value.int .i64 q25) h') | _ => none) else none))
def HF_ref12_One : Hints := ⟨[(4, [5, 6, 7], [(0, [(5, .ty 15), (6, .ty 22)])], none), (8, [5, 6, 7, 8, 9], [(2, [(5, .ty 15), (6, .ty 22), (7, .ty 3), (8, .ty 3)])], none), (16, [5, 6, 10, 11], [(4, [(6, .ty 22), (10, .ty 3)])], none)], [], []⟩
noncomputable def BF_ref12_One : Code := match Try.f54.body with | some c => c | none => .skip
noncomputable def F_ref12_One_l0 (F_ref12_behind : Sl → Int → GH → (List Value → GH → Option β) → Option β) (F_ref12_at : Sl → Int → GH → (Int → GH → Option β) → Option β) (F_ref12_Cost : List Value → Sl → GH → (Int → GH → Option β) → Option β) (R : Nat) (n : Nat) (y8 : Option Addr) (y9 : Sl) (y10 : Int) (h : GH) (K0 : Option Addr → Sl → GH → Option β) : Option β := gloop (gcode Try.prog (CF_ref12_One F_ref12_behind F_ref12_at F_ref12_Cost) Try.f54.ntmps HF_ref12_One R (at_ [true, true, true, false, true, false, false] BF_ref12_One)) [5, 6, 7] n [(5, Value.pointer y8), (6, Value.slice y9.a y9.n y9.c), (7, Value.int .i64 y10)] h (fun i e' h' => bif Nat.beq i 0 then (exP (some (e'.get 5)) fun u70 => exS (some (e'.get 6)) fun u71 => K0 u70 u71 h') else none) (fun e' h' => none)
noncomputable def F_ref12_One_l1 (F_ref12_behind : Sl → Int → GH → (List Value → GH → Option β) → Option β) (F_ref12_at : Sl → Int → GH → (Int → GH → Option β) → Option β) (F_ref12_Cost : List Value → Sl → GH → (Int → GH → Option β) → Option β) (R : Nat) (n : Nat) (y13 : Option Addr) (y14 : Sl) (y15 : Int) (y16 : Int) (y17 : Int) (h : GH) (K2 : Option Addr → Sl → Int → Int → GH → Option β) : Option β := gloop (gcode Try.prog (CF_ref12_One F_ref12_behind F_ref12_at F_ref12_Cost) Try.f54.ntmps HF_ref12_One R (at_ [true, true, true, false, true, false, false, true, false, false, true, false, true, false, false] BF_ref12_One)) [5, 6, 7, 8, 9] n [(5, Value.pointer y13), (6, Value.slice y14.a y14.n y14.c), (7, Value.int .i64 y15), (8, Value.int .i64 y16), (9, Value.int .i64 y17)] h (fun i e' h' => bif Nat.beq i 2 then (exP (some (e'.get 5)) fun u72 => exS (some (e'.get 6)) fun u73 => exI .i64 (some (e'.get 7)) fun u74 => exI .i64 (some (e'.get 8)) fun u75 => K2 u72 u73 u74 u75 h') else none) (fun e' h' => none)
noncomputable def F_ref12_One_l2 (F_ref12_behind : Sl → Int → GH → (List Value → GH → Option β) → Option β) (F_ref12_at : Sl → Int → GH → (Int → GH → Option β) → Option β) (F_ref12_Cost : List Value → Sl → GH → (Int → GH → Option β) → Option β) (R : Nat) (n : Nat) (y45 : Option Addr) (y46 : Sl) (y47 : Int) (y48 : Int) (h : GH) (K4 : Sl → Int → GH → Option β) : Option β := gloop (gcode Try.prog (CF_ref12_One F_ref12_behind F_ref12_at F_ref12_Cost) Try.f54.ntmps HF_ref12_One R (at_ [true, true, true, true, true, false, true, false, false] BF_ref12_One)) [5, 6, 10, 11] n [(5, Value.pointer y45), (6, Value.slice y46.a y46.n y46.c), (10, Value.int .i64 y47), (11, Value.int .i64 y48)] h (fun i e' h' => bif Nat.beq i 4 then (exS (some (e'.get 6)) fun u76 => exI .i64 (some (e'.get 10)) fun u77 => K4 u76 u77 h') else none) (fun e' h' => none)
set_option maxRecDepth 100000 in
theorem F_ref12_One_l2_succ (F_ref12_behind : Sl → Int → GH → (List Value → GH → Option β) → Option β) (F_ref12_at : Sl → Int → GH → (Int → GH → Option β) → Option β) (F_ref12_Cost : List Value → Sl → GH → (Int → GH → Option β) → Option β) (R : Nat) (n : Nat) (y45 : Option Addr) (y46 : Sl) (y47 : Int) (y48 : Int) (h : GH) (K4 : Sl → Int → GH → Option β) : F_ref12_One_l2 F_ref12_behind F_ref12_at F_ref12_Cost R (n + 1) y45 y46 y47 y48 h K4 =
    (bif decide (y48 ≤ ((y46.n : Nat) : Int)) then exA y45 fun g51 o52 => exL (nsub (rowCells (h.look g51)) (o52) 256) fun x53 => bnd y48 y46.c fun m54 => F_ref12_Cost x53 ⟨addO y46.a (0 * 1), m54 - 0, y46.c - 0⟩ h fun r55 h56 => exA y45 fun g57 o58 => exL (nsub (rowCells (h56.look g57)) (o58) 256) fun x59 => bnd y47 y46.c fun m60 => F_ref12_Cost x59 ⟨addO y46.a (0 * 1), m60 - 0, y46.c - 0⟩ h56 fun r61 h62 => exA y45 fun g63 o64 => (bif sameAt g63 o64 256 h h56 then (bif decide (r55 < r61) then F_ref12_One_l2 F_ref12_behind F_ref12_at F_ref12_Cost R n y45 y46 y48 (IntKind.wrap .i64 (y48 + 1)) h62 K4 else F_ref12_One_l2 F_ref12_behind F_ref12_at F_ref12_Cost R n y45 y46 y47 (IntKind.wrap .i64 (y48 + 1)) h62 K4) else none) else K4 y46 y47 h) := by kernel_rfl
set_option maxRecDepth 100000 in
theorem F_ref12_One_l1_succ (F_ref12_behind : Sl → Int → GH → (List Value → GH → Option β) → Option β) (F_ref12_at : Sl → Int → GH → (Int → GH → Option β) → Option β) (F_ref12_Cost : List Value → Sl → GH → (Int → GH → Option β) → Option β) (R : Nat) (n : Nat) (y13 : Option Addr) (y14 : Sl) (y15 : Int) (y16 : Int) (y17 : Int) (h : GH) (K2 : Option Addr → Sl → Int → Int → GH → Option β) : F_ref12_One_l1 F_ref12_behind F_ref12_at F_ref12_Cost R (n + 1) y13 y14 y15 y16 y17 h K2 =
    (bif decide (y17 < 256) then exA y13 fun g22 o23 => within y17 256 (exI .i64 (h.cell ⟨g22, o23 + y17.toNat * 1, none⟩) fun x24 => (bif decide (x24 > 0) then F_ref12_at y14 (IntKind.wrap .u8 y17) h fun r25 h26 => (bif decide (r25 < 0) then (bif decide (y16 < 0) then F_ref12_One_l1 F_ref12_behind F_ref12_at F_ref12_Cost R n y13 y14 y15 y17 (IntKind.wrap .i64 (y17 + 1)) h26 K2 else exA y13 fun g27 o28 => within y17 256 (exI .i64 (h26.cell ⟨g27, o28 + y17.toNat * 1, none⟩) fun x29 => exA y13 fun g30 o31 => within y16 256 (exI .i64 (h26.cell ⟨g30, o31 + y16.toNat * 1, none⟩) fun x32 => (bif decide (x29 > x32) then F_ref12_One_l1 F_ref12_behind F_ref12_at F_ref12_Cost R n y13 y14 y15 y17 (IntKind.wrap .i64 (y17 + 1)) h26 K2 else F_ref12_One_l1 F_ref12_behind F_ref12_at F_ref12_Cost R n y13 y14 y15 y16 (IntKind.wrap .i64 (y17 + 1)) h26 K2)))) else F_ref12_One_l1 F_ref12_behind F_ref12_at F_ref12_Cost R n y13 y14 y15 y16 (IntKind.wrap .i64 (y17 + 1)) h26 K2) else F_ref12_One_l1 F_ref12_behind F_ref12_at F_ref12_Cost R n y13 y14 y15 y16 (IntKind.wrap .i64 (y17 + 1)) h K2)) else K2 y13 y14 y15 y16 h) := by kernel_rfl
set_option maxRecDepth 100000 in
theorem F_ref12_One_l0_succ (F_ref12_behind : Sl → Int → GH → (List Value → GH → Option β) → Option β) (F_ref12_at : Sl → Int → GH → (Int → GH → Option β) → Option β) (F_ref12_Cost : List Value → Sl → GH → (Int → GH → Option β) → Option β) (R : Nat) (n : Nat) (y8 : Option Addr) (y9 : Sl) (y10 : Int) (h : GH) (K0 : Option Addr → Sl → GH → Option β) : F_ref12_One_l0 F_ref12_behind F_ref12_at F_ref12_Cost R (n + 1) y8 y9 y10 h K0 =
    (bif decide (y10 < 32) then F_ref12_One_l1 F_ref12_behind F_ref12_at F_ref12_Cost R R y8 y9 y10 (-1) 0 h (fun w33 w34 w35 w36 h37 => (bif decide (w36 ≥ 0) then gnew [Value.int .u8 (IntKind.wrap .u8 w36)] 1 h37 fun g38 h39 => gappS 1 1 w34 ⟨(some ⟨g38, 0, none⟩), 1, 1⟩ h39 fun s40 h41 => F_ref12_One_l0 F_ref12_behind F_ref12_at F_ref12_Cost R n w33 s40 (IntKind.wrap .i64 (w35 + 1)) h41 K0 else F_ref12_One_l0 F_ref12_behind F_ref12_at F_ref12_Cost R n w33 w34 (IntKind.wrap .i64 (w35 + 1)) h37 K0)) else K0 y8 y9 h) := by kernel_rfl
noncomputable def G_ref12_One (F_ref12_behind : Sl → Int → GH → (List Value → GH → Option β) → Option β) (F_ref12_at : Sl → Int → GH → (Int → GH → Option β) → Option β) (F_ref12_Cost : List Value → Sl → GH → (Int → GH → Option β) → Option β) (R : Nat) (a1 : Sl) (a2 : Int) (h : GH) (K : Sl → GH → Option β) : Option β := gfun Try.prog (CF_ref12_One F_ref12_behind F_ref12_at F_ref12_Cost) HF_ref12_One R Try.f54 [Value.slice a1.a a1.n a1.c, Value.int .u8 a2] h (fun v h' => exS (some v) fun u78 => K u78 h')
set_option maxRecDepth 100000 in
theorem F_ref12_One_gen (F_ref12_behind : Sl → Int → GH → (List Value → GH → Option β) → Option β) (F_ref12_at : Sl → Int → GH → (Int → GH → Option β) → Option β) (F_ref12_Cost : List Value → Sl → GH → (Int → GH → Option β) → Option β) (R : Nat) (a1 : Sl) (a2 : Int) (h : GH) (K : Sl → GH → Option β) : G_ref12_One F_ref12_behind F_ref12_at F_ref12_Cost R a1 a2 h K =
    F_ref12_behind a1 a2 h fun r3 h4 => gnew Z92 0 h4 fun g5 h6 => (bif Nat.beq (r3).length 256 then gput g5 (0) r3 h6 fun h7 => F_ref12_One_l0 F_ref12_behind F_ref12_at F_ref12_Cost R R (some ⟨g5, 0, none⟩) ⟨none, 0, 0⟩ 0 h7 (fun w42 w43 h44 => F_ref12_One_l2 F_ref12_behind F_ref12_at F_ref12_Cost R R w42 w43 0 1 h44 (fun w65 w66 h67 => bnd w66 w65.c fun m68 => K ⟨addO w65.a (0 * 1), m68 - 0, w65.c - 0⟩ h67)) else none) := by kernel_rfl
noncomputable def F_ref12_One (R : Nat) (a1 : Sl) (a2 : Int) (h : GH) (K : Sl → GH → Option β) : Option β := G_ref12_One (F_ref12_behind R) (F_ref12_at R) (F_ref12_Cost R) R a1 a2 h K
set_option maxRecDepth 100000 in
theorem CF_ref12_One_sim {R : Nat} : SimOrc Try.prog (CF_ref12_One (F_ref12_behind R) (F_ref12_at R) (F_ref12_Cost R) (β := β)) := by
  intro f args h K r hc
  unfold CF_ref12_One at hc
  cases hb : Nat.beq f 80 with
  | true =>
    rw [hb] at hc
    simp only [cond_true] at hc
    obtain rfl := Nat.eq_of_beq_eq_true hb
    split at hc
    · exact any_call (F_ref12_behind_sim (K := K) hc)
    · cases hc
  | false =>
  rw [hb] at hc
  simp only [cond_false] at hc
  cases hb : Nat.beq f 57 with
  | true =>
    rw [hb] at hc
    simp only [cond_true] at hc
    obtain rfl := Nat.eq_of_beq_eq_true hb
    split at hc
    · exact any_call (F_ref12_at_sim (K := K) hc)
    · cases hc
  | false =>
  rw [hb] at hc
  simp only [cond_false] at hc
  cases hb : Nat.beq f 81 with
  | true =>
    rw [hb] at hc
    simp only [cond_true] at hc
    obtain rfl := Nat.eq_of_beq_eq_true hb
    split at hc
    · exact any_call (F_ref12_Cost_sim (K := K) hc)
    · cases hc
  | false =>
  rw [hb] at hc
  simp only [cond_false] at hc
  cases hc
set_option maxRecDepth 100000 in
theorem F_ref12_One_sim {R : Nat} {r : β} {a1 : Sl} {a2 : Int} {h : GH} {K : Value → GH → Option β} (hc : F_ref12_One R a1 a2 h (fun q0 h' => K (Value.slice q0.a q0.n q0.c) h') = some r) : ∃ v h', K v h' = some r ∧ CallSim Try.prog 54 [Value.slice a1.a a1.n a1.c, Value.int .u8 a2] h v h' := by
  unfold F_ref12_One G_ref12_One at hc
  obtain ⟨v, h', hk, hs⟩ := gfun_sim (CF_ref12_One_sim (R := R)) mixed_ok (fun f h => by cases h) Try.func54 (by kernel_rfl) hc
  obtain ⟨u0, e0, hk⟩ := exS_v hk; cases e0
  exact ⟨_, h', hk, hs⟩
/-! F24 duffel/duffelref12.Best -/
def CF_ref12_Best (F_ref12_One : Sl → Int → GH → (Sl → GH → Option β) → Option β) : Orc β := fun f args h K => bif Nat.beq f 54 then (match args with | [.slice p1a p1n p1c, .int .u8 p2] => F_ref12_One ⟨p1a, p1n, p1c⟩ p2 h (fun q69 h' => K (Value.slice q69.a q69.n q69.c) h') | _ => none) else none
def HF_ref12_Best : Hints := ⟨[(4, [0, 3, 4], [(0, [(3, .ty 47)])], none)], [], []⟩
noncomputable def BF_ref12_Best : Code := match Try.f24.body with | some c => c | none => .skip
noncomputable def F_ref12_Best_l0 (F_ref12_One : Sl → Int → GH → (Sl → GH → Option β) → Option β) (R : Nat) (n : Nat) (y7 : Sl) (y8 : Option Addr) (y9 : Int) (h : GH) (K0 : Option Addr → GH → Option β) : Option β := gloop (gcode Try.prog (CF_ref12_Best F_ref12_One) Try.f24.ntmps HF_ref12_Best R (at_ [true, true, true, false, true, false, false] BF_ref12_Best)) [0, 3, 4] n [(0, Value.slice y7.a y7.n y7.c), (3, Value.pointer y8), (4, Value.int .i64 y9)] h (fun i e' h' => bif Nat.beq i 0 then (exP (some (e'.get 3)) fun u34 => K0 u34 h') else none) (fun e' h' => none)
set_option maxRecDepth 100000 in
theorem F_ref12_Best_l0_succ (F_ref12_One : Sl → Int → GH → (Sl → GH → Option β) → Option β) (R : Nat) (n : Nat) (y7 : Sl) (y8 : Option Addr) (y9 : Int) (h : GH) (K0 : Option Addr → GH → Option β) : F_ref12_Best_l0 F_ref12_One R (n + 1) y7 y8 y9 h K0 =
    (bif decide (y9 < ((y7.n : Nat) : Int)) then exA y7.a fun g11 o12 => within y9 y7.n (exI .u8 (h.cell ⟨g11, o12 + y9.toNat * 1, none⟩) fun x13 => (bif decide (x13 > 0) then exA y7.a fun g14 o15 => within y9 y7.n (exI .u8 (h.cell ⟨g14, o15 + y9.toNat * 1, none⟩) fun x16 => exA y8 fun g17 o18 => within x16 256 (exS (h.cell ⟨g17, o18 + x16.toNat * 1, none⟩) fun x19 => (bif ((x19.n : Nat) : Int) == 0 then exA y7.a fun g20 o21 => within y9 y7.n (exI .u8 (h.cell ⟨g20, o21 + y9.toNat * 1, none⟩) fun x22 => exA y7.a fun g23 o24 => within y9 y7.n (exI .u8 (h.cell ⟨g23, o24 + y9.toNat * 1, none⟩) fun x25 => F_ref12_One y7 x25 h fun r26 h27 => exA y8 fun g28 o29 => within x22 256 (gput g28 (o29 + x22.toNat * 1) [Value.slice r26.a r26.n r26.c] h27 fun h30 => (bif sameAt g20 (o21 + y9.toNat * 1) 1 h h27 then F_ref12_Best_l0 F_ref12_One R n y7 y8 (IntKind.wrap .i64 (y9 + 1)) h30 K0 else none)))) else F_ref12_Best_l0 F_ref12_One R n y7 y8 (IntKind.wrap .i64 (y9 + 1)) h K0))) else F_ref12_Best_l0 F_ref12_One R n y7 y8 (IntKind.wrap .i64 (y9 + 1)) h K0)) else K0 y8 h) := by kernel_rfl
noncomputable def G_ref12_Best (F_ref12_One : Sl → Int → GH → (Sl → GH → Option β) → Option β) (R : Nat) (a1 : Sl) (h : GH) (K : Option Addr → GH → Option β) : Option β := gfun Try.prog (CF_ref12_Best F_ref12_One) HF_ref12_Best R Try.f24 [Value.slice a1.a a1.n a1.c] h (fun v h' => exP (some v) fun u35 => K u35 h')
set_option maxRecDepth 100000 in
theorem F_ref12_Best_gen (F_ref12_One : Sl → Int → GH → (Sl → GH → Option β) → Option β) (R : Nat) (a1 : Sl) (h : GH) (K : Option Addr → GH → Option β) : G_ref12_Best F_ref12_One R a1 h K =
    gnew [Value.slice none 0 0, Value.slice none 0 0, Value.slice none 0 0, Value.slice none 0 0, Value.slice none 0 0, Value.slice none 0 0, Value.slice none 0 0, Value.slice none 0 0, Value.slice none 0 0, Value.slice none 0 0, Value.slice none 0 0, Value.slice none 0 0, Value.slice none 0 0, Value.slice none 0 0, Value.slice none 0 0, Value.slice none 0 0, Value.slice none 0 0, Value.slice none 0 0, Value.slice none 0 0, Value.slice none 0 0, Value.slice none 0 0, Value.slice none 0 0, Value.slice none 0 0, Value.slice none 0 0, Value.slice none 0 0, Value.slice none 0 0, Value.slice none 0 0, Value.slice none 0 0, Value.slice none 0 0, Value.slice none 0 0, Value.slice none 0 0, Value.slice none 0 0, Value.slice none 0 0, Value.slice none 0 0, Value.slice none 0 0, Value.slice none 0 0, Value.slice none 0 0, Value.slice none 0 0, Value.slice none 0 0, Value.slice none 0 0, Value.slice none 0 0, Value.slice none 0 0, Value.slice none 0 0, Value.slice none 0 0, Value.slice none 0 0, Value.slice none 0 0, Value.slice none 0 0, Value.slice none 0 0, Value.slice none 0 0, Value.slice none 0 0, Value.slice none 0 0, Value.slice none 0 0, Value.slice none 0 0, Value.slice none 0 0, Value.slice none 0 0, Value.slice none 0 0, Value.slice none 0 0, Value.slice none 0 0, Value.slice none 0 0, Value.slice none 0 0, Value.slice none 0 0, Value.slice none 0 0, Value.slice none 0 0, Value.slice none 0 0, Value.slice none 0 0, Value.slice none 0 0, Value.slice none 0 0, Value.slice none 0 0, Value.slice none 0 0, Value.slice none 0 0, Value.slice none 0 0, Value.slice none 0 0, Value.slice none 0 0, Value.slice none 0 0, Value.slice none 0 0, Value.slice none 0 0, Value.slice none 0 0, Value.slice none 0 0, Value.slice none 0 0, Value.slice none 0 0, Value.slice none 0 0, Value.slice none 0 0, Value.slice none 0 0, Value.slice none 0 0, Value.slice none 0 0, Value.slice none 0 0, Value.slice none 0 0, Value.slice none 0 0, Value.slice none 0 0, Value.slice none 0 0, Value.slice none 0 0, Value.slice none 0 0, Value.slice none 0 0, Value.slice none 0 0, Value.slice none 0 0, Value.slice none 0 0, Value.slice none 0 0, Value.slice none 0 0, Value.slice none 0 0, Value.slice none 0 0, Value.slice none 0 0, Value.slice none 0 0, Value.slice none 0 0, Value.slice none 0 0, Value.slice none 0 0, Value.slice none 0 0, Value.slice none 0 0, Value.slice none 0 0, Value.slice none 0 0, Value.slice none 0 0, Value.slice none 0 0, Value.slice none 0 0, Value.slice none 0 0, Value.slice none 0 0, Value.slice none 0 0, Value.slice none 0 0, Value.slice none 0 0, Value.slice none 0 0, Value.slice none 0 0, Value.slice none 0 0, Value.slice none 0 0, Value.slice none 0 0, Value.slice none 0 0, Value.slice none 0 0, Value.slice none 0 0, Value.slice none 0 0, Value.slice none 0 0, Value.slice none 0 0, Value.slice none 0 0, Value.slice none 0 0, Value.slice none 0 0, Value.slice none 0 0, Value.slice none 0 0, Value.slice none 0 0, Value.slice none 0 0, Value.slice none 0 0, Value.slice none 0 0, Value.slice none 0 0, Value.slice none 0 0, Value.slice none 0 0, Value.slice none 0 0, Value.slice none 0 0, Value.slice none 0 0, Value.slice none 0 0, Value.slice none 0 0, Value.slice none 0 0, Value.slice none 0 0, Value.slice none 0 0, Value.slice none 0 0, Value.slice none 0 0, Value.slice none 0 0, Value.slice none 0 0, Value.slice none 0 0, Value.slice none 0 0, Value.slice none 0 0, Value.slice none 0 0, Value.slice none 0 0, Value.slice none 0 0, Value.slice none 0 0, Value.slice none 0 0, Value.slice none 0 0, Value.slice none 0 0, Value.slice none 0 0, Value.slice none 0 0, Value.slice none 0 0, Value.slice none 0 0, Value.slice none 0 0, Value.slice none 0 0, Value.slice none 0 0, Value.slice none 0 0, Value.slice none 0 0, Value.slice none 0 0, Value.slice none 0 0, Value.slice none 0 0, Value.slice none 0 0, Value.slice none 0 0, Value.slice none 0 0, Value.slice none 0 0, Value.slice none 0 0, Value.slice none 0 0, Value.slice none 0 0, Value.slice none 0 0, Value.slice none 0 0, Value.slice none 0 0, Value.slice none 0 0, Value.slice none 0 0, Value.slice none 0 0, Value.slice none 0 0, Value.slice none 0 0, Value.slice none 0 0, Value.slice none 0 0, Value.slice none 0 0, Value.slice none 0 0, Value.slice none 0 0, Value.slice none 0 0, Value.slice none 0 0, Value.slice none 0 0, Value.slice none 0 0, Value.slice none 0 0, Value.slice none 0 0, Value.slice none 0 0, Value.slice none 0 0, Value.slice none 0 0, Value.slice none 0 0, Value.slice none 0 0, Value.slice none 0 0, Value.slice none 0 0, Value.slice none 0 0, Value.slice none 0 0, Value.slice none 0 0, Value.slice none 0 0, Value.slice none 0 0, Value.slice none 0 0, Value.slice none 0 0, Value.slice none 0 0, Value.slice none 0 0, Value.slice none 0 0, Value.slice none 0 0, Value.slice none 0 0, Value.slice none 0 0, Value.slice none 0 0, Value.slice none 0 0, Value.slice none 0 0, Value.slice none 0 0, Value.slice none 0 0, Value.slice none 0 0, Value.slice none 0 0, Value.slice none 0 0, Value.slice none 0 0, Value.slice none 0 0, Value.slice none 0 0, Value.slice none 0 0, Value.slice none 0 0, Value.slice none 0 0, Value.slice none 0 0, Value.slice none 0 0, Value.slice none 0 0, Value.slice none 0 0, Value.slice none 0 0, Value.slice none 0 0, Value.slice none 0 0, Value.slice none 0 0, Value.slice none 0 0, Value.slice none 0 0, Value.slice none 0 0, Value.slice none 0 0, Value.slice none 0 0, Value.slice none 0 0, Value.slice none 0 0, Value.slice none 0 0, Value.slice none 0 0, Value.slice none 0 0, Value.slice none 0 0, Value.slice none 0 0, Value.slice none 0 0, Value.slice none 0 0] 0 h fun g2 h3 => F_ref12_One a1 0 h3 fun r4 h5 => within 0 256 (gput g2 (0 + (0 : Int).toNat * 1) [Value.slice r4.a r4.n r4.c] h5 fun h6 => F_ref12_Best_l0 F_ref12_One R R a1 (some ⟨g2, 0, none⟩) 0 h6 (fun w31 h32 => K w31 h32)) := by kernel_rfl
noncomputable def F_ref12_Best (R : Nat) (a1 : Sl) (h : GH) (K : Option Addr → GH → Option β) : Option β := G_ref12_Best (F_ref12_One R) R a1 h K
set_option maxRecDepth 100000 in
theorem CF_ref12_Best_sim {R : Nat} : SimOrc Try.prog (CF_ref12_Best (F_ref12_One R) (β := β)) := by
  intro f args h K r hc
  unfold CF_ref12_Best at hc
  cases hb : Nat.beq f 54 with
  | true =>
    rw [hb] at hc
    simp only [cond_true] at hc
    obtain rfl := Nat.eq_of_beq_eq_true hb
    split at hc
    · exact any_call (F_ref12_One_sim (K := K) hc)
    · cases hc
  | false =>
  rw [hb] at hc
  simp only [cond_false] at hc
  cases hc
set_option maxRecDepth 100000 in
theorem F_ref12_Best_sim {R : Nat} {r : β} {a1 : Sl} {h : GH} {K : Value → GH → Option β} (hc : F_ref12_Best R a1 h (fun q0 h' => K (Value.pointer q0) h') = some r) : ∃ v h', K v h' = some r ∧ CallSim Try.prog 24 [Value.slice a1.a a1.n a1.c] h v h' := by
  unfold F_ref12_Best G_ref12_Best at hc
  obtain ⟨v, h', hk, hs⟩ := gfun_sim (CF_ref12_Best_sim (R := R)) mixed_ok (fun f h => by cases h) Try.func24 (by kernel_rfl) hc
  obtain ⟨u0, e0, hk⟩ := exP_v hk; cases e0
  exact ⟨_, h', hk, hs⟩
/-! F55 duffel/duffelref12.Cut -/
def CF_ref12_Cut (F_ref01_Cut : Sl → Int → GH → (Sl → GH → Option β) → Option β) : Orc β := fun f args h K => bif Nat.beq f 8 then (match args with | [.slice p1a p1n p1c, .int .i64 p2] => F_ref01_Cut ⟨p1a, p1n, p1c⟩ p2 h (fun q4 h' => K (Value.slice q4.a q4.n q4.c) h') | _ => none) else none
def HF_ref12_Cut : Hints := ⟨[], [], []⟩
noncomputable def G_ref12_Cut (F_ref01_Cut : Sl → Int → GH → (Sl → GH → Option β) → Option β) (R : Nat) (a1 : Sl) (h : GH) (K : Sl → GH → Option β) : Option β := gfun Try.prog (CF_ref12_Cut F_ref01_Cut) HF_ref12_Cut R Try.f55 [Value.slice a1.a a1.n a1.c] h (fun v h' => exS (some v) fun u5 => K u5 h')
set_option maxRecDepth 100000 in
theorem F_ref12_Cut_gen (F_ref01_Cut : Sl → Int → GH → (Sl → GH → Option β) → Option β) (R : Nat) (a1 : Sl) (h : GH) (K : Sl → GH → Option β) : G_ref12_Cut F_ref01_Cut R a1 h K =
    F_ref01_Cut a1 32 h fun r2 h3 => K r2 h3 := by kernel_rfl
noncomputable def F_ref12_Cut (R : Nat) (a1 : Sl) (h : GH) (K : Sl → GH → Option β) : Option β := G_ref12_Cut (F_ref01_Cut R) R a1 h K
set_option maxRecDepth 100000 in
theorem CF_ref12_Cut_sim {R : Nat} : SimOrc Try.prog (CF_ref12_Cut (F_ref01_Cut R) (β := β)) := by
  intro f args h K r hc
  unfold CF_ref12_Cut at hc
  cases hb : Nat.beq f 8 with
  | true =>
    rw [hb] at hc
    simp only [cond_true] at hc
    obtain rfl := Nat.eq_of_beq_eq_true hb
    split at hc
    · exact any_call (F_ref01_Cut_sim (K := K) hc)
    · cases hc
  | false =>
  rw [hb] at hc
  simp only [cond_false] at hc
  cases hc
set_option maxRecDepth 100000 in
theorem F_ref12_Cut_sim {R : Nat} {r : β} {a1 : Sl} {h : GH} {K : Value → GH → Option β} (hc : F_ref12_Cut R a1 h (fun q0 h' => K (Value.slice q0.a q0.n q0.c) h') = some r) : ∃ v h', K v h' = some r ∧ CallSim Try.prog 55 [Value.slice a1.a a1.n a1.c] h v h' := by
  unfold F_ref12_Cut G_ref12_Cut at hc
  obtain ⟨v, h', hk, hs⟩ := gfun_sim (CF_ref12_Cut_sim (R := R)) mixed_ok (fun f h => by cases h) Try.func55 (by kernel_rfl) hc
  obtain ⟨u0, e0, hk⟩ := exS_v hk; cases e0
  exact ⟨_, h', hk, hs⟩
/-! F56 (*duffel/duffelref01.Writer).Put -/
def CF_ref01_Writer_Put  : Orc β := fun f args h K => none
def HF_ref01_Writer_Put : Hints := ⟨[(1, [0, 1, 2, 6], [(0, [])], none)], [], []⟩
noncomputable def BF_ref01_Writer_Put : Code := match Try.f56.body with | some c => c | none => .skip
noncomputable def F_ref01_Writer_Put_l0  (R : Nat) (n : Nat) (y4 : Option Addr) (y5 : Int) (y6 : Int) (y7 : Int) (h : GH) (K0 : GH → Option β) : Option β := gloop (gcode Try.prog (CF_ref01_Writer_Put ) Try.f56.ntmps HF_ref01_Writer_Put R (at_ [true, false, false] BF_ref01_Writer_Put)) [0, 1, 2, 6] n [(0, Value.pointer y4), (1, Value.int .u32 y5), (2, Value.int .i64 y6), (6, Value.int .i64 y7)] h (fun i e' h' => bif Nat.beq i 0 then (K0 h') else none) (fun e' h' => none)
set_option maxRecDepth 100000 in
theorem F_ref01_Writer_Put_l0_succ  (R : Nat) (n : Nat) (y4 : Option Addr) (y5 : Int) (y6 : Int) (y7 : Int) (h : GH) (K0 : GH → Option β) : F_ref01_Writer_Put_l0  R (n + 1) y4 y5 y6 y7 h K0 =
    (bif decide (y7 < y6) then (bif decide (y7 < 32) then exA y4 fun g8 o9 => exS (h.cell ⟨g8, o9 + 0, none⟩) fun x10 => gnew [Value.int .u8 (IntKind.wrap .u8 (Int.tmod y5 2))] 1 h fun g11 h12 => gappS 1 1 x10 ⟨(some ⟨g11, 0, none⟩), 1, 1⟩ h12 fun s13 h14 => exA y4 fun g15 o16 => gput g15 (o16 + 0) [Value.slice s13.a s13.n s13.c] h14 fun h17 => F_ref01_Writer_Put_l0 R n y4 (IntKind.wrap .u32 (Int.tdiv y5 2)) y6 (IntKind.wrap .i64 (y7 + 1)) h17 K0 else K0 h) else K0 h) := by kernel_rfl
noncomputable def G_ref01_Writer_Put  (R : Nat) (a1 : Option Addr) (a2 : Int) (a3 : Int) (h : GH) (K : GH → Option β) : Option β := gfun Try.prog (CF_ref01_Writer_Put ) HF_ref01_Writer_Put R Try.f56 [Value.pointer a1, Value.int .u32 a2, Value.int .i64 a3] h (fun _ h' => K h')
set_option maxRecDepth 100000 in
theorem F_ref01_Writer_Put_gen  (R : Nat) (a1 : Option Addr) (a2 : Int) (a3 : Int) (h : GH) (K : GH → Option β) : G_ref01_Writer_Put  R a1 a2 a3 h K =
    F_ref01_Writer_Put_l0 R R a1 a2 a3 0 h (fun h18 => K h18) := by kernel_rfl
noncomputable def F_ref01_Writer_Put (R : Nat) (a1 : Option Addr) (a2 : Int) (a3 : Int) (h : GH) (K : GH → Option β) : Option β := G_ref01_Writer_Put  R a1 a2 a3 h K
theorem CF_ref01_Writer_Put_sim : SimOrc Try.prog (CF_ref01_Writer_Put (β := β)) := by
  intro f args h K r hc
  cases hc
set_option maxRecDepth 100000 in
theorem F_ref01_Writer_Put_sim {R : Nat} {r : β} {a1 : Option Addr} {a2 : Int} {a3 : Int} {h : GH} {K : Value → GH → Option β} (hc : F_ref01_Writer_Put R a1 a2 a3 h (fun h' => K (Value.tuple #[]) h') = some r) : ∃ v h', K v h' = some r ∧ CallSim Try.prog 56 [Value.pointer a1, Value.int .u32 a2, Value.int .i64 a3] h v h' := by
  unfold F_ref01_Writer_Put G_ref01_Writer_Put at hc
  obtain ⟨v, h', hk, hs⟩ := gfun_sim CF_ref01_Writer_Put_sim mixed_ok (fun f h => by cases h) Try.func56 (by kernel_rfl) hc
  exact ⟨_, h', hk, hs.unit⟩
/-! F25 duffel/duffelref12.PutSets -/
def CF_ref12_PutSets (F_ref12_Cut : Sl → GH → (Sl → GH → Option β) → Option β) (F_ref01_Writer_Put : Option Addr → Int → Int → GH → (GH → Option β) → Option β) : Orc β := fun f args h K => bif Nat.beq f 55 then (match args with | [.slice p1a p1n p1c] => F_ref12_Cut ⟨p1a, p1n, p1c⟩ h (fun q4 h' => K (Value.slice q4.a q4.n q4.c) h') | _ => none) else (bif Nat.beq f 56 then (match args with | [.pointer p1, .int .u32 p2, .int .i64 p3] => F_ref01_Writer_Put p1 p2 p3 h (fun h' => K (Value.tuple #[]) h') | _ => none) else none)
def HF_ref12_PutSets : Hints := ⟨[(1, [0, 1, 4], [(0, [])], none), (7, [0, 1, 4, 6, 7], [(2, [(0, .ty 49), (1, .ty 47), (4, .ty 3)])], none)], [], []⟩
noncomputable def BF_ref12_PutSets : Code := match Try.f25.body with | some c => c | none => .skip
noncomputable def F_ref12_PutSets_l0 (F_ref12_Cut : Sl → GH → (Sl → GH → Option β) → Option β) (F_ref01_Writer_Put : Option Addr → Int → Int → GH → (GH → Option β) → Option β) (R : Nat) (n : Nat) (y3 : Option Addr) (y4 : Option Addr) (y5 : Int) (h : GH) (K0 : GH → Option β) : Option β := gloop (gcode Try.prog (CF_ref12_PutSets F_ref12_Cut F_ref01_Writer_Put) Try.f25.ntmps HF_ref12_PutSets R (at_ [true, false, false] BF_ref12_PutSets)) [0, 1, 4] n [(0, Value.pointer y3), (1, Value.pointer y4), (4, Value.int .i64 y5)] h (fun i e' h' => bif Nat.beq i 0 then (K0 h') else none) (fun e' h' => none)
noncomputable def F_ref12_PutSets_l1 (F_ref12_Cut : Sl → GH → (Sl → GH → Option β) → Option β) (F_ref01_Writer_Put : Option Addr → Int → Int → GH → (GH → Option β) → Option β) (R : Nat) (n : Nat) (y12 : Option Addr) (y13 : Option Addr) (y14 : Int) (y15 : Sl) (y16 : Int) (h : GH) (K2 : Option Addr → Option Addr → Int → GH → Option β) : Option β := gloop (gcode Try.prog (CF_ref12_PutSets F_ref12_Cut F_ref01_Writer_Put) Try.f25.ntmps HF_ref12_PutSets R (at_ [true, false, false, true, false, false, true, true, true, true, false, false] BF_ref12_PutSets)) [0, 1, 4, 6, 7] n [(0, Value.pointer y12), (1, Value.pointer y13), (4, Value.int .i64 y14), (6, Value.slice y15.a y15.n y15.c), (7, Value.int .i64 y16)] h (fun i e' h' => bif Nat.beq i 2 then (exP (some (e'.get 0)) fun u29 => exP (some (e'.get 1)) fun u30 => exI .i64 (some (e'.get 4)) fun u31 => K2 u29 u30 u31 h') else none) (fun e' h' => none)
set_option maxRecDepth 100000 in
theorem F_ref12_PutSets_l1_succ (F_ref12_Cut : Sl → GH → (Sl → GH → Option β) → Option β) (F_ref01_Writer_Put : Option Addr → Int → Int → GH → (GH → Option β) → Option β) (R : Nat) (n : Nat) (y12 : Option Addr) (y13 : Option Addr) (y14 : Int) (y15 : Sl) (y16 : Int) (h : GH) (K2 : Option Addr → Option Addr → Int → GH → Option β) : F_ref12_PutSets_l1 F_ref12_Cut F_ref01_Writer_Put R (n + 1) y12 y13 y14 y15 y16 h K2 =
    (bif decide (y16 < ((y15.n : Nat) : Int)) then exA y15.a fun g20 o21 => within y16 y15.n (exI .u8 (h.cell ⟨g20, o21 + y16.toNat * 1, none⟩) fun x22 => F_ref01_Writer_Put y12 (IntKind.wrap .u32 x22) 8 h fun h23 => F_ref12_PutSets_l1 F_ref12_Cut F_ref01_Writer_Put R n y12 y13 y14 y15 (IntKind.wrap .i64 (y16 + 1)) h23 K2) else K2 y12 y13 y14 h) := by kernel_rfl
set_option maxRecDepth 100000 in
theorem F_ref12_PutSets_l0_succ (F_ref12_Cut : Sl → GH → (Sl → GH → Option β) → Option β) (F_ref01_Writer_Put : Option Addr → Int → Int → GH → (GH → Option β) → Option β) (R : Nat) (n : Nat) (y3 : Option Addr) (y4 : Option Addr) (y5 : Int) (h : GH) (K0 : GH → Option β) : F_ref12_PutSets_l0 F_ref12_Cut F_ref01_Writer_Put R (n + 1) y3 y4 y5 h K0 =
    (bif decide (y5 ≥ 0) then exA y4 fun g6 o7 => within y5 256 (exS (h.cell ⟨g6, o7 + y5.toNat * 1, none⟩) fun x8 => F_ref12_Cut x8 h fun r9 h10 => F_ref01_Writer_Put y3 (IntKind.wrap .u32 ((r9.n : Nat) : Int)) 6 h10 fun h11 => F_ref12_PutSets_l1 F_ref12_Cut F_ref01_Writer_Put R R y3 y4 y5 r9 0 h11 (fun w24 w25 w26 h27 => F_ref12_PutSets_l0 F_ref12_Cut F_ref01_Writer_Put R n w24 w25 (IntKind.wrap .i64 (w26 - 1)) h27 K0)) else K0 h) := by kernel_rfl
noncomputable def G_ref12_PutSets (F_ref12_Cut : Sl → GH → (Sl → GH → Option β) → Option β) (F_ref01_Writer_Put : Option Addr → Int → Int → GH → (GH → Option β) → Option β) (R : Nat) (a1 : Option Addr) (a2 : Option Addr) (h : GH) (K : GH → Option β) : Option β := gfun Try.prog (CF_ref12_PutSets F_ref12_Cut F_ref01_Writer_Put) HF_ref12_PutSets R Try.f25 [Value.pointer a1, Value.pointer a2] h (fun _ h' => K h')
set_option maxRecDepth 100000 in
theorem F_ref12_PutSets_gen (F_ref12_Cut : Sl → GH → (Sl → GH → Option β) → Option β) (F_ref01_Writer_Put : Option Addr → Int → Int → GH → (GH → Option β) → Option β) (R : Nat) (a1 : Option Addr) (a2 : Option Addr) (h : GH) (K : GH → Option β) : G_ref12_PutSets F_ref12_Cut F_ref01_Writer_Put R a1 a2 h K =
    F_ref12_PutSets_l0 F_ref12_Cut F_ref01_Writer_Put R R a1 a2 255 h (fun h28 => K h28) := by kernel_rfl
noncomputable def F_ref12_PutSets (R : Nat) (a1 : Option Addr) (a2 : Option Addr) (h : GH) (K : GH → Option β) : Option β := G_ref12_PutSets (F_ref12_Cut R) (F_ref01_Writer_Put R) R a1 a2 h K
set_option maxRecDepth 100000 in
theorem CF_ref12_PutSets_sim {R : Nat} : SimOrc Try.prog (CF_ref12_PutSets (F_ref12_Cut R) (F_ref01_Writer_Put R) (β := β)) := by
  intro f args h K r hc
  unfold CF_ref12_PutSets at hc
  cases hb : Nat.beq f 55 with
  | true =>
    rw [hb] at hc
    simp only [cond_true] at hc
    obtain rfl := Nat.eq_of_beq_eq_true hb
    split at hc
    · exact any_call (F_ref12_Cut_sim (K := K) hc)
    · cases hc
  | false =>
  rw [hb] at hc
  simp only [cond_false] at hc
  cases hb : Nat.beq f 56 with
  | true =>
    rw [hb] at hc
    simp only [cond_true] at hc
    obtain rfl := Nat.eq_of_beq_eq_true hb
    split at hc
    · exact any_call (F_ref01_Writer_Put_sim (K := K) hc)
    · cases hc
  | false =>
  rw [hb] at hc
  simp only [cond_false] at hc
  cases hc
set_option maxRecDepth 100000 in
theorem F_ref12_PutSets_sim {R : Nat} {r : β} {a1 : Option Addr} {a2 : Option Addr} {h : GH} {K : Value → GH → Option β} (hc : F_ref12_PutSets R a1 a2 h (fun h' => K (Value.tuple #[]) h') = some r) : ∃ v h', K v h' = some r ∧ CallSim Try.prog 25 [Value.pointer a1, Value.pointer a2] h v h' := by
  unfold F_ref12_PutSets G_ref12_PutSets at hc
  obtain ⟨v, h', hk, hs⟩ := gfun_sim (CF_ref12_PutSets_sim (R := R)) mixed_ok (fun f h => by cases h) Try.func25 (by kernel_rfl) hc
  exact ⟨_, h', hk, hs.unit⟩
/-! F26 duffel/duffelref12.Put -/
def CF_ref12_Put (F_ref12_Cut : Sl → GH → (Sl → GH → Option β) → Option β) (F_ref12_at : Sl → Int → GH → (Int → GH → Option β) → Option β) (F_ref01_Writer_Put : Option Addr → Int → Int → GH → (GH → Option β) → Option β) (F_ref12_Width : Int → GH → (Int → GH → Option β) → Option β) : Orc β := fun f args h K => bif Nat.beq f 55 then (match args with | [.slice p1a p1n p1c] => F_ref12_Cut ⟨p1a, p1n, p1c⟩ h (fun q4 h' => K (Value.slice q4.a q4.n q4.c) h') | _ => none) else (bif Nat.beq f 57 then (match args with | [.slice p1a p1n p1c, .int .u8 p2] => F_ref12_at ⟨p1a, p1n, p1c⟩ p2 h (fun q13 h' => K (Value.int .i64 q13) h') | _ => none) else (bif Nat.beq f 56 then (match args with | [.pointer p1, .int .u32 p2, .int .i64 p3] => F_ref01_Writer_Put p1 p2 p3 h (fun h' => K (Value.tuple #[]) h') | _ => none) else (bif Nat.beq f 58 then (match args with | [.int .i64 p1] => F_ref12_Width p1 h (fun q8 h' => K (Value.int .i64 q8) h') | _ => none) else none)))
def HF_ref12_Put : Hints := ⟨[], [], []⟩
noncomputable def G_ref12_Put (F_ref12_Cut : Sl → GH → (Sl → GH → Option β) → Option β) (F_ref12_at : Sl → Int → GH → (Int → GH → Option β) → Option β) (F_ref01_Writer_Put : Option Addr → Int → Int → GH → (GH → Option β) → Option β) (F_ref12_Width : Int → GH → (Int → GH → Option β) → Option β) (R : Nat) (a1 : Option Addr) (a2 : Option Addr) (a3 : Int) (a4 : Int) (h : GH) (K : GH → Option β) : Option β := gfun Try.prog (CF_ref12_Put F_ref12_Cut F_ref12_at F_ref01_Writer_Put F_ref12_Width) HF_ref12_Put R Try.f26 [Value.pointer a1, Value.pointer a2, Value.int .u8 a3, Value.int .u8 a4] h (fun _ h' => K h')
set_option maxRecDepth 100000 in
theorem F_ref12_Put_gen (F_ref12_Cut : Sl → GH → (Sl → GH → Option β) → Option β) (F_ref12_at : Sl → Int → GH → (Int → GH → Option β) → Option β) (F_ref01_Writer_Put : Option Addr → Int → Int → GH → (GH → Option β) → Option β) (F_ref12_Width : Int → GH → (Int → GH → Option β) → Option β) (R : Nat) (a1 : Option Addr) (a2 : Option Addr) (a3 : Int) (a4 : Int) (h : GH) (K : GH → Option β) : G_ref12_Put F_ref12_Cut F_ref12_at F_ref01_Writer_Put F_ref12_Width R a1 a2 a3 a4 h K =
    exA a2 fun g5 o6 => within a3 256 (exS (h.cell ⟨g5, o6 + a3.toNat * 1, none⟩) fun x7 => F_ref12_Cut x7 h fun r8 h9 => F_ref12_at r8 a4 h9 fun r10 h11 => (bif decide (((r8.n : Nat) : Int) > 0) then (bif decide (r10 ≥ 0) then F_ref01_Writer_Put a1 0 1 h11 fun h12 => F_ref12_Width ((r8.n : Nat) : Int) h12 fun r13 h14 => F_ref01_Writer_Put a1 (IntKind.wrap .u32 r10) r13 h14 fun h15 => K h15 else (bif decide (((r8.n : Nat) : Int) > 0) then F_ref01_Writer_Put a1 1 1 h11 fun h16 => F_ref01_Writer_Put a1 (IntKind.wrap .u32 a4) 8 h16 fun h17 => K h17 else F_ref01_Writer_Put a1 (IntKind.wrap .u32 a4) 8 h11 fun h18 => K h18)) else (bif decide (((r8.n : Nat) : Int) > 0) then F_ref01_Writer_Put a1 1 1 h11 fun h19 => F_ref01_Writer_Put a1 (IntKind.wrap .u32 a4) 8 h19 fun h20 => K h20 else F_ref01_Writer_Put a1 (IntKind.wrap .u32 a4) 8 h11 fun h21 => K h21))) := by kernel_rfl
noncomputable def F_ref12_Put (R : Nat) (a1 : Option Addr) (a2 : Option Addr) (a3 : Int) (a4 : Int) (h : GH) (K : GH → Option β) : Option β := G_ref12_Put (F_ref12_Cut R) (F_ref12_at R) (F_ref01_Writer_Put R) (F_ref12_Width R) R a1 a2 a3 a4 h K
set_option maxRecDepth 100000 in
theorem CF_ref12_Put_sim {R : Nat} : SimOrc Try.prog (CF_ref12_Put (F_ref12_Cut R) (F_ref12_at R) (F_ref01_Writer_Put R) (F_ref12_Width R) (β := β)) := by
  intro f args h K r hc
  unfold CF_ref12_Put at hc
  cases hb : Nat.beq f 55 with
  | true =>
    rw [hb] at hc
    simp only [cond_true] at hc
    obtain rfl := Nat.eq_of_beq_eq_true hb
    split at hc
    · exact any_call (F_ref12_Cut_sim (K := K) hc)
    · cases hc
  | false =>
  rw [hb] at hc
  simp only [cond_false] at hc
  cases hb : Nat.beq f 57 with
  | true =>
    rw [hb] at hc
    simp only [cond_true] at hc
    obtain rfl := Nat.eq_of_beq_eq_true hb
    split at hc
    · exact any_call (F_ref12_at_sim (K := K) hc)
    · cases hc
  | false =>
  rw [hb] at hc
  simp only [cond_false] at hc
  cases hb : Nat.beq f 56 with
  | true =>
    rw [hb] at hc
    simp only [cond_true] at hc
    obtain rfl := Nat.eq_of_beq_eq_true hb
    split at hc
    · exact any_call (F_ref01_Writer_Put_sim (K := K) hc)
    · cases hc
  | false =>
  rw [hb] at hc
  simp only [cond_false] at hc
  cases hb : Nat.beq f 58 with
  | true =>
    rw [hb] at hc
    simp only [cond_true] at hc
    obtain rfl := Nat.eq_of_beq_eq_true hb
    split at hc
    · exact any_call (F_ref12_Width_sim (K := K) hc)
    · cases hc
  | false =>
  rw [hb] at hc
  simp only [cond_false] at hc
  cases hc
set_option maxRecDepth 100000 in
theorem F_ref12_Put_sim {R : Nat} {r : β} {a1 : Option Addr} {a2 : Option Addr} {a3 : Int} {a4 : Int} {h : GH} {K : Value → GH → Option β} (hc : F_ref12_Put R a1 a2 a3 a4 h (fun h' => K (Value.tuple #[]) h') = some r) : ∃ v h', K v h' = some r ∧ CallSim Try.prog 26 [Value.pointer a1, Value.pointer a2, Value.int .u8 a3, Value.int .u8 a4] h v h' := by
  unfold F_ref12_Put G_ref12_Put at hc
  obtain ⟨v, h', hk, hs⟩ := gfun_sim (CF_ref12_Put_sim (R := R)) mixed_ok (fun f h => by cases h) Try.func26 (by kernel_rfl) hc
  exact ⟨_, h', hk, hs.unit⟩
/-! F27 (*duffel/duffelref01.Writer).Bytes -/
def CF_ref01_Writer_Bytes  : Orc β := fun f args h K => none
def HF_ref01_Writer_Bytes : Hints := ⟨[(3, [0, 3, 4], [(0, [(3, .ty 22)])], none), (7, [0, 3, 4, 5, 6], [(2, [(0, .ty 49), (3, .ty 22), (4, .ty 3), (5, .ty 5)])], none)], [], []⟩
noncomputable def BF_ref01_Writer_Bytes : Code := match Try.f27.body with | some c => c | none => .skip
noncomputable def F_ref01_Writer_Bytes_l0  (R : Nat) (n : Nat) (y2 : Option Addr) (y3 : Sl) (y4 : Int) (h : GH) (K0 : Sl → GH → Option β) : Option β := gloop (gcode Try.prog (CF_ref01_Writer_Bytes ) Try.f27.ntmps HF_ref01_Writer_Bytes R (at_ [true, true, false, true, false, false] BF_ref01_Writer_Bytes)) [0, 3, 4] n [(0, Value.pointer y2), (3, Value.slice y3.a y3.n y3.c), (4, Value.int .i64 y4)] h (fun i e' h' => bif Nat.beq i 0 then (exS (some (e'.get 3)) fun u39 => K0 u39 h') else none) (fun e' h' => none)
noncomputable def F_ref01_Writer_Bytes_l1  (R : Nat) (n : Nat) (y9 : Option Addr) (y10 : Sl) (y11 : Int) (y12 : Int) (y13 : Int) (h : GH) (K2 : Option Addr → Sl → Int → Int → GH → Option β) : Option β := gloop (gcode Try.prog (CF_ref01_Writer_Bytes ) Try.f27.ntmps HF_ref01_Writer_Bytes R (at_ [true, true, false, true, false, false, true, false, false, true, false, true, false, false] BF_ref01_Writer_Bytes)) [0, 3, 4, 5, 6] n [(0, Value.pointer y9), (3, Value.slice y10.a y10.n y10.c), (4, Value.int .i64 y11), (5, Value.int .u8 y12), (6, Value.int .i64 y13)] h (fun i e' h' => bif Nat.beq i 2 then (exP (some (e'.get 0)) fun u40 => exS (some (e'.get 3)) fun u41 => exI .i64 (some (e'.get 4)) fun u42 => exI .u8 (some (e'.get 5)) fun u43 => K2 u40 u41 u42 u43 h') else none) (fun e' h' => none)
set_option maxRecDepth 100000 in
theorem F_ref01_Writer_Bytes_l1_succ  (R : Nat) (n : Nat) (y9 : Option Addr) (y10 : Sl) (y11 : Int) (y12 : Int) (y13 : Int) (h : GH) (K2 : Option Addr → Sl → Int → Int → GH → Option β) : F_ref01_Writer_Bytes_l1  R (n + 1) y9 y10 y11 y12 y13 h K2 =
    (bif decide (y13 ≥ 0) then exA y9 fun g18 o19 => exS (h.cell ⟨g18, o19 + 0, none⟩) fun x20 => (bif decide ((IntKind.wrap .i64 (y11 + y13)) < ((x20.n : Nat) : Int)) then exA y9 fun g21 o22 => exS (h.cell ⟨g21, o22 + 0, none⟩) fun x23 => exA x23.a fun g24 o25 => within (IntKind.wrap .i64 (y11 + y13)) x23.n (exI .u8 (h.cell ⟨g24, o25 + (IntKind.wrap .i64 (y11 + y13)).toNat * 1, none⟩) fun x26 => F_ref01_Writer_Bytes_l1 R n y9 y10 y11 (IntKind.wrap .u8 ((IntKind.wrap .u8 (y12 * 2)) + x26)) (IntKind.wrap .i64 (y13 - 1)) h K2) else F_ref01_Writer_Bytes_l1 R n y9 y10 y11 (IntKind.wrap .u8 (y12 * 2)) (IntKind.wrap .i64 (y13 - 1)) h K2) else K2 y9 y10 y11 y12 h) := by kernel_rfl
set_option maxRecDepth 100000 in
theorem F_ref01_Writer_Bytes_l0_succ  (R : Nat) (n : Nat) (y2 : Option Addr) (y3 : Sl) (y4 : Int) (h : GH) (K0 : Sl → GH → Option β) : F_ref01_Writer_Bytes_l0  R (n + 1) y2 y3 y4 h K0 =
    exA y2 fun g6 o7 => exS (h.cell ⟨g6, o7 + 0, none⟩) fun x8 => (bif decide (y4 < ((x8.n : Nat) : Int)) then F_ref01_Writer_Bytes_l1 R R y2 y3 y4 0 7 h (fun w27 w28 w29 w30 h31 => gnew [Value.int .u8 w30] 1 h31 fun g32 h33 => gappS 1 1 w28 ⟨(some ⟨g32, 0, none⟩), 1, 1⟩ h33 fun s34 h35 => F_ref01_Writer_Bytes_l0 R n w27 s34 (IntKind.wrap .i64 (w29 + 8)) h35 K0) else K0 y3 h) := by kernel_rfl
noncomputable def G_ref01_Writer_Bytes  (R : Nat) (a1 : Option Addr) (h : GH) (K : Sl → GH → Option β) : Option β := gfun Try.prog (CF_ref01_Writer_Bytes ) HF_ref01_Writer_Bytes R Try.f27 [Value.pointer a1] h (fun v h' => exS (some v) fun u44 => K u44 h')
set_option maxRecDepth 100000 in
theorem F_ref01_Writer_Bytes_gen  (R : Nat) (a1 : Option Addr) (h : GH) (K : Sl → GH → Option β) : G_ref01_Writer_Bytes  R a1 h K =
    F_ref01_Writer_Bytes_l0 R R a1 ⟨none, 0, 0⟩ 0 h (fun w36 h37 => K w36 h37) := by kernel_rfl
noncomputable def F_ref01_Writer_Bytes (R : Nat) (a1 : Option Addr) (h : GH) (K : Sl → GH → Option β) : Option β := G_ref01_Writer_Bytes  R a1 h K
theorem CF_ref01_Writer_Bytes_sim : SimOrc Try.prog (CF_ref01_Writer_Bytes (β := β)) := by
  intro f args h K r hc
  cases hc
set_option maxRecDepth 100000 in
theorem F_ref01_Writer_Bytes_sim {R : Nat} {r : β} {a1 : Option Addr} {h : GH} {K : Value → GH → Option β} (hc : F_ref01_Writer_Bytes R a1 h (fun q0 h' => K (Value.slice q0.a q0.n q0.c) h') = some r) : ∃ v h', K v h' = some r ∧ CallSim Try.prog 27 [Value.pointer a1] h v h' := by
  unfold F_ref01_Writer_Bytes G_ref01_Writer_Bytes at hc
  obtain ⟨v, h', hk, hs⟩ := gfun_sim CF_ref01_Writer_Bytes_sim mixed_ok (fun f h => by cases h) Try.func27 (by kernel_rfl) hc
  obtain ⟨u0, e0, hk⟩ := exS_v hk; cases e0
  exact ⟨_, h', hk, hs⟩
/-! F11 duffel/duffelref14.Encode -/
def CF_ref14_Encode (F_ref13_Encode : Sl → Int → GH → (Sl → Int → GH → Option β) → Option β) (F_ref12_Best : Sl → GH → (Option Addr → GH → Option β) → Option β) (F_ref12_PutSets : Option Addr → Option Addr → GH → (GH → Option β) → Option β) (F_ref12_Put : Option Addr → Option Addr → Int → Int → GH → (GH → Option β) → Option β) (F_ref01_Writer_Bytes : Option Addr → GH → (Sl → GH → Option β) → Option β) : Orc β := fun f args h K => bif Nat.beq f 23 then (match args with | [.slice p1a p1n p1c, .int .i64 p2] => F_ref13_Encode ⟨p1a, p1n, p1c⟩ p2 h (fun q237 q238 h' => K (Value.tuple #[Value.slice q237.a q237.n q237.c, Value.int .i64 q238]) h') | _ => none) else (bif Nat.beq f 24 then (match args with | [.slice p1a p1n p1c] => F_ref12_Best ⟨p1a, p1n, p1c⟩ h (fun q33 h' => K (Value.pointer q33) h') | _ => none) else (bif Nat.beq f 25 then (match args with | [.pointer p1, .pointer p2] => F_ref12_PutSets p1 p2 h (fun h' => K (Value.tuple #[]) h') | _ => none) else (bif Nat.beq f 26 then (match args with | [.pointer p1, .pointer p2, .int .u8 p3, .int .u8 p4] => F_ref12_Put p1 p2 p3 p4 h (fun h' => K (Value.tuple #[]) h') | _ => none) else (bif Nat.beq f 27 then (match args with | [.pointer p1] => F_ref01_Writer_Bytes p1 h (fun q38 h' => K (Value.slice q38.a q38.n q38.c) h') | _ => none) else none))))
def HF_ref14_Encode : Hints := ⟨[(9, [6, 8, 9, 10, 11], [(0, [(9, .ty 49)])], none)], [], []⟩
noncomputable def BF_ref14_Encode : Code := match Try.f11.body with | some c => c | none => .skip
noncomputable def F_ref14_Encode_l0 (F_ref13_Encode : Sl → Int → GH → (Sl → Int → GH → Option β) → Option β) (F_ref12_Best : Sl → GH → (Option Addr → GH → Option β) → Option β) (F_ref12_PutSets : Option Addr → Option Addr → GH → (GH → Option β) → Option β) (F_ref12_Put : Option Addr → Option Addr → Int → Int → GH → (GH → Option β) → Option β) (F_ref01_Writer_Bytes : Option Addr → GH → (Sl → GH → Option β) → Option β) (R : Nat) (n : Nat) (y11 : Sl) (y12 : Option Addr) (y13 : Option Addr) (y14 : Int) (y15 : Int) (h : GH) (K0 : Option Addr → GH → Option β) : Option β := gloop (gcode Try.prog (CF_ref14_Encode F_ref13_Encode F_ref12_Best F_ref12_PutSets F_ref12_Put F_ref01_Writer_Bytes) Try.f11.ntmps HF_ref14_Encode R (at_ [true, true, true, true, true, true, true, false, true, false, false] BF_ref14_Encode)) [6, 8, 9, 10, 11] n [(6, Value.slice y11.a y11.n y11.c), (8, Value.pointer y12), (9, Value.pointer y13), (10, Value.int .u8 y14), (11, Value.int .i64 y15)] h (fun i e' h' => bif Nat.beq i 0 then (exP (some (e'.get 9)) fun u30 => K0 u30 h') else none) (fun e' h' => none)
set_option maxRecDepth 100000 in
theorem F_ref14_Encode_l0_succ (F_ref13_Encode : Sl → Int → GH → (Sl → Int → GH → Option β) → Option β) (F_ref12_Best : Sl → GH → (Option Addr → GH → Option β) → Option β) (F_ref12_PutSets : Option Addr → Option Addr → GH → (GH → Option β) → Option β) (F_ref12_Put : Option Addr → Option Addr → Int → Int → GH → (GH → Option β) → Option β) (F_ref01_Writer_Bytes : Option Addr → GH → (Sl → GH → Option β) → Option β) (R : Nat) (n : Nat) (y11 : Sl) (y12 : Option Addr) (y13 : Option Addr) (y14 : Int) (y15 : Int) (h : GH) (K0 : Option Addr → GH → Option β) : F_ref14_Encode_l0 F_ref13_Encode F_ref12_Best F_ref12_PutSets F_ref12_Put F_ref01_Writer_Bytes R (n + 1) y11 y12 y13 y14 y15 h K0 =
    (bif decide (y15 < ((y11.n : Nat) : Int)) then exA y11.a fun g17 o18 => within y15 y11.n (exI .u8 (h.cell ⟨g17, o18 + y15.toNat * 1, none⟩) fun x19 => F_ref12_Put y13 y12 y14 x19 h fun h20 => exA y11.a fun g21 o22 => within y15 y11.n (exI .u8 (h20.cell ⟨g21, o22 + y15.toNat * 1, none⟩) fun x23 => F_ref14_Encode_l0 F_ref13_Encode F_ref12_Best F_ref12_PutSets F_ref12_Put F_ref01_Writer_Bytes R n y11 y12 y13 x23 (IntKind.wrap .i64 (y15 + 1)) h20 K0)) else K0 y13 h) := by kernel_rfl
noncomputable def G_ref14_Encode (F_ref13_Encode : Sl → Int → GH → (Sl → Int → GH → Option β) → Option β) (F_ref12_Best : Sl → GH → (Option Addr → GH → Option β) → Option β) (F_ref12_PutSets : Option Addr → Option Addr → GH → (GH → Option β) → Option β) (F_ref12_Put : Option Addr → Option Addr → Int → Int → GH → (GH → Option β) → Option β) (F_ref01_Writer_Bytes : Option Addr → GH → (Sl → GH → Option β) → Option β) (R : Nat) (a1 : Sl) (a2 : Int) (h : GH) (K : Sl → Int → GH → Option β) : Option β := gfun Try.prog (CF_ref14_Encode F_ref13_Encode F_ref12_Best F_ref12_PutSets F_ref12_Put F_ref01_Writer_Bytes) HF_ref14_Encode R Try.f11 [Value.slice a1.a a1.n a1.c, Value.int .i64 a2] h (fun v h' => exTup 2 v fun vs => exV (nth vs 0) fun v0 => exS (some v0) fun u31 => exV (nth vs 1) fun v1 => exI .i64 (some v1) fun u32 => K u31 u32 h')
set_option maxRecDepth 100000 in
theorem F_ref14_Encode_gen (F_ref13_Encode : Sl → Int → GH → (Sl → Int → GH → Option β) → Option β) (F_ref12_Best : Sl → GH → (Option Addr → GH → Option β) → Option β) (F_ref12_PutSets : Option Addr → Option Addr → GH → (GH → Option β) → Option β) (F_ref12_Put : Option Addr → Option Addr → Int → Int → GH → (GH → Option β) → Option β) (F_ref01_Writer_Bytes : Option Addr → GH → (Sl → GH → Option β) → Option β) (R : Nat) (a1 : Sl) (a2 : Int) (h : GH) (K : Sl → Int → GH → Option β) : G_ref14_Encode F_ref13_Encode F_ref12_Best F_ref12_PutSets F_ref12_Put F_ref01_Writer_Bytes R a1 a2 h K =
    F_ref13_Encode a1 a2 h fun r3 r4 h5 => (bif r4 != 0 then K ⟨none, 0, 0⟩ r4 h5 else (bif ((r3.n : Nat) : Int) == 0 then K ⟨none, 0, 0⟩ r4 h5 else F_ref12_Best r3 h5 fun r6 h7 => gnew [Value.slice none 0 0] 0 h7 fun g8 h9 => F_ref12_PutSets (some ⟨g8, 0, none⟩) r6 h9 fun h10 => F_ref14_Encode_l0 F_ref13_Encode F_ref12_Best F_ref12_PutSets F_ref12_Put F_ref01_Writer_Bytes R R r3 r6 (some ⟨g8, 0, none⟩) 0 0 h10 (fun w24 h25 => F_ref01_Writer_Bytes w24 h25 fun r26 h27 => K r26 0 h27))) := by kernel_rfl
noncomputable def F_ref14_Encode (R : Nat) (a1 : Sl) (a2 : Int) (h : GH) (K : Sl → Int → GH → Option β) : Option β := G_ref14_Encode (F_ref13_Encode R) (F_ref12_Best R) (F_ref12_PutSets R) (F_ref12_Put R) (F_ref01_Writer_Bytes R) R a1 a2 h K
set_option maxRecDepth 100000 in
theorem CF_ref14_Encode_sim {R : Nat} : SimOrc Try.prog (CF_ref14_Encode (F_ref13_Encode R) (F_ref12_Best R) (F_ref12_PutSets R) (F_ref12_Put R) (F_ref01_Writer_Bytes R) (β := β)) := by
  intro f args h K r hc
  unfold CF_ref14_Encode at hc
  cases hb : Nat.beq f 23 with
  | true =>
    rw [hb] at hc
    simp only [cond_true] at hc
    obtain rfl := Nat.eq_of_beq_eq_true hb
    split at hc
    · exact any_call (F_ref13_Encode_sim (K := K) hc)
    · cases hc
  | false =>
  rw [hb] at hc
  simp only [cond_false] at hc
  cases hb : Nat.beq f 24 with
  | true =>
    rw [hb] at hc
    simp only [cond_true] at hc
    obtain rfl := Nat.eq_of_beq_eq_true hb
    split at hc
    · exact any_call (F_ref12_Best_sim (K := K) hc)
    · cases hc
  | false =>
  rw [hb] at hc
  simp only [cond_false] at hc
  cases hb : Nat.beq f 25 with
  | true =>
    rw [hb] at hc
    simp only [cond_true] at hc
    obtain rfl := Nat.eq_of_beq_eq_true hb
    split at hc
    · exact any_call (F_ref12_PutSets_sim (K := K) hc)
    · cases hc
  | false =>
  rw [hb] at hc
  simp only [cond_false] at hc
  cases hb : Nat.beq f 26 with
  | true =>
    rw [hb] at hc
    simp only [cond_true] at hc
    obtain rfl := Nat.eq_of_beq_eq_true hb
    split at hc
    · exact any_call (F_ref12_Put_sim (K := K) hc)
    · cases hc
  | false =>
  rw [hb] at hc
  simp only [cond_false] at hc
  cases hb : Nat.beq f 27 with
  | true =>
    rw [hb] at hc
    simp only [cond_true] at hc
    obtain rfl := Nat.eq_of_beq_eq_true hb
    split at hc
    · exact any_call (F_ref01_Writer_Bytes_sim (K := K) hc)
    · cases hc
  | false =>
  rw [hb] at hc
  simp only [cond_false] at hc
  cases hc
set_option maxRecDepth 100000 in
theorem F_ref14_Encode_sim {R : Nat} {r : β} {a1 : Sl} {a2 : Int} {h : GH} {K : Value → GH → Option β} (hc : F_ref14_Encode R a1 a2 h (fun q0 q1 h' => K (Value.tuple #[Value.slice q0.a q0.n q0.c, Value.int .i64 q1]) h') = some r) : ∃ v h', K v h' = some r ∧ CallSim Try.prog 11 [Value.slice a1.a a1.n a1.c, Value.int .i64 a2] h v h' := by
  unfold F_ref14_Encode G_ref14_Encode at hc
  obtain ⟨v, h', hk, hs⟩ := gfun_sim (CF_ref14_Encode_sim (R := R)) mixed_ok (fun f h => by cases h) Try.func11 (by kernel_rfl) hc
  obtain ⟨vs, rfl, hl, hk⟩ := exTup_v hk
  obtain ⟨v0, t0, hk⟩ := exV_v hk
  obtain ⟨u0, e0, hk⟩ := exS_v hk; cases e0
  obtain ⟨v1, t1, hk⟩ := exV_v hk
  obtain ⟨u1, e1, hk⟩ := exI_v hk; cases e1
  obtain rfl := arr2 hl t0 t1
  exact ⟨_, h', hk, hs⟩
/-! F12 duffel/duffelref01.Same -/
def CF_ref01_Same  : Orc β := fun f args h K => none
def HF_ref01_Same : Hints := ⟨[(4, [0, 1, 5], [(0, [])], some [(4, .ty 4)])], [], []⟩
noncomputable def BF_ref01_Same : Code := match Try.f12.body with | some c => c | none => .skip
noncomputable def F_ref01_Same_l0  (R : Nat) (n : Nat) (y3 : Sl) (y4 : Sl) (y5 : Int) (h : GH) (K0 : GH → Option β) (Kr : Bool → GH → Option β) : Option β := gloop (gcode Try.prog (CF_ref01_Same ) Try.f12.ntmps HF_ref01_Same R (at_ [true, true, false, true, false, false] BF_ref01_Same)) [0, 1, 5] n [(0, Value.slice y3.a y3.n y3.c), (1, Value.slice y4.a y4.n y4.c), (5, Value.int .i64 y5)] h (fun i e' h' => bif Nat.beq i 0 then (K0 h') else none) (fun e' h' => exB (some (e'.get 4)) fun u17 => Kr u17 h')
set_option maxRecDepth 100000 in
theorem F_ref01_Same_l0_succ  (R : Nat) (n : Nat) (y3 : Sl) (y4 : Sl) (y5 : Int) (h : GH) (K0 : GH → Option β) (Kr : Bool → GH → Option β) : F_ref01_Same_l0  R (n + 1) y3 y4 y5 h K0 Kr =
    (bif decide (y5 < ((y3.n : Nat) : Int)) then exA y3.a fun g7 o8 => within y5 y3.n (exI .u8 (h.cell ⟨g7, o8 + y5.toNat * 1, none⟩) fun x9 => exA y4.a fun g10 o11 => within y5 y4.n (exI .u8 (h.cell ⟨g10, o11 + y5.toNat * 1, none⟩) fun x12 => (bif x9 != x12 then Kr false h else F_ref01_Same_l0 R n y3 y4 (IntKind.wrap .i64 (y5 + 1)) h K0 Kr))) else K0 h) := by kernel_rfl
noncomputable def G_ref01_Same  (R : Nat) (a1 : Sl) (a2 : Sl) (h : GH) (K : Bool → GH → Option β) : Option β := gfun Try.prog (CF_ref01_Same ) HF_ref01_Same R Try.f12 [Value.slice a1.a a1.n a1.c, Value.slice a2.a a2.n a2.c] h (fun v h' => exB (some v) fun u18 => K u18 h')
set_option maxRecDepth 100000 in
theorem F_ref01_Same_gen  (R : Nat) (a1 : Sl) (a2 : Sl) (h : GH) (K : Bool → GH → Option β) : G_ref01_Same  R a1 a2 h K =
    (bif ((a1.n : Nat) : Int) != ((a2.n : Nat) : Int) then K false h else F_ref01_Same_l0 R R a1 a2 0 h (fun h13 => K true h13) (fun w14 h15 => K w14 h15)) := by kernel_rfl
noncomputable def F_ref01_Same (R : Nat) (a1 : Sl) (a2 : Sl) (h : GH) (K : Bool → GH → Option β) : Option β := G_ref01_Same  R a1 a2 h K
theorem CF_ref01_Same_sim : SimOrc Try.prog (CF_ref01_Same (β := β)) := by
  intro f args h K r hc
  cases hc
set_option maxRecDepth 100000 in
theorem F_ref01_Same_sim {R : Nat} {r : β} {a1 : Sl} {a2 : Sl} {h : GH} {K : Value → GH → Option β} (hc : F_ref01_Same R a1 a2 h (fun q0 h' => K (Value.bool q0) h') = some r) : ∃ v h', K v h' = some r ∧ CallSim Try.prog 12 [Value.slice a1.a a1.n a1.c, Value.slice a2.a a2.n a2.c] h v h' := by
  unfold F_ref01_Same G_ref01_Same at hc
  obtain ⟨v, h', hk, hs⟩ := gfun_sim CF_ref01_Same_sim mixed_ok (fun f h => by cases h) Try.func12 (by kernel_rfl) hc
  obtain ⟨u0, e0, hk⟩ := exB_v hk; cases e0
  exact ⟨_, h', hk, hs⟩
/-! F13 duffel/duffellaw14.lives -/
def CF_law14_lives (F_reduce_Encode : Sl → Int → GH → (Sl → Int → GH → Option β) → Option β) : Orc β := fun f args h K => bif Nat.beq f 10 then (match args with | [.slice p1a p1n p1c, .int .i64 p2] => F_reduce_Encode ⟨p1a, p1n, p1c⟩ p2 h (fun q33 q34 h' => K (Value.tuple #[Value.slice q33.a q33.n q33.c, Value.int .i64 q34]) h') | _ => none) else none
def HF_law14_lives : Hints := ⟨[], [], []⟩
noncomputable def G_law14_lives (F_reduce_Encode : Sl → Int → GH → (Sl → Int → GH → Option β) → Option β) (R : Nat)  (h : GH) (K : Bool → GH → Option β) : Option β := gfun Try.prog (CF_law14_lives F_reduce_Encode) HF_law14_lives R Try.f13 [] h (fun v h' => exB (some v) fun u10 => K u10 h')
set_option maxRecDepth 100000 in
theorem F_law14_lives_gen (F_reduce_Encode : Sl → Int → GH → (Sl → Int → GH → Option β) → Option β) (R : Nat)  (h : GH) (K : Bool → GH → Option β) : G_law14_lives F_reduce_Encode R  h K =
    gnew [Value.int .u8 97] 1 h fun g1 h2 => gfrz g1 1 h2 (F_reduce_Encode ⟨(some ⟨g1, 0, none⟩), 1, 1⟩ 1 h2 fun r3 r4 h5 => (bif r4 == 0 then (bif ((r3.n : Nat) : Int) == 193 then exA r3.a fun g6 o7 => within 192 r3.n (exI .u8 (h5.cell ⟨g6, o7 + (192 : Int).toNat * 1, none⟩) fun x8 => K (x8 == 97) h5) else K false h5) else K false h5)) := by kernel_rfl
noncomputable def F_law14_lives (R : Nat)  (h : GH) (K : Bool → GH → Option β) : Option β := G_law14_lives (F_reduce_Encode R) R  h K
set_option maxRecDepth 100000 in
theorem CF_law14_lives_sim {R : Nat} : SimOrc Try.prog (CF_law14_lives (F_reduce_Encode R) (β := β)) := by
  intro f args h K r hc
  unfold CF_law14_lives at hc
  cases hb : Nat.beq f 10 with
  | true =>
    rw [hb] at hc
    simp only [cond_true] at hc
    obtain rfl := Nat.eq_of_beq_eq_true hb
    split at hc
    · exact any_call (F_reduce_Encode_sim (K := K) hc)
    · cases hc
  | false =>
  rw [hb] at hc
  simp only [cond_false] at hc
  cases hc
set_option maxRecDepth 100000 in
theorem F_law14_lives_sim {R : Nat} {r : β}  {h : GH} {K : Value → GH → Option β} (hc : F_law14_lives R  h (fun q0 h' => K (Value.bool q0) h') = some r) : ∃ v h', K v h' = some r ∧ CallSim Try.prog 13 [] h v h' := by
  unfold F_law14_lives G_law14_lives at hc
  obtain ⟨v, h', hk, hs⟩ := gfun_sim (CF_law14_lives_sim (R := R)) mixed_ok (fun f h => by cases h) Try.func13 (by kernel_rfl) hc
  obtain ⟨u0, e0, hk⟩ := exB_v hk; cases e0
  exact ⟨_, h', hk, hs⟩
/-! F3 duffel/duffellaw14.ReduceWrites -/
def CF_law14_ReduceWrites (F_ref01_Cut : Sl → Int → GH → (Sl → GH → Option β) → Option β) (F_ref01_Copy : Sl → GH → (Sl → GH → Option β) → Option β) (F_reduce_Encode : Sl → Int → GH → (Sl → Int → GH → Option β) → Option β) (F_ref14_Encode : Sl → Int → GH → (Sl → Int → GH → Option β) → Option β) (F_ref01_Same : Sl → Sl → GH → (Bool → GH → Option β) → Option β) (F_law14_lives : GH → (Bool → GH → Option β) → Option β) : Orc β := fun f args h K => bif Nat.beq f 8 then (match args with | [.slice p1a p1n p1c, .int .i64 p2] => F_ref01_Cut ⟨p1a, p1n, p1c⟩ p2 h (fun q4 h' => K (Value.slice q4.a q4.n q4.c) h') | _ => none) else (bif Nat.beq f 9 then (match args with | [.slice p1a p1n p1c] => F_ref01_Copy ⟨p1a, p1n, p1c⟩ h (fun q4 h' => K (Value.slice q4.a q4.n q4.c) h') | _ => none) else (bif Nat.beq f 10 then (match args with | [.slice p1a p1n p1c, .int .i64 p2] => F_reduce_Encode ⟨p1a, p1n, p1c⟩ p2 h (fun q33 q34 h' => K (Value.tuple #[Value.slice q33.a q33.n q33.c, Value.int .i64 q34]) h') | _ => none) else (bif Nat.beq f 11 then (match args with | [.slice p1a p1n p1c, .int .i64 p2] => F_ref14_Encode ⟨p1a, p1n, p1c⟩ p2 h (fun q28 q29 h' => K (Value.tuple #[Value.slice q28.a q28.n q28.c, Value.int .i64 q29]) h') | _ => none) else (bif Nat.beq f 12 then (match args with | [.slice p1a p1n p1c, .slice p2a p2n p2c] => F_ref01_Same ⟨p1a, p1n, p1c⟩ ⟨p2a, p2n, p2c⟩ h (fun q16 h' => K (Value.bool q16) h') | _ => none) else (bif Nat.beq f 13 then (match args with | [] => F_law14_lives  h (fun q9 h' => K (Value.bool q9) h') | _ => none) else none)))))
def HF_law14_ReduceWrites : Hints := ⟨[], [], []⟩
noncomputable def G_law14_ReduceWrites (F_ref01_Cut : Sl → Int → GH → (Sl → GH → Option β) → Option β) (F_ref01_Copy : Sl → GH → (Sl → GH → Option β) → Option β) (F_reduce_Encode : Sl → Int → GH → (Sl → Int → GH → Option β) → Option β) (F_ref14_Encode : Sl → Int → GH → (Sl → Int → GH → Option β) → Option β) (F_ref01_Same : Sl → Sl → GH → (Bool → GH → Option β) → Option β) (F_law14_lives : GH → (Bool → GH → Option β) → Option β) (R : Nat) (a1 : Sl) (a2 : Int) (h : GH) (K : Bool → GH → Option β) : Option β := gfun Try.prog (CF_law14_ReduceWrites F_ref01_Cut F_ref01_Copy F_reduce_Encode F_ref14_Encode F_ref01_Same F_law14_lives) HF_law14_ReduceWrites R Try.f3 [Value.slice a1.a a1.n a1.c, Value.int .i64 a2] h (fun v h' => exB (some v) fun u20 => K u20 h')
set_option maxRecDepth 100000 in
theorem F_law14_ReduceWrites_gen (F_ref01_Cut : Sl → Int → GH → (Sl → GH → Option β) → Option β) (F_ref01_Copy : Sl → GH → (Sl → GH → Option β) → Option β) (F_reduce_Encode : Sl → Int → GH → (Sl → Int → GH → Option β) → Option β) (F_ref14_Encode : Sl → Int → GH → (Sl → Int → GH → Option β) → Option β) (F_ref01_Same : Sl → Sl → GH → (Bool → GH → Option β) → Option β) (F_law14_lives : GH → (Bool → GH → Option β) → Option β) (R : Nat) (a1 : Sl) (a2 : Int) (h : GH) (K : Bool → GH → Option β) : G_law14_ReduceWrites F_ref01_Cut F_ref01_Copy F_reduce_Encode F_ref14_Encode F_ref01_Same F_law14_lives R a1 a2 h K =
    F_ref01_Cut a1 200 h fun r3 h4 => F_ref01_Copy r3 h4 fun r5 h6 => F_reduce_Encode r5 a2 h6 fun r7 r8 h9 => F_ref14_Encode r3 a2 h9 fun r10 r11 h12 => F_ref01_Same r7 r10 h12 fun r13 h14 => (bif r13 then (bif r8 == r11 then F_ref01_Same r5 r3 h14 fun r15 h16 => (bif r15 then F_law14_lives h16 fun r17 h18 => K r17 h18 else K false h16) else K false h14) else K false h14) := by kernel_rfl
noncomputable def F_law14_ReduceWrites (R : Nat) (a1 : Sl) (a2 : Int) (h : GH) (K : Bool → GH → Option β) : Option β := G_law14_ReduceWrites (F_ref01_Cut R) (F_ref01_Copy R) (F_reduce_Encode R) (F_ref14_Encode R) (F_ref01_Same R) (F_law14_lives R) R a1 a2 h K
set_option maxRecDepth 100000 in
theorem CF_law14_ReduceWrites_sim {R : Nat} : SimOrc Try.prog (CF_law14_ReduceWrites (F_ref01_Cut R) (F_ref01_Copy R) (F_reduce_Encode R) (F_ref14_Encode R) (F_ref01_Same R) (F_law14_lives R) (β := β)) := by
  intro f args h K r hc
  unfold CF_law14_ReduceWrites at hc
  cases hb : Nat.beq f 8 with
  | true =>
    rw [hb] at hc
    simp only [cond_true] at hc
    obtain rfl := Nat.eq_of_beq_eq_true hb
    split at hc
    · exact any_call (F_ref01_Cut_sim (K := K) hc)
    · cases hc
  | false =>
  rw [hb] at hc
  simp only [cond_false] at hc
  cases hb : Nat.beq f 9 with
  | true =>
    rw [hb] at hc
    simp only [cond_true] at hc
    obtain rfl := Nat.eq_of_beq_eq_true hb
    split at hc
    · exact any_call (F_ref01_Copy_sim (K := K) hc)
    · cases hc
  | false =>
  rw [hb] at hc
  simp only [cond_false] at hc
  cases hb : Nat.beq f 10 with
  | true =>
    rw [hb] at hc
    simp only [cond_true] at hc
    obtain rfl := Nat.eq_of_beq_eq_true hb
    split at hc
    · exact any_call (F_reduce_Encode_sim (K := K) hc)
    · cases hc
  | false =>
  rw [hb] at hc
  simp only [cond_false] at hc
  cases hb : Nat.beq f 11 with
  | true =>
    rw [hb] at hc
    simp only [cond_true] at hc
    obtain rfl := Nat.eq_of_beq_eq_true hb
    split at hc
    · exact any_call (F_ref14_Encode_sim (K := K) hc)
    · cases hc
  | false =>
  rw [hb] at hc
  simp only [cond_false] at hc
  cases hb : Nat.beq f 12 with
  | true =>
    rw [hb] at hc
    simp only [cond_true] at hc
    obtain rfl := Nat.eq_of_beq_eq_true hb
    split at hc
    · exact any_call (F_ref01_Same_sim (K := K) hc)
    · cases hc
  | false =>
  rw [hb] at hc
  simp only [cond_false] at hc
  cases hb : Nat.beq f 13 with
  | true =>
    rw [hb] at hc
    simp only [cond_true] at hc
    obtain rfl := Nat.eq_of_beq_eq_true hb
    split at hc
    · exact any_call (F_law14_lives_sim (K := K) hc)
    · cases hc
  | false =>
  rw [hb] at hc
  simp only [cond_false] at hc
  cases hc
set_option maxRecDepth 100000 in
theorem F_law14_ReduceWrites_sim {R : Nat} {r : β} {a1 : Sl} {a2 : Int} {h : GH} {K : Value → GH → Option β} (hc : F_law14_ReduceWrites R a1 a2 h (fun q0 h' => K (Value.bool q0) h') = some r) : ∃ v h', K v h' = some r ∧ CallSim Try.prog 3 [Value.slice a1.a a1.n a1.c, Value.int .i64 a2] h v h' := by
  unfold F_law14_ReduceWrites G_law14_ReduceWrites at hc
  obtain ⟨v, h', hk, hs⟩ := gfun_sim (CF_law14_ReduceWrites_sim (R := R)) mixed_ok (fun f h => by cases h) Try.func3 (by kernel_rfl) hc
  obtain ⟨u0, e0, hk⟩ := exB_v hk; cases e0
  exact ⟨_, h', hk, hs⟩
end
end Go.Proofs.Ytdmemmpkkibckaa.Gx
