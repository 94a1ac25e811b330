/- Functions of the program as the plain machine has them, each with its equation. Printed by a program of this place (wip/gx/gx.py) out of the translation. No condition. -/
import Derived.Test.YtplkdjbcdeakaaaGxV
import Derived.Test.YtplkdjbcdeakaaaProg
namespace Go.Proofs.Ytplkdjbcdeakaaa.Gx
open Go
set_option linter.unusedVariables false
theorem mixed_ok : Try.prog.follows .mixedOrders = true := by kernel_rfl
section
variable {β : Type}
/-! F8 duffel/duffelref01.Cut -/
def CF8  : Orc β := fun f args h K => none
def HF8 : Hints := ⟨[], []⟩
noncomputable def G8  (R : Nat) (a1 : Sl) (a2 : Int) (h : GH) (K : Sl → GH → Option β) : Option β := gfun Try.prog (CF8 ) HF8 R Try.f8 [Value.slice a1.a a1.n a1.c, Value.int .i64 a2] h (fun v h' => exS (some v) fun u5 => K u5 h')
set_option maxRecDepth 100000 in
theorem F8_gen  (R : Nat) (a1 : Sl) (a2 : Int) (h : GH) (K : Sl → GH → Option β) : G8  R a1 a2 h K =
    (bif decide (((a1.n : Nat) : Int) > a2) then bnd a2 a1.c fun m3 => K ⟨addO a1.a (0 * 1), m3 - 0, a1.c - 0⟩ h else K a1 h) := by kernel_rfl
noncomputable def F8 (a1 : Sl) (a2 : Int) (h : GH) (K : Sl → GH → Option β) : Option β := G8  rounds a1 a2 h K
theorem CF8_sim : SimOrc Try.prog (CF8 (β := β)) := by
  intro f args h K r hc
  cases hc
set_option maxRecDepth 100000 in
theorem F8_sim {r : β} {a1 : Sl} {a2 : Int} {h : GH} {K : Value → GH → Option β} (hc : F8 a1 a2 h (fun q0 h' => K (Value.slice q0.a q0.n q0.c) h') = some r) : ∃ v h', K v h' = some r ∧ CallSim Try.prog 8 [Value.slice a1.a a1.n a1.c, Value.int .i64 a2] h v h' := by
  unfold F8 G8 at hc
  obtain ⟨v, h', hk, hs⟩ := gfun_sim CF8_sim mixed_ok Try.func8 (by kernel_rfl) hc
  obtain ⟨u0, e0, hk⟩ := exS_v hk; cases e0
  exact ⟨_, h', hk, hs⟩
/-! F23 duffel/dle.right -/
def CF23  : Orc β := fun f args h K => none
def HF23 : Hints := ⟨[], []⟩
noncomputable def G23  (R : Nat) (a1 : Int) (h : GH) (K : Bool → GH → Option β) : Option β := gfun Try.prog (CF23 ) HF23 R Try.f23 [Value.int .i64 a1] h (fun v h' => exB (some v) fun u3 => K u3 h')
set_option maxRecDepth 100000 in
theorem F23_gen  (R : Nat) (a1 : Int) (h : GH) (K : Bool → GH → Option β) : G23  R a1 h K =
    (bif decide (a1 ≥ 1) then K (decide (a1 ≤ 4)) h else K false h) := by kernel_rfl
noncomputable def F23 (a1 : Int) (h : GH) (K : Bool → GH → Option β) : Option β := G23  rounds a1 h K
theorem CF23_sim : SimOrc Try.prog (CF23 (β := β)) := by
  intro f args h K r hc
  cases hc
set_option maxRecDepth 100000 in
theorem F23_sim {r : β} {a1 : Int} {h : GH} {K : Value → GH → Option β} (hc : F23 a1 h (fun q0 h' => K (Value.bool q0) h') = some r) : ∃ v h', K v h' = some r ∧ CallSim Try.prog 23 [Value.int .i64 a1] h v h' := by
  unfold F23 G23 at hc
  obtain ⟨v, h', hk, hs⟩ := gfun_sim CF23_sim mixed_ok Try.func23 (by kernel_rfl) hc
  obtain ⟨u0, e0, hk⟩ := exB_v hk; cases e0
  exact ⟨_, h', hk, hs⟩
/-! F24 duffel/hist.New -/
def CF24  : Orc β := fun f args h K => none
def HF24 : Hints := ⟨[], []⟩
noncomputable def G24  (R : Nat) (a1 : Int) (a2 : Int) (a3 : Bool) (h : GH) (K : Option Addr → Int → GH → Option β) : Option β := gfun Try.prog (CF24 ) HF24 R Try.f24 [Value.int .i64 a1, Value.int .i64 a2, Value.bool a3] h (fun v h' => exTup 2 v fun vs => exV (nth vs 0) fun v0 => exP (some v0) fun u8 => exV (nth vs 1) fun v1 => exI .i64 (some v1) fun u9 => K u8 u9 h')
set_option maxRecDepth 100000 in
theorem F24_gen  (R : Nat) (a1 : Int) (a2 : Int) (a3 : Bool) (h : GH) (K : Option Addr → Int → GH → Option β) : G24  R a1 a2 a3 h K =
    (bif decide (a1 < 1) then K none 2 h else (bif decide (a1 > 65536) then K none 2 h else (bif decide (a2 < 0) then K none 2 h else gnew [Value.int .i64 a1, Value.int .i64 a2, Value.bool a3, Value.slice none 0 0] 0 h fun g4 h5 => K (some ⟨g4, 0, none⟩) 0 h5))) := by kernel_rfl
noncomputable def F24 (a1 : Int) (a2 : Int) (a3 : Bool) (h : GH) (K : Option Addr → Int → GH → Option β) : Option β := G24  rounds a1 a2 a3 h K
theorem CF24_sim : SimOrc Try.prog (CF24 (β := β)) := by
  intro f args h K r hc
  cases hc
set_option maxRecDepth 100000 in
theorem F24_sim {r : β} {a1 : Int} {a2 : Int} {a3 : Bool} {h : GH} {K : Value → GH → Option β} (hc : F24 a1 a2 a3 h (fun q0 q1 h' => K (Value.tuple #[Value.pointer q0, Value.int .i64 q1]) h') = some r) : ∃ v h', K v h' = some r ∧ CallSim Try.prog 24 [Value.int .i64 a1, Value.int .i64 a2, Value.bool a3] h v h' := by
  unfold F24 G24 at hc
  obtain ⟨v, h', hk, hs⟩ := gfun_sim CF24_sim mixed_ok Try.func24 (by kernel_rfl) hc
  obtain ⟨vs, rfl, hl, hk⟩ := exTup_v hk
  obtain ⟨v0, t0, hk⟩ := exV_v hk
  obtain ⟨u0, e0, hk⟩ := exP_v hk; cases e0
  obtain ⟨v1, t1, hk⟩ := exV_v hk
  obtain ⟨u1, e1, hk⟩ := exI_v hk; cases e1
  obtain rfl := arr2 hl t0 t1
  exact ⟨_, h', hk, hs⟩
/-! F9 duffel/dle.New -/
def CF9 (F23 : Int → GH → (Bool → GH → Option β) → Option β) (F24 : Int → Int → Bool → GH → (Option Addr → Int → GH → Option β) → Option β) : Orc β := fun f args h K => bif Nat.beq f 23 then (match args with | [.int .i64 p1] => F23 p1 h (fun q2 h' => K (Value.bool q2) h') | _ => none) else (bif Nat.beq f 24 then (match args with | [.int .i64 p1, .int .i64 p2, .bool p3] => F24 p1 p2 p3 h (fun q6 q7 h' => K (Value.tuple #[Value.pointer q6, Value.int .i64 q7]) h') | _ => none) else none)
def HF9 : Hints := ⟨[], []⟩
noncomputable def G9 (F23 : Int → GH → (Bool → GH → Option β) → Option β) (F24 : Int → Int → Bool → GH → (Option Addr → Int → GH → Option β) → Option β) (R : Nat) (a1 : Int) (a2 : Int) (h : GH) (K : Option Addr → Int → GH → Option β) : Option β := gfun Try.prog (CF9 F23 F24) HF9 R Try.f9 [Value.int .i64 a1, Value.int .i64 a2] h (fun v h' => exTup 2 v fun vs => exV (nth vs 0) fun v0 => exP (some v0) fun u12 => exV (nth vs 1) fun v1 => exI .i64 (some v1) fun u13 => K u12 u13 h')
set_option maxRecDepth 100000 in
theorem F9_gen (F23 : Int → GH → (Bool → GH → Option β) → Option β) (F24 : Int → Int → Bool → GH → (Option Addr → Int → GH → Option β) → Option β) (R : Nat) (a1 : Int) (a2 : Int) (h : GH) (K : Option Addr → Int → GH → Option β) : G9 F23 F24 R a1 a2 h K =
    F23 a1 h fun r3 h4 => (bif !r3 then K none 2 h4 else F24 65536 a2 true h4 fun r5 r6 h7 => (bif r6 != 0 then K none r6 h7 else gnew [Value.int .i64 a1, Value.pointer r5, Value.int .i64 0, Value.int .i64 0, Value.int .i64 0] 0 h7 fun g8 h9 => K (some ⟨g8, 0, none⟩) 0 h9)) := by kernel_rfl
noncomputable def F9 (a1 : Int) (a2 : Int) (h : GH) (K : Option Addr → Int → GH → Option β) : Option β := G9 F23 F24 rounds a1 a2 h K
set_option maxRecDepth 100000 in
theorem CF9_sim : SimOrc Try.prog (CF9 F23 F24 (β := β)) := by
  intro f args h K r hc
  unfold CF9 at hc
  cases hb : Nat.beq f 23 with
  | true =>
    rw [hb] at hc
    simp only [cond_true] at hc
    obtain rfl := Nat.eq_of_beq_eq_true hb
    split at hc <;> first | exact F23_sim hc | cases hc
  | false =>
  rw [hb] at hc
  simp only [cond_false] at hc
  cases hb : Nat.beq f 24 with
  | true =>
    rw [hb] at hc
    simp only [cond_true] at hc
    obtain rfl := Nat.eq_of_beq_eq_true hb
    split at hc <;> first | exact F24_sim hc | cases hc
  | false =>
  rw [hb] at hc
  simp only [cond_false] at hc
  cases hc
set_option maxRecDepth 100000 in
theorem F9_sim {r : β} {a1 : Int} {a2 : Int} {h : GH} {K : Value → GH → Option β} (hc : F9 a1 a2 h (fun q0 q1 h' => K (Value.tuple #[Value.pointer q0, Value.int .i64 q1]) h') = some r) : ∃ v h', K v h' = some r ∧ CallSim Try.prog 9 [Value.int .i64 a1, Value.int .i64 a2] h v h' := by
  unfold F9 G9 at hc
  obtain ⟨v, h', hk, hs⟩ := gfun_sim CF9_sim mixed_ok Try.func9 (by kernel_rfl) hc
  obtain ⟨vs, rfl, hl, hk⟩ := exTup_v hk
  obtain ⟨v0, t0, hk⟩ := exV_v hk
  obtain ⟨u0, e0, hk⟩ := exP_v hk; cases e0
  obtain ⟨v1, t1, hk⟩ := exV_v hk
  obtain ⟨u1, e1, hk⟩ := exI_v hk; cases e1
  obtain rfl := arr2 hl t0 t1
  exact ⟨_, h', hk, hs⟩
/-! F10 duffel/duffelref13.New -/
def CF10  : Orc β := fun f args h K => none
def HF10 : Hints := ⟨[], []⟩
noncomputable def G10  (R : Nat) (a1 : Int) (a2 : Int) (h : GH) (K : Option Addr → Int → GH → Option β) : Option β := gfun Try.prog (CF10 ) HF10 R Try.f10 [Value.int .i64 a1, Value.int .i64 a2] h (fun v h' => exTup 2 v fun vs => exV (nth vs 0) fun v0 => exP (some v0) fun u9 => exV (nth vs 1) fun v1 => exI .i64 (some v1) fun u10 => K u9 u10 h')
set_option maxRecDepth 100000 in
theorem F10_gen  (R : Nat) (a1 : Int) (a2 : Int) (h : GH) (K : Option Addr → Int → GH → Option β) : G10  R a1 a2 h K =
    (bif decide (a1 < 1) then K none 2 h else (bif decide (a1 > 4) then K none 2 h else (bif decide (a2 < 0) then K none 2 h else gnew [Value.int .i64 65536, Value.int .i64 a2, Value.bool true, Value.slice none 0 0] 0 h fun g3 h4 => gnew [Value.int .i64 a1, Value.pointer (some ⟨g3, 0, none⟩), Value.int .i64 0, Value.int .i64 0, Value.int .i64 0] 0 h4 fun g5 h6 => K (some ⟨g5, 0, none⟩) 0 h6))) := by kernel_rfl
noncomputable def F10 (a1 : Int) (a2 : Int) (h : GH) (K : Option Addr → Int → GH → Option β) : Option β := G10  rounds a1 a2 h K
theorem CF10_sim : SimOrc Try.prog (CF10 (β := β)) := by
  intro f args h K r hc
  cases hc
set_option maxRecDepth 100000 in
theorem F10_sim {r : β} {a1 : Int} {a2 : Int} {h : GH} {K : Value → GH → Option β} (hc : F10 a1 a2 h (fun q0 q1 h' => K (Value.tuple #[Value.pointer q0, Value.int .i64 q1]) h') = some r) : ∃ v h', K v h' = some r ∧ CallSim Try.prog 10 [Value.int .i64 a1, Value.int .i64 a2] h v h' := by
  unfold F10 G10 at hc
  obtain ⟨v, h', hk, hs⟩ := gfun_sim CF10_sim mixed_ok Try.func10 (by kernel_rfl) hc
  obtain ⟨vs, rfl, hl, hk⟩ := exTup_v hk
  obtain ⟨v0, t0, hk⟩ := exV_v hk
  obtain ⟨u0, e0, hk⟩ := exP_v hk; cases e0
  obtain ⟨v1, t1, hk⟩ := exV_v hk
  obtain ⟨u1, e1, hk⟩ := exI_v hk; cases e1
  obtain rfl := arr2 hl t0 t1
  exact ⟨_, h', hk, hs⟩
/-! F25 (*duffel/dle.Machine).ok -/
def CF25  : Orc β := fun f args h K => none
def HF25 : Hints := ⟨[], []⟩
noncomputable def G25  (R : Nat) (a1 : Option Addr) (h : GH) (K : Bool → GH → Option β) : Option β := gfun Try.prog (CF25 ) HF25 R Try.f25 [Value.pointer a1] h (fun v h' => exB (some v) fun u6 => K u6 h')
set_option maxRecDepth 100000 in
theorem F25_gen  (R : Nat) (a1 : Option Addr) (h : GH) (K : Bool → GH → Option β) : G25  R a1 h K =
    (bif !a1.isNone then exA a1 fun g2 o3 => exP (h.cell ⟨g2, o3 + 1, none⟩) fun x4 => K (!x4.isNone) h else K false h) := by kernel_rfl
noncomputable def F25 (a1 : Option Addr) (h : GH) (K : Bool → GH → Option β) : Option β := G25  rounds a1 h K
theorem CF25_sim : SimOrc Try.prog (CF25 (β := β)) := by
  intro f args h K r hc
  cases hc
set_option maxRecDepth 100000 in
theorem F25_sim {r : β} {a1 : Option Addr} {h : GH} {K : Value → GH → Option β} (hc : F25 a1 h (fun q0 h' => K (Value.bool q0) h') = some r) : ∃ v h', K v h' = some r ∧ CallSim Try.prog 25 [Value.pointer a1] h v h' := by
  unfold F25 G25 at hc
  obtain ⟨v, h', hk, hs⟩ := gfun_sim CF25_sim mixed_ok Try.func25 (by kernel_rfl) hc
  obtain ⟨u0, e0, hk⟩ := exB_v hk; cases e0
  exact ⟨_, h', hk, hs⟩
/-! F17 (*duffel/dle.Machine).Rest -/
def CF17 (F25 : Option Addr → GH → (Bool → GH → Option β) → Option β) : Orc β := fun f args h K => bif Nat.beq f 25 then (match args with | [.pointer p1] => F25 p1 h (fun q5 h' => K (Value.bool q5) h') | _ => none) else none
def HF17 : Hints := ⟨[], []⟩
noncomputable def G17 (F25 : Option Addr → GH → (Bool → GH → Option β) → Option β) (R : Nat) (a1 : Option Addr) (h : GH) (K : Bool → GH → Option β) : Option β := gfun Try.prog (CF17 F25) HF17 R Try.f17 [Value.pointer a1] h (fun v h' => exB (some v) fun u8 => K u8 h')
set_option maxRecDepth 100000 in
theorem F17_gen (F25 : Option Addr → GH → (Bool → GH → Option β) → Option β) (R : Nat) (a1 : Option Addr) (h : GH) (K : Bool → GH → Option β) : G17 F25 R a1 h K =
    F25 a1 h fun r2 h3 => (bif r2 then exA a1 fun g4 o5 => exI .i64 (h3.cell ⟨g4, o5 + 2, none⟩) fun x6 => K (x6 == 0) h3 else K false h3) := by kernel_rfl
noncomputable def F17 (a1 : Option Addr) (h : GH) (K : Bool → GH → Option β) : Option β := G17 F25 rounds a1 h K
set_option maxRecDepth 100000 in
theorem CF17_sim : SimOrc Try.prog (CF17 F25 (β := β)) := by
  intro f args h K r hc
  unfold CF17 at hc
  cases hb : Nat.beq f 25 with
  | true =>
    rw [hb] at hc
    simp only [cond_true] at hc
    obtain rfl := Nat.eq_of_beq_eq_true hb
    split at hc <;> first | exact F25_sim hc | cases hc
  | false =>
  rw [hb] at hc
  simp only [cond_false] at hc
  cases hc
set_option maxRecDepth 100000 in
theorem F17_sim {r : β} {a1 : Option Addr} {h : GH} {K : Value → GH → Option β} (hc : F17 a1 h (fun q0 h' => K (Value.bool q0) h') = some r) : ∃ v h', K v h' = some r ∧ CallSim Try.prog 17 [Value.pointer a1] h v h' := by
  unfold F17 G17 at hc
  obtain ⟨v, h', hk, hs⟩ := gfun_sim CF17_sim mixed_ok Try.func17 (by kernel_rfl) hc
  obtain ⟨u0, e0, hk⟩ := exB_v hk; cases e0
  exact ⟨_, h', hk, hs⟩
/-! F38 (*duffel/hist.Out).ok -/
def CF38  : Orc β := fun f args h K => none
def HF38 : Hints := ⟨[], []⟩
noncomputable def G38  (R : Nat) (a1 : Option Addr) (h : GH) (K : Bool → GH → Option β) : Option β := gfun Try.prog (CF38 ) HF38 R Try.f38 [Value.pointer a1] h (fun v h' => exB (some v) fun u6 => K u6 h')
set_option maxRecDepth 100000 in
theorem F38_gen  (R : Nat) (a1 : Option Addr) (h : GH) (K : Bool → GH → Option β) : G38  R a1 h K =
    (bif !a1.isNone then exA a1 fun g2 o3 => exI .i64 (h.cell ⟨g2, o3 + 0, none⟩) fun x4 => K (decide (x4 > 0)) h else K false h) := by kernel_rfl
noncomputable def F38 (a1 : Option Addr) (h : GH) (K : Bool → GH → Option β) : Option β := G38  rounds a1 h K
theorem CF38_sim : SimOrc Try.prog (CF38 (β := β)) := by
  intro f args h K r hc
  cases hc
set_option maxRecDepth 100000 in
theorem F38_sim {r : β} {a1 : Option Addr} {h : GH} {K : Value → GH → Option β} (hc : F38 a1 h (fun q0 h' => K (Value.bool q0) h') = some r) : ∃ v h', K v h' = some r ∧ CallSim Try.prog 38 [Value.pointer a1] h v h' := by
  unfold F38 G38 at hc
  obtain ⟨v, h', hk, hs⟩ := gfun_sim CF38_sim mixed_ok Try.func38 (by kernel_rfl) hc
  obtain ⟨u0, e0, hk⟩ := exB_v hk; cases e0
  exact ⟨_, h', hk, hs⟩
/-! F33 (*duffel/hist.Out).Full -/
def CF33 (F38 : Option Addr → GH → (Bool → GH → Option β) → Option β) : Orc β := fun f args h K => bif Nat.beq f 38 then (match args with | [.pointer p1] => F38 p1 h (fun q5 h' => K (Value.bool q5) h') | _ => none) else none
def HF33 : Hints := ⟨[], []⟩
noncomputable def G33 (F38 : Option Addr → GH → (Bool → GH → Option β) → Option β) (R : Nat) (a1 : Option Addr) (h : GH) (K : Bool → GH → Option β) : Option β := gfun Try.prog (CF33 F38) HF33 R Try.f33 [Value.pointer a1] h (fun v h' => exB (some v) fun u11 => K u11 h')
set_option maxRecDepth 100000 in
theorem F33_gen (F38 : Option Addr → GH → (Bool → GH → Option β) → Option β) (R : Nat) (a1 : Option Addr) (h : GH) (K : Bool → GH → Option β) : G33 F38 R a1 h K =
    F38 a1 h fun r2 h3 => (bif r2 then exA a1 fun g4 o5 => exS (h3.cell ⟨g4, o5 + 3, none⟩) fun x6 => exA a1 fun g7 o8 => exI .i64 (h3.cell ⟨g7, o8 + 1, none⟩) fun x9 => K (((x6.n : Nat) : Int) == x9) h3 else K false h3) := by kernel_rfl
noncomputable def F33 (a1 : Option Addr) (h : GH) (K : Bool → GH → Option β) : Option β := G33 F38 rounds a1 h K
set_option maxRecDepth 100000 in
theorem CF33_sim : SimOrc Try.prog (CF33 F38 (β := β)) := by
  intro f args h K r hc
  unfold CF33 at hc
  cases hb : Nat.beq f 38 with
  | true =>
    rw [hb] at hc
    simp only [cond_true] at hc
    obtain rfl := Nat.eq_of_beq_eq_true hb
    split at hc <;> first | exact F38_sim hc | cases hc
  | false =>
  rw [hb] at hc
  simp only [cond_false] at hc
  cases hc
set_option maxRecDepth 100000 in
theorem F33_sim {r : β} {a1 : Option Addr} {h : GH} {K : Value → GH → Option β} (hc : F33 a1 h (fun q0 h' => K (Value.bool q0) h') = some r) : ∃ v h', K v h' = some r ∧ CallSim Try.prog 33 [Value.pointer a1] h v h' := by
  unfold F33 G33 at hc
  obtain ⟨v, h', hk, hs⟩ := gfun_sim CF33_sim mixed_ok Try.func33 (by kernel_rfl) hc
  obtain ⟨u0, e0, hk⟩ := exB_v hk; cases e0
  exact ⟨_, h', hk, hs⟩
/-! F15 (*duffel/dle.Machine).Full -/
def CF15 (F17 : Option Addr → GH → (Bool → GH → Option β) → Option β) (F33 : Option Addr → GH → (Bool → GH → Option β) → Option β) : Orc β := fun f args h K => bif Nat.beq f 17 then (match args with | [.pointer p1] => F17 p1 h (fun q7 h' => K (Value.bool q7) h') | _ => none) else (bif Nat.beq f 33 then (match args with | [.pointer p1] => F33 p1 h (fun q10 h' => K (Value.bool q10) h') | _ => none) else none)
def HF15 : Hints := ⟨[], []⟩
noncomputable def G15 (F17 : Option Addr → GH → (Bool → GH → Option β) → Option β) (F33 : Option Addr → GH → (Bool → GH → Option β) → Option β) (R : Nat) (a1 : Option Addr) (h : GH) (K : Bool → GH → Option β) : Option β := gfun Try.prog (CF15 F17 F33) HF15 R Try.f15 [Value.pointer a1] h (fun v h' => exB (some v) fun u10 => K u10 h')
set_option maxRecDepth 100000 in
theorem F15_gen (F17 : Option Addr → GH → (Bool → GH → Option β) → Option β) (F33 : Option Addr → GH → (Bool → GH → Option β) → Option β) (R : Nat) (a1 : Option Addr) (h : GH) (K : Bool → GH → Option β) : G15 F17 F33 R a1 h K =
    F17 a1 h fun r2 h3 => (bif r2 then exA a1 fun g4 o5 => exP (h3.cell ⟨g4, o5 + 1, none⟩) fun x6 => F33 x6 h3 fun r7 h8 => K r7 h8 else K false h3) := by kernel_rfl
noncomputable def F15 (a1 : Option Addr) (h : GH) (K : Bool → GH → Option β) : Option β := G15 F17 F33 rounds a1 h K
set_option maxRecDepth 100000 in
theorem CF15_sim : SimOrc Try.prog (CF15 F17 F33 (β := β)) := by
  intro f args h K r hc
  unfold CF15 at hc
  cases hb : Nat.beq f 17 with
  | true =>
    rw [hb] at hc
    simp only [cond_true] at hc
    obtain rfl := Nat.eq_of_beq_eq_true hb
    split at hc <;> first | exact F17_sim hc | cases hc
  | false =>
  rw [hb] at hc
  simp only [cond_false] at hc
  cases hb : Nat.beq f 33 with
  | true =>
    rw [hb] at hc
    simp only [cond_true] at hc
    obtain rfl := Nat.eq_of_beq_eq_true hb
    split at hc <;> first | exact F33_sim hc | cases hc
  | false =>
  rw [hb] at hc
  simp only [cond_false] at hc
  cases hc
set_option maxRecDepth 100000 in
theorem F15_sim {r : β} {a1 : Option Addr} {h : GH} {K : Value → GH → Option β} (hc : F15 a1 h (fun q0 h' => K (Value.bool q0) h') = some r) : ∃ v h', K v h' = some r ∧ CallSim Try.prog 15 [Value.pointer a1] h v h' := by
  unfold F15 G15 at hc
  obtain ⟨v, h', hk, hs⟩ := gfun_sim CF15_sim mixed_ok Try.func15 (by kernel_rfl) hc
  obtain ⟨u0, e0, hk⟩ := exB_v hk; cases e0
  exact ⟨_, h', hk, hs⟩
/-! F26 (*duffel/hist.Out).Lit -/
def CF26 (F38 : Option Addr → GH → (Bool → GH → Option β) → Option β) : Orc β := fun f args h K => bif Nat.beq f 38 then (match args with | [.pointer p1] => F38 p1 h (fun q5 h' => K (Value.bool q5) h') | _ => none) else none
def HF26 : Hints := ⟨[], []⟩
noncomputable def G26 (F38 : Option Addr → GH → (Bool → GH → Option β) → Option β) (R : Nat) (a1 : Option Addr) (a2 : Int) (h : GH) (K : Int → GH → Option β) : Option β := gfun Try.prog (CF26 F38) HF26 R Try.f26 [Value.pointer a1, Value.int .u8 a2] h (fun v h' => exI .i64 (some v) fun u22 => K u22 h')
set_option maxRecDepth 100000 in
theorem F26_gen (F38 : Option Addr → GH → (Bool → GH → Option β) → Option β) (R : Nat) (a1 : Option Addr) (a2 : Int) (h : GH) (K : Int → GH → Option β) : G26 F38 R a1 a2 h K =
    F38 a1 h fun r3 h4 => (bif !r3 then K 1 h4 else exA a1 fun g5 o6 => exS (h4.cell ⟨g5, o6 + 3, none⟩) fun x7 => exA a1 fun g8 o9 => exI .i64 (h4.cell ⟨g8, o9 + 1, none⟩) fun x10 => (bif ((x7.n : Nat) : Int) == x10 then K 9 h4 else exA a1 fun g11 o12 => exS (h4.cell ⟨g11, o12 + 3, none⟩) fun x13 => gnew [Value.int .u8 a2] 1 h4 fun g14 h15 => gappS 1 1 x13 ⟨(some ⟨g14, 0, none⟩), 1, 1⟩ h15 fun s16 h17 => exA a1 fun g18 o19 => gput g18 (o19 + 3) [Value.slice s16.a s16.n s16.c] h17 fun h20 => K 0 h20)) := by kernel_rfl
noncomputable def F26 (a1 : Option Addr) (a2 : Int) (h : GH) (K : Int → GH → Option β) : Option β := G26 F38 rounds a1 a2 h K
set_option maxRecDepth 100000 in
theorem CF26_sim : SimOrc Try.prog (CF26 F38 (β := β)) := by
  intro f args h K r hc
  unfold CF26 at hc
  cases hb : Nat.beq f 38 with
  | true =>
    rw [hb] at hc
    simp only [cond_true] at hc
    obtain rfl := Nat.eq_of_beq_eq_true hb
    split at hc <;> first | exact F38_sim hc | cases hc
  | false =>
  rw [hb] at hc
  simp only [cond_false] at hc
  cases hc
set_option maxRecDepth 100000 in
theorem F26_sim {r : β} {a1 : Option Addr} {a2 : Int} {h : GH} {K : Value → GH → Option β} (hc : F26 a1 a2 h (fun q0 h' => K (Value.int .i64 q0) h') = some r) : ∃ v h', K v h' = some r ∧ CallSim Try.prog 26 [Value.pointer a1, Value.int .u8 a2] h v h' := by
  unfold F26 G26 at hc
  obtain ⟨v, h', hk, hs⟩ := gfun_sim CF26_sim mixed_ok Try.func26 (by kernel_rfl) hc
  obtain ⟨u0, e0, hk⟩ := exI_v hk; cases e0
  exact ⟨_, h', hk, hs⟩
/-! F34 duffel/dle.mask -/
def CF34  : Orc β := fun f args h K => none
def HF34 : Hints := ⟨[], []⟩
noncomputable def G34  (R : Nat) (a1 : Int) (h : GH) (K : Int → GH → Option β) : Option β := gfun Try.prog (CF34 ) HF34 R Try.f34 [Value.int .i64 a1] h (fun v h' => exI .i64 (some v) fun u3 => K u3 h')
set_option maxRecDepth 100000 in
theorem F34_gen  (R : Nat) (a1 : Int) (h : GH) (K : Int → GH → Option β) : G34  R a1 h K =
    (bif decide ((IntKind.wrap .i64 (8 - a1)) < 0) then none else K (IntKind.wrap .i64 ((shlI .i64 1 (IntKind.wrap .i64 (8 - a1))) - 1)) h) := by kernel_rfl
noncomputable def F34 (a1 : Int) (h : GH) (K : Int → GH → Option β) : Option β := G34  rounds a1 h K
theorem CF34_sim : SimOrc Try.prog (CF34 (β := β)) := by
  intro f args h K r hc
  cases hc
set_option maxRecDepth 100000 in
theorem F34_sim {r : β} {a1 : Int} {h : GH} {K : Value → GH → Option β} (hc : F34 a1 h (fun q0 h' => K (Value.int .i64 q0) h') = some r) : ∃ v h', K v h' = some r ∧ CallSim Try.prog 34 [Value.int .i64 a1] h v h' := by
  unfold F34 G34 at hc
  obtain ⟨v, h', hk, hs⟩ := gfun_sim CF34_sim mixed_ok Try.func34 (by kernel_rfl) hc
  obtain ⟨u0, e0, hk⟩ := exI_v hk; cases e0
  exact ⟨_, h', hk, hs⟩
/-! F27 (*duffel/dle.Machine).begin -/
def CF27 (F26 : Option Addr → Int → GH → (Int → GH → Option β) → Option β) (F34 : Int → GH → (Int → GH → Option β) → Option β) : Orc β := fun f args h K => bif Nat.beq f 26 then (match args with | [.pointer p1, .int .u8 p2] => F26 p1 p2 h (fun q21 h' => K (Value.int .i64 q21) h') | _ => none) else (bif Nat.beq f 34 then (match args with | [.int .i64 p1] => F34 p1 h (fun q2 h' => K (Value.int .i64 q2) h') | _ => none) else none)
def HF27 : Hints := ⟨[], []⟩
noncomputable def G27 (F26 : Option Addr → Int → GH → (Int → GH → Option β) → Option β) (F34 : Int → GH → (Int → GH → Option β) → Option β) (R : Nat) (a1 : Option Addr) (a2 : Int) (h : GH) (K : Int → GH → Option β) : Option β := gfun Try.prog (CF27 F26 F34) HF27 R Try.f27 [Value.pointer a1, Value.int .u8 a2] h (fun v h' => exI .i64 (some v) fun u40 => K u40 h')
set_option maxRecDepth 100000 in
theorem F27_gen (F26 : Option Addr → Int → GH → (Int → GH → Option β) → Option β) (F34 : Int → GH → (Int → GH → Option β) → Option β) (R : Nat) (a1 : Option Addr) (a2 : Int) (h : GH) (K : Int → GH → Option β) : G27 F26 F34 R a1 a2 h K =
    (bif a2 == 0 then exA a1 fun g3 o4 => exP (h.cell ⟨g3, o4 + 1, none⟩) fun x5 => F26 x5 144 h fun r6 h7 => (bif r6 != 0 then K r6 h7 else exA a1 fun g8 o9 => gput g8 (o9 + 2) [Value.int .i64 0] h7 fun h10 => K 0 h10) else exA a1 fun g11 o12 => gput g11 (o12 + 3) [Value.int .i64 (IntKind.wrap .i64 a2)] h fun h13 => exA a1 fun g14 o15 => exI .i64 (h13.cell ⟨g14, o15 + 3, none⟩) fun x16 => exA a1 fun g17 o18 => exI .i64 (h13.cell ⟨g17, o18 + 0, none⟩) fun x19 => F34 x19 h13 fun r20 h21 => exA a1 fun g22 o23 => gput g22 (o23 + 4) [Value.int .i64 (IntKind.wrap .i64 (BitVec.ofInt (IntKind.bits .i64) x16 &&& BitVec.ofInt (IntKind.bits .i64) r20).toNat)] h21 fun h24 => (bif sameAt g14 (o15 + 3) 1 h13 h21 then exA a1 fun g25 o26 => gput g25 (o26 + 2) [Value.int .i64 3] h24 fun h27 => exA a1 fun g28 o29 => exI .i64 (h27.cell ⟨g28, o29 + 4, none⟩) fun x30 => exA a1 fun g31 o32 => exI .i64 (h27.cell ⟨g31, o32 + 0, none⟩) fun x33 => F34 x33 h27 fun r34 h35 => (bif sameAt g28 (o29 + 4) 1 h27 h35 then (bif x30 == r34 then exA a1 fun g36 o37 => gput g36 (o37 + 2) [Value.int .i64 2] h35 fun h38 => K 0 h38 else K 0 h35) else none) else none)) := by kernel_rfl
noncomputable def F27 (a1 : Option Addr) (a2 : Int) (h : GH) (K : Int → GH → Option β) : Option β := G27 F26 F34 rounds a1 a2 h K
set_option maxRecDepth 100000 in
theorem CF27_sim : SimOrc Try.prog (CF27 F26 F34 (β := β)) := by
  intro f args h K r hc
  unfold CF27 at hc
  cases hb : Nat.beq f 26 with
  | true =>
    rw [hb] at hc
    simp only [cond_true] at hc
    obtain rfl := Nat.eq_of_beq_eq_true hb
    split at hc <;> first | exact F26_sim hc | cases hc
  | false =>
  rw [hb] at hc
  simp only [cond_false] at hc
  cases hb : Nat.beq f 34 with
  | true =>
    rw [hb] at hc
    simp only [cond_true] at hc
    obtain rfl := Nat.eq_of_beq_eq_true hb
    split at hc <;> first | exact F34_sim hc | cases hc
  | false =>
  rw [hb] at hc
  simp only [cond_false] at hc
  cases hc
set_option maxRecDepth 100000 in
theorem F27_sim {r : β} {a1 : Option Addr} {a2 : Int} {h : GH} {K : Value → GH → Option β} (hc : F27 a1 a2 h (fun q0 h' => K (Value.int .i64 q0) h') = some r) : ∃ v h', K v h' = some r ∧ CallSim Try.prog 27 [Value.pointer a1, Value.int .u8 a2] h v h' := by
  unfold F27 G27 at hc
  obtain ⟨v, h', hk, hs⟩ := gfun_sim CF27_sim mixed_ok Try.func27 (by kernel_rfl) hc
  obtain ⟨u0, e0, hk⟩ := exI_v hk; cases e0
  exact ⟨_, h', hk, hs⟩
/-! F28 (*duffel/hist.Out).Copy -/
def CF28 (F38 : Option Addr → GH → (Bool → GH → Option β) → Option β) : Orc β := fun f args h K => bif Nat.beq f 38 then (match args with | [.pointer p1] => F38 p1 h (fun q5 h' => K (Value.bool q5) h') | _ => none) else none
def HF28 : Hints := ⟨[(9, [0, 1, 2], [(1, [(0, 42), (1, 3), (2, 3)])], none), (12, [0, 1, 2], [(3, [])], none)], []⟩
noncomputable def BF28 : Code := match Try.f28.body with | some c => c | none => .skip
noncomputable def L28l0 (F38 : Option Addr → GH → (Bool → GH → Option β) → Option β) (R : Nat) (n : Nat) (y21 : Option Addr) (y22 : Int) (y23 : Int) (h : GH) (K1 : Option Addr → Int → Int → GH → Option β) : Option β := gloop (gcode Try.prog (CF28 F38) Try.f28.ntmps HF28 R (at_ [true, true, false, false, false] BF28)) [0, 1, 2] n [(0, Value.pointer y21), (1, Value.int .i64 y22), (2, Value.int .i64 y23)] h (fun i e' h' => bif Nat.beq i 1 then (exP (some (e'.get 0)) fun u76 => exI .i64 (some (e'.get 1)) fun u77 => exI .i64 (some (e'.get 2)) fun u78 => K1 u76 u77 u78 h') else none) (fun e' h' => none)
noncomputable def L28l1 (F38 : Option Addr → GH → (Bool → GH → Option β) → Option β) (R : Nat) (n : Nat) (y44 : Option Addr) (y45 : Int) (y46 : Int) (h : GH) (K3 : GH → Option β) : Option β := gloop (gcode Try.prog (CF28 F38) Try.f28.ntmps HF28 R (at_ [true, true, true, false, false, false] BF28)) [0, 1, 2] n [(0, Value.pointer y44), (1, Value.int .i64 y45), (2, Value.int .i64 y46)] h (fun i e' h' => bif Nat.beq i 3 then (K3 h') else none) (fun e' h' => none)
set_option maxRecDepth 100000 in
theorem L28l1_succ (F38 : Option Addr → GH → (Bool → GH → Option β) → Option β) (R : Nat) (n : Nat) (y44 : Option Addr) (y45 : Int) (y46 : Int) (h : GH) (K3 : GH → Option β) : L28l1 F38 R (n + 1) y44 y45 y46 h K3 =
    (bif decide (y46 > 0) then exA y44 fun g47 o48 => exS (h.cell ⟨g47, o48 + 3, none⟩) fun x49 => exA y44 fun g50 o51 => exS (h.cell ⟨g50, o51 + 3, none⟩) fun x52 => exA y44 fun g53 o54 => exS (h.cell ⟨g53, o54 + 3, none⟩) fun x55 => bnd (IntKind.wrap .i64 ((IntKind.wrap .i64 (((x49.n : Nat) : Int) - y45)) + (if y45 < y46 then y45 else y46))) x55.c fun m56 => bnd (IntKind.wrap .i64 (((x49.n : Nat) : Int) - y45)) m56 fun m57 => gappS 1 1 x52 ⟨addO x55.a (m57 * 1), m56 - m57, x55.c - m57⟩ h fun s58 h59 => exA y44 fun g60 o61 => gput g60 (o61 + 3) [Value.slice s58.a s58.n s58.c] h59 fun h62 => L28l1 F38 R n y44 y45 (IntKind.wrap .i64 (y46 - (if y45 < y46 then y45 else y46))) h62 K3 else K3 h) := by kernel_rfl
set_option maxRecDepth 100000 in
theorem L28l0_succ (F38 : Option Addr → GH → (Bool → GH → Option β) → Option β) (R : Nat) (n : Nat) (y21 : Option Addr) (y22 : Int) (y23 : Int) (h : GH) (K1 : Option Addr → Int → Int → GH → Option β) : L28l0 F38 R (n + 1) y21 y22 y23 h K1 =
    (bif decide (y23 > 0) then exA y21 fun g27 o28 => exS (h.cell ⟨g27, o28 + 3, none⟩) fun x29 => (bif decide (y22 > ((x29.n : Nat) : Int)) then exA y21 fun g30 o31 => exS (h.cell ⟨g30, o31 + 3, none⟩) fun x32 => gnew [Value.int .u8 0] 1 h fun g33 h34 => gappS 1 1 x32 ⟨(some ⟨g33, 0, none⟩), 1, 1⟩ h34 fun s35 h36 => exA y21 fun g37 o38 => gput g37 (o38 + 3) [Value.slice s35.a s35.n s35.c] h36 fun h39 => L28l0 F38 R n y21 y22 (IntKind.wrap .i64 (y23 - 1)) h39 K1 else K1 y21 y22 y23 h) else K1 y21 y22 y23 h) := by kernel_rfl
noncomputable def G28 (F38 : Option Addr → GH → (Bool → GH → Option β) → Option β) (R : Nat) (a1 : Option Addr) (a2 : Int) (a3 : Int) (h : GH) (K : Int → GH → Option β) : Option β := gfun Try.prog (CF28 F38) HF28 R Try.f28 [Value.pointer a1, Value.int .i64 a2, Value.int .i64 a3] h (fun v h' => exI .i64 (some v) fun u79 => K u79 h')
set_option maxRecDepth 100000 in
theorem F28_gen (F38 : Option Addr → GH → (Bool → GH → Option β) → Option β) (R : Nat) (a1 : Option Addr) (a2 : Int) (a3 : Int) (h : GH) (K : Int → GH → Option β) : G28 F38 R a1 a2 a3 h K =
    F38 a1 h fun r4 h5 => (bif !r4 then K 1 h5 else (bif decide (a2 < 1) then K 2 h5 else (bif decide (a3 < 0) then K 2 h5 else exA a1 fun g6 o7 => exI .i64 (h5.cell ⟨g6, o7 + 0, none⟩) fun x8 => (bif decide (a2 > x8) then K 8 h5 else exA a1 fun g9 o10 => exS (h5.cell ⟨g9, o10 + 3, none⟩) fun x11 => (bif decide (a2 > ((x11.n : Nat) : Int)) then exA a1 fun g12 o13 => exB (h5.cell ⟨g12, o13 + 2, none⟩) fun x14 => (bif !x14 then K 8 h5 else exA a1 fun g15 o16 => exI .i64 (h5.cell ⟨g15, o16 + 1, none⟩) fun x17 => exA a1 fun g18 o19 => exS (h5.cell ⟨g18, o19 + 3, none⟩) fun x20 => (bif decide (a3 > (IntKind.wrap .i64 (x17 - ((x20.n : Nat) : Int)))) then K 9 h5 else L28l0 F38 R R a1 a2 a3 h5 (fun w40 w41 w42 h43 => L28l1 F38 R R w40 w41 w42 h43 (fun h63 => K 0 h63)))) else exA a1 fun g64 o65 => exI .i64 (h5.cell ⟨g64, o65 + 1, none⟩) fun x66 => exA a1 fun g67 o68 => exS (h5.cell ⟨g67, o68 + 3, none⟩) fun x69 => (bif decide (a3 > (IntKind.wrap .i64 (x66 - ((x69.n : Nat) : Int)))) then K 9 h5 else L28l0 F38 R R a1 a2 a3 h5 (fun w70 w71 w72 h73 => L28l1 F38 R R w70 w71 w72 h73 (fun h74 => K 0 h74)))))))) := by kernel_rfl
noncomputable def F28 (a1 : Option Addr) (a2 : Int) (a3 : Int) (h : GH) (K : Int → GH → Option β) : Option β := G28 F38 rounds a1 a2 a3 h K
set_option maxRecDepth 100000 in
theorem CF28_sim : SimOrc Try.prog (CF28 F38 (β := β)) := by
  intro f args h K r hc
  unfold CF28 at hc
  cases hb : Nat.beq f 38 with
  | true =>
    rw [hb] at hc
    simp only [cond_true] at hc
    obtain rfl := Nat.eq_of_beq_eq_true hb
    split at hc <;> first | exact F38_sim hc | cases hc
  | false =>
  rw [hb] at hc
  simp only [cond_false] at hc
  cases hc
set_option maxRecDepth 100000 in
theorem F28_sim {r : β} {a1 : Option Addr} {a2 : Int} {a3 : Int} {h : GH} {K : Value → GH → Option β} (hc : F28 a1 a2 a3 h (fun q0 h' => K (Value.int .i64 q0) h') = some r) : ∃ v h', K v h' = some r ∧ CallSim Try.prog 28 [Value.pointer a1, Value.int .i64 a2, Value.int .i64 a3] h v h' := by
  unfold F28 G28 at hc
  obtain ⟨v, h', hk, hs⟩ := gfun_sim CF28_sim mixed_ok Try.func28 (by kernel_rfl) hc
  obtain ⟨u0, e0, hk⟩ := exI_v hk; cases e0
  exact ⟨_, h', hk, hs⟩
/-! F11 (*duffel/dle.Machine).Feed -/
def CF11 (F25 : Option Addr → GH → (Bool → GH → Option β) → Option β) (F15 : Option Addr → GH → (Bool → GH → Option β) → Option β) (F26 : Option Addr → Int → GH → (Int → GH → Option β) → Option β) (F27 : Option Addr → Int → GH → (Int → GH → Option β) → Option β) (F28 : Option Addr → Int → Int → GH → (Int → GH → Option β) → Option β) : Orc β := fun f args h K => bif Nat.beq f 25 then (match args with | [.pointer p1] => F25 p1 h (fun q5 h' => K (Value.bool q5) h') | _ => none) else (bif Nat.beq f 15 then (match args with | [.pointer p1] => F15 p1 h (fun q9 h' => K (Value.bool q9) h') | _ => none) else (bif Nat.beq f 26 then (match args with | [.pointer p1, .int .u8 p2] => F26 p1 p2 h (fun q21 h' => K (Value.int .i64 q21) h') | _ => none) else (bif Nat.beq f 27 then (match args with | [.pointer p1, .int .u8 p2] => F27 p1 p2 h (fun q39 h' => K (Value.int .i64 q39) h') | _ => none) else (bif Nat.beq f 28 then (match args with | [.pointer p1, .int .i64 p2, .int .i64 p3] => F28 p1 p2 p3 h (fun q75 h' => K (Value.int .i64 q75) h') | _ => none) else none))))
def HF11 : Hints := ⟨[], []⟩
noncomputable def G11 (F25 : Option Addr → GH → (Bool → GH → Option β) → Option β) (F15 : Option Addr → GH → (Bool → GH → Option β) → Option β) (F26 : Option Addr → Int → GH → (Int → GH → Option β) → Option β) (F27 : Option Addr → Int → GH → (Int → GH → Option β) → Option β) (F28 : Option Addr → Int → Int → GH → (Int → GH → Option β) → Option β) (R : Nat) (a1 : Option Addr) (a2 : Int) (h : GH) (K : Int → GH → Option β) : Option β := gfun Try.prog (CF11 F25 F15 F26 F27 F28) HF11 R Try.f11 [Value.pointer a1, Value.int .u8 a2] h (fun v h' => exI .i64 (some v) fun u47 => K u47 h')
set_option maxRecDepth 100000 in
theorem F11_gen (F25 : Option Addr → GH → (Bool → GH → Option β) → Option β) (F15 : Option Addr → GH → (Bool → GH → Option β) → Option β) (F26 : Option Addr → Int → GH → (Int → GH → Option β) → Option β) (F27 : Option Addr → Int → GH → (Int → GH → Option β) → Option β) (F28 : Option Addr → Int → Int → GH → (Int → GH → Option β) → Option β) (R : Nat) (a1 : Option Addr) (a2 : Int) (h : GH) (K : Int → GH → Option β) : G11 F25 F15 F26 F27 F28 R a1 a2 h K =
    F25 a1 h fun r3 h4 => (bif !r3 then K 1 h4 else F15 a1 h4 fun r5 h6 => (bif r5 then K 9 h6 else exA a1 fun g7 o8 => exI .i64 (h6.cell ⟨g7, o8 + 2, none⟩) fun x9 => (bif x9 == 0 then (bif a2 != 144 then exA a1 fun g10 o11 => exP (h6.cell ⟨g10, o11 + 1, none⟩) fun x12 => F26 x12 a2 h6 fun r13 h14 => K r13 h14 else exA a1 fun g15 o16 => gput g15 (o16 + 2) [Value.int .i64 1] h6 fun h17 => K 0 h17) else (bif x9 == 1 then F27 a1 a2 h6 fun r18 h19 => K r18 h19 else (bif x9 == 2 then exA a1 fun g20 o21 => exI .i64 (h6.cell ⟨g20, o21 + 4, none⟩) fun x22 => exA a1 fun g23 o24 => gput g23 (o24 + 4) [Value.int .i64 (IntKind.wrap .i64 (x22 + (IntKind.wrap .i64 a2)))] h6 fun h25 => exA a1 fun g26 o27 => gput g26 (o27 + 2) [Value.int .i64 3] h25 fun h28 => K 0 h28 else (bif x9 == 3 then exA a1 fun g29 o30 => exP (h6.cell ⟨g29, o30 + 1, none⟩) fun x31 => exA a1 fun g32 o33 => exI .i64 (h6.cell ⟨g32, o33 + 3, none⟩) fun x34 => exA a1 fun g35 o36 => exI .i64 (h6.cell ⟨g35, o36 + 0, none⟩) fun x37 => (bif decide ((IntKind.wrap .i64 (8 - x37)) < 0) then none else exA a1 fun g38 o39 => exI .i64 (h6.cell ⟨g38, o39 + 4, none⟩) fun x40 => F28 x31 (IntKind.wrap .i64 ((IntKind.wrap .i64 ((shlI .i64 (shrI .i64 x34 (IntKind.wrap .i64 (8 - x37))) 8) + (IntKind.wrap .i64 a2))) + 1)) (IntKind.wrap .i64 (x40 + 3)) h6 fun r41 h42 => (bif r41 != 0 then K r41 h42 else exA a1 fun g43 o44 => gput g43 (o44 + 2) [Value.int .i64 0] h42 fun h45 => K 0 h45)) else K 0 h6)))))) := by kernel_rfl
noncomputable def F11 (a1 : Option Addr) (a2 : Int) (h : GH) (K : Int → GH → Option β) : Option β := G11 F25 F15 F26 F27 F28 rounds a1 a2 h K
set_option maxRecDepth 100000 in
theorem CF11_sim : SimOrc Try.prog (CF11 F25 F15 F26 F27 F28 (β := β)) := by
  intro f args h K r hc
  unfold CF11 at hc
  cases hb : Nat.beq f 25 with
  | true =>
    rw [hb] at hc
    simp only [cond_true] at hc
    obtain rfl := Nat.eq_of_beq_eq_true hb
    split at hc <;> first | exact F25_sim hc | cases hc
  | false =>
  rw [hb] at hc
  simp only [cond_false] at hc
  cases hb : Nat.beq f 15 with
  | true =>
    rw [hb] at hc
    simp only [cond_true] at hc
    obtain rfl := Nat.eq_of_beq_eq_true hb
    split at hc <;> first | exact F15_sim hc | cases hc
  | false =>
  rw [hb] at hc
  simp only [cond_false] at hc
  cases hb : Nat.beq f 26 with
  | true =>
    rw [hb] at hc
    simp only [cond_true] at hc
    obtain rfl := Nat.eq_of_beq_eq_true hb
    split at hc <;> first | exact F26_sim hc | cases hc
  | false =>
  rw [hb] at hc
  simp only [cond_false] at hc
  cases hb : Nat.beq f 27 with
  | true =>
    rw [hb] at hc
    simp only [cond_true] at hc
    obtain rfl := Nat.eq_of_beq_eq_true hb
    split at hc <;> first | exact F27_sim hc | cases hc
  | false =>
  rw [hb] at hc
  simp only [cond_false] at hc
  cases hb : Nat.beq f 28 with
  | true =>
    rw [hb] at hc
    simp only [cond_true] at hc
    obtain rfl := Nat.eq_of_beq_eq_true hb
    split at hc <;> first | exact F28_sim hc | cases hc
  | false =>
  rw [hb] at hc
  simp only [cond_false] at hc
  cases hc
set_option maxRecDepth 100000 in
theorem F11_sim {r : β} {a1 : Option Addr} {a2 : Int} {h : GH} {K : Value → GH → Option β} (hc : F11 a1 a2 h (fun q0 h' => K (Value.int .i64 q0) h') = some r) : ∃ v h', K v h' = some r ∧ CallSim Try.prog 11 [Value.pointer a1, Value.int .u8 a2] h v h' := by
  unfold F11 G11 at hc
  obtain ⟨v, h', hk, hs⟩ := gfun_sim CF11_sim mixed_ok Try.func11 (by kernel_rfl) hc
  obtain ⟨u0, e0, hk⟩ := exI_v hk; cases e0
  exact ⟨_, h', hk, hs⟩
/-! F16 (*duffel/duffelref13.Machine).Full -/
def CF16  : Orc β := fun f args h K => none
def HF16 : Hints := ⟨[], []⟩
noncomputable def G16  (R : Nat) (a1 : Option Addr) (h : GH) (K : Bool → GH → Option β) : Option β := gfun Try.prog (CF16 ) HF16 R Try.f16 [Value.pointer a1] h (fun v h' => exB (some v) fun u18 => K u18 h')
set_option maxRecDepth 100000 in
theorem F16_gen  (R : Nat) (a1 : Option Addr) (h : GH) (K : Bool → GH → Option β) : G16  R a1 h K =
    exA a1 fun g2 o3 => exI .i64 (h.cell ⟨g2, o3 + 2, none⟩) fun x4 => (bif x4 == 0 then exA a1 fun g5 o6 => exP (h.cell ⟨g5, o6 + 1, none⟩) fun x7 => exA x7 fun g8 o9 => exS (h.cell ⟨g8, o9 + 3, none⟩) fun x10 => exA a1 fun g11 o12 => exP (h.cell ⟨g11, o12 + 1, none⟩) fun x13 => exA x13 fun g14 o15 => exI .i64 (h.cell ⟨g14, o15 + 1, none⟩) fun x16 => K (((x10.n : Nat) : Int) == x16) h else K false h) := by kernel_rfl
noncomputable def F16 (a1 : Option Addr) (h : GH) (K : Bool → GH → Option β) : Option β := G16  rounds a1 h K
theorem CF16_sim : SimOrc Try.prog (CF16 (β := β)) := by
  intro f args h K r hc
  cases hc
set_option maxRecDepth 100000 in
theorem F16_sim {r : β} {a1 : Option Addr} {h : GH} {K : Value → GH → Option β} (hc : F16 a1 h (fun q0 h' => K (Value.bool q0) h') = some r) : ∃ v h', K v h' = some r ∧ CallSim Try.prog 16 [Value.pointer a1] h v h' := by
  unfold F16 G16 at hc
  obtain ⟨v, h', hk, hs⟩ := gfun_sim CF16_sim mixed_ok Try.func16 (by kernel_rfl) hc
  obtain ⟨u0, e0, hk⟩ := exB_v hk; cases e0
  exact ⟨_, h', hk, hs⟩
/-! F29 duffel/duffelref13.two -/
def CF29  : Orc β := fun f args h K => none
def HF29 : Hints := ⟨[(3, [0, 3, 4], [(0, [(3, 3)])], none)], []⟩
noncomputable def BF29 : Code := match Try.f29.body with | some c => c | none => .skip
noncomputable def L29l0  (R : Nat) (n : Nat) (y2 : Int) (y3 : Int) (y4 : Int) (h : GH) (K0 : Int → GH → Option β) : Option β := gloop (gcode Try.prog (CF29 ) Try.f29.ntmps HF29 R (at_ [true, true, false, true, false, false] BF29)) [0, 3, 4] n [(0, Value.int .i64 y2), (3, Value.int .i64 y3), (4, Value.int .i64 y4)] h (fun i e' h' => bif Nat.beq i 0 then (exI .i64 (some (e'.get 3)) fun u9 => K0 u9 h') else none) (fun e' h' => none)
set_option maxRecDepth 100000 in
theorem L29l0_succ  (R : Nat) (n : Nat) (y2 : Int) (y3 : Int) (y4 : Int) (h : GH) (K0 : Int → GH → Option β) : L29l0  R (n + 1) y2 y3 y4 h K0 =
    (bif decide (y4 < y2) then L29l0 R n y2 (IntKind.wrap .i64 (y3 * 2)) (IntKind.wrap .i64 (y4 + 1)) h K0 else K0 y3 h) := by kernel_rfl
noncomputable def G29  (R : Nat) (a1 : Int) (h : GH) (K : Int → GH → Option β) : Option β := gfun Try.prog (CF29 ) HF29 R Try.f29 [Value.int .i64 a1] h (fun v h' => exI .i64 (some v) fun u10 => K u10 h')
set_option maxRecDepth 100000 in
theorem F29_gen  (R : Nat) (a1 : Int) (h : GH) (K : Int → GH → Option β) : G29  R a1 h K =
    L29l0 R R a1 1 0 h (fun w6 h7 => K w6 h7) := by kernel_rfl
noncomputable def F29 (a1 : Int) (h : GH) (K : Int → GH → Option β) : Option β := G29  rounds a1 h K
theorem CF29_sim : SimOrc Try.prog (CF29 (β := β)) := by
  intro f args h K r hc
  cases hc
set_option maxRecDepth 100000 in
theorem F29_sim {r : β} {a1 : Int} {h : GH} {K : Value → GH → Option β} (hc : F29 a1 h (fun q0 h' => K (Value.int .i64 q0) h') = some r) : ∃ v h', K v h' = some r ∧ CallSim Try.prog 29 [Value.int .i64 a1] h v h' := by
  unfold F29 G29 at hc
  obtain ⟨v, h', hk, hs⟩ := gfun_sim CF29_sim mixed_ok Try.func29 (by kernel_rfl) hc
  obtain ⟨u0, e0, hk⟩ := exI_v hk; cases e0
  exact ⟨_, h', hk, hs⟩
/-! F30 (*duffel/duffelref07.Out).Lit -/
def CF30  : Orc β := fun f args h K => none
def HF30 : Hints := ⟨[], []⟩
noncomputable def G30  (R : Nat) (a1 : Option Addr) (a2 : Int) (h : GH) (K : Int → GH → Option β) : Option β := gfun Try.prog (CF30 ) HF30 R Try.f30 [Value.pointer a1, Value.int .u8 a2] h (fun v h' => exI .i64 (some v) fun u20 => K u20 h')
set_option maxRecDepth 100000 in
theorem F30_gen  (R : Nat) (a1 : Option Addr) (a2 : Int) (h : GH) (K : Int → GH → Option β) : G30  R a1 a2 h K =
    exA a1 fun g3 o4 => exS (h.cell ⟨g3, o4 + 3, none⟩) fun x5 => exA a1 fun g6 o7 => exI .i64 (h.cell ⟨g6, o7 + 1, none⟩) fun x8 => (bif decide (((x5.n : Nat) : Int) ≥ x8) then K 9 h else exA a1 fun g9 o10 => exS (h.cell ⟨g9, o10 + 3, none⟩) fun x11 => gnew [Value.int .u8 a2] 1 h fun g12 h13 => gappS 1 1 x11 ⟨(some ⟨g12, 0, none⟩), 1, 1⟩ h13 fun s14 h15 => exA a1 fun g16 o17 => gput g16 (o17 + 3) [Value.slice s14.a s14.n s14.c] h15 fun h18 => K 0 h18) := by kernel_rfl
noncomputable def F30 (a1 : Option Addr) (a2 : Int) (h : GH) (K : Int → GH → Option β) : Option β := G30  rounds a1 a2 h K
theorem CF30_sim : SimOrc Try.prog (CF30 (β := β)) := by
  intro f args h K r hc
  cases hc
set_option maxRecDepth 100000 in
theorem F30_sim {r : β} {a1 : Option Addr} {a2 : Int} {h : GH} {K : Value → GH → Option β} (hc : F30 a1 a2 h (fun q0 h' => K (Value.int .i64 q0) h') = some r) : ∃ v h', K v h' = some r ∧ CallSim Try.prog 30 [Value.pointer a1, Value.int .u8 a2] h v h' := by
  unfold F30 G30 at hc
  obtain ⟨v, h', hk, hs⟩ := gfun_sim CF30_sim mixed_ok Try.func30 (by kernel_rfl) hc
  obtain ⟨u0, e0, hk⟩ := exI_v hk; cases e0
  exact ⟨_, h', hk, hs⟩
/-! F31 (*duffel/duffelref07.Out).Copy -/
def CF31  : Orc β := fun f args h K => none
def HF31 : Hints := ⟨[(8, [0, 1, 2, 7], [(0, [])], none)], []⟩
noncomputable def BF31 : Code := match Try.f31.body with | some c => c | none => .skip
noncomputable def L31l0  (R : Nat) (n : Nat) (y19 : Option Addr) (y20 : Int) (y21 : Int) (y22 : Int) (h : GH) (K0 : GH → Option β) : Option β := gloop (gcode Try.prog (CF31 ) Try.f31.ntmps HF31 R (at_ [true, true, true, true, false, true, false, false] BF31)) [0, 1, 2, 7] n [(0, Value.pointer y19), (1, Value.int .i64 y20), (2, Value.int .i64 y21), (7, Value.int .i64 y22)] h (fun i e' h' => bif Nat.beq i 0 then (K0 h') else none) (fun e' h' => none)
set_option maxRecDepth 100000 in
theorem L31l0_succ  (R : Nat) (n : Nat) (y19 : Option Addr) (y20 : Int) (y21 : Int) (y22 : Int) (h : GH) (K0 : GH → Option β) : L31l0  R (n + 1) y19 y20 y21 y22 h K0 =
    (bif decide (y22 < y21) then exA y19 fun g23 o24 => exS (h.cell ⟨g23, o24 + 3, none⟩) fun x25 => (bif decide (y20 ≤ ((x25.n : Nat) : Int)) then exA y19 fun g26 o27 => exS (h.cell ⟨g26, o27 + 3, none⟩) fun x28 => exA y19 fun g29 o30 => exS (h.cell ⟨g29, o30 + 3, none⟩) fun x31 => exA x28.a fun g32 o33 => within (IntKind.wrap .i64 (((x31.n : Nat) : Int) - y20)) x28.n (exI .u8 (h.cell ⟨g32, o33 + (IntKind.wrap .i64 (((x31.n : Nat) : Int) - y20)).toNat * 1, none⟩) fun x34 => exA y19 fun g35 o36 => exS (h.cell ⟨g35, o36 + 3, none⟩) fun x37 => gnew [Value.int .u8 x34] 1 h fun g38 h39 => gappS 1 1 x37 ⟨(some ⟨g38, 0, none⟩), 1, 1⟩ h39 fun s40 h41 => exA y19 fun g42 o43 => gput g42 (o43 + 3) [Value.slice s40.a s40.n s40.c] h41 fun h44 => L31l0 R n y19 y20 y21 (IntKind.wrap .i64 (y22 + 1)) h44 K0) else exA y19 fun g45 o46 => exS (h.cell ⟨g45, o46 + 3, none⟩) fun x47 => gnew [Value.int .u8 0] 1 h fun g48 h49 => gappS 1 1 x47 ⟨(some ⟨g48, 0, none⟩), 1, 1⟩ h49 fun s50 h51 => exA y19 fun g52 o53 => gput g52 (o53 + 3) [Value.slice s50.a s50.n s50.c] h51 fun h54 => L31l0 R n y19 y20 y21 (IntKind.wrap .i64 (y22 + 1)) h54 K0) else K0 h) := by kernel_rfl
noncomputable def G31  (R : Nat) (a1 : Option Addr) (a2 : Int) (a3 : Int) (h : GH) (K : Int → GH → Option β) : Option β := gfun Try.prog (CF31 ) HF31 R Try.f31 [Value.pointer a1, Value.int .i64 a2, Value.int .i64 a3] h (fun v h' => exI .i64 (some v) fun u64 => K u64 h')
set_option maxRecDepth 100000 in
theorem F31_gen  (R : Nat) (a1 : Option Addr) (a2 : Int) (a3 : Int) (h : GH) (K : Int → GH → Option β) : G31  R a1 a2 a3 h K =
    (bif decide (a2 < 1) then K 2 h else (bif decide (a3 < 0) then K 2 h else exA a1 fun g4 o5 => exI .i64 (h.cell ⟨g4, o5 + 0, none⟩) fun x6 => (bif decide (a2 > x6) then K 8 h else exA a1 fun g7 o8 => exS (h.cell ⟨g7, o8 + 3, none⟩) fun x9 => (bif decide (a2 > ((x9.n : Nat) : Int)) then exA a1 fun g10 o11 => exB (h.cell ⟨g10, o11 + 2, none⟩) fun x12 => (bif !x12 then K 8 h else exA a1 fun g13 o14 => exI .i64 (h.cell ⟨g13, o14 + 1, none⟩) fun x15 => exA a1 fun g16 o17 => exS (h.cell ⟨g16, o17 + 3, none⟩) fun x18 => (bif decide (a3 > (IntKind.wrap .i64 (x15 - ((x18.n : Nat) : Int)))) then K 9 h else L31l0 R R a1 a2 a3 0 h (fun h55 => K 0 h55))) else exA a1 fun g56 o57 => exI .i64 (h.cell ⟨g56, o57 + 1, none⟩) fun x58 => exA a1 fun g59 o60 => exS (h.cell ⟨g59, o60 + 3, none⟩) fun x61 => (bif decide (a3 > (IntKind.wrap .i64 (x58 - ((x61.n : Nat) : Int)))) then K 9 h else L31l0 R R a1 a2 a3 0 h (fun h62 => K 0 h62)))))) := by kernel_rfl
noncomputable def F31 (a1 : Option Addr) (a2 : Int) (a3 : Int) (h : GH) (K : Int → GH → Option β) : Option β := G31  rounds a1 a2 a3 h K
theorem CF31_sim : SimOrc Try.prog (CF31 (β := β)) := by
  intro f args h K r hc
  cases hc
set_option maxRecDepth 100000 in
theorem F31_sim {r : β} {a1 : Option Addr} {a2 : Int} {a3 : Int} {h : GH} {K : Value → GH → Option β} (hc : F31 a1 a2 a3 h (fun q0 h' => K (Value.int .i64 q0) h') = some r) : ∃ v h', K v h' = some r ∧ CallSim Try.prog 31 [Value.pointer a1, Value.int .i64 a2, Value.int .i64 a3] h v h' := by
  unfold F31 G31 at hc
  obtain ⟨v, h', hk, hs⟩ := gfun_sim CF31_sim mixed_ok Try.func31 (by kernel_rfl) hc
  obtain ⟨u0, e0, hk⟩ := exI_v hk; cases e0
  exact ⟨_, h', hk, hs⟩
/-! F12 (*duffel/duffelref13.Machine).Feed -/
def CF12 (F16 : Option Addr → GH → (Bool → GH → Option β) → Option β) (F29 : Int → GH → (Int → GH → Option β) → Option β) (F30 : Option Addr → Int → GH → (Int → GH → Option β) → Option β) (F31 : Option Addr → Int → Int → GH → (Int → GH → Option β) → Option β) : Orc β := fun f args h K => bif Nat.beq f 16 then (match args with | [.pointer p1] => F16 p1 h (fun q17 h' => K (Value.bool q17) h') | _ => none) else (bif Nat.beq f 29 then (match args with | [.int .i64 p1] => F29 p1 h (fun q8 h' => K (Value.int .i64 q8) h') | _ => none) else (bif Nat.beq f 30 then (match args with | [.pointer p1, .int .u8 p2] => F30 p1 p2 h (fun q19 h' => K (Value.int .i64 q19) h') | _ => none) else (bif Nat.beq f 31 then (match args with | [.pointer p1, .int .i64 p2, .int .i64 p3] => F31 p1 p2 p3 h (fun q63 h' => K (Value.int .i64 q63) h') | _ => none) else none)))
def HF12 : Hints := ⟨[], []⟩
noncomputable def G12 (F16 : Option Addr → GH → (Bool → GH → Option β) → Option β) (F29 : Int → GH → (Int → GH → Option β) → Option β) (F30 : Option Addr → Int → GH → (Int → GH → Option β) → Option β) (F31 : Option Addr → Int → Int → GH → (Int → GH → Option β) → Option β) (R : Nat) (a1 : Option Addr) (a2 : Int) (h : GH) (K : Int → GH → Option β) : Option β := gfun Try.prog (CF12 F16 F29 F30 F31) HF12 R Try.f12 [Value.pointer a1, Value.int .u8 a2] h (fun v h' => exI .i64 (some v) fun u68 => K u68 h')
set_option maxRecDepth 100000 in
theorem F12_gen (F16 : Option Addr → GH → (Bool → GH → Option β) → Option β) (F29 : Int → GH → (Int → GH → Option β) → Option β) (F30 : Option Addr → Int → GH → (Int → GH → Option β) → Option β) (F31 : Option Addr → Int → Int → GH → (Int → GH → Option β) → Option β) (R : Nat) (a1 : Option Addr) (a2 : Int) (h : GH) (K : Int → GH → Option β) : G12 F16 F29 F30 F31 R a1 a2 h K =
    F16 a1 h fun r3 h4 => (bif r3 then K 9 h4 else exA a1 fun g5 o6 => exI .i64 (h4.cell ⟨g5, o6 + 0, none⟩) fun x7 => F29 (IntKind.wrap .i64 (8 - x7)) h4 fun r8 h9 => exA a1 fun g10 o11 => exI .i64 (h9.cell ⟨g10, o11 + 2, none⟩) fun x12 => (bif x12 == 0 then (bif a2 == 144 then exA a1 fun g13 o14 => gput g13 (o14 + 2) [Value.int .i64 1] h9 fun h15 => K 0 h15 else exA a1 fun g16 o17 => exP (h9.cell ⟨g16, o17 + 1, none⟩) fun x18 => F30 x18 a2 h9 fun r19 h20 => K r19 h20) else (bif x12 == 1 then (bif a2 == 0 then exA a1 fun g21 o22 => exP (h9.cell ⟨g21, o22 + 1, none⟩) fun x23 => F30 x23 144 h9 fun r24 h25 => (bif r24 == 0 then exA a1 fun g26 o27 => gput g26 (o27 + 2) [Value.int .i64 0] h25 fun h28 => K r24 h28 else K r24 h25) else (bif decide (r8 = 0) then none else exA a1 fun g29 o30 => gput g29 (o30 + 3) [Value.int .i64 (IntKind.wrap .i64 a2)] h9 fun h31 => exA a1 fun g32 o33 => gput g32 (o33 + 4) [Value.int .i64 (Int.tmod (IntKind.wrap .i64 a2) r8)] h31 fun h34 => exA a1 fun g35 o36 => gput g35 (o36 + 2) [Value.int .i64 3] h34 fun h37 => exA a1 fun g38 o39 => exI .i64 (h37.cell ⟨g38, o39 + 4, none⟩) fun x40 => (bif x40 == (IntKind.wrap .i64 (r8 - 1)) then exA a1 fun g41 o42 => gput g41 (o42 + 2) [Value.int .i64 2] h37 fun h43 => K 0 h43 else K 0 h37))) else (bif x12 == 2 then exA a1 fun g44 o45 => exI .i64 (h9.cell ⟨g44, o45 + 4, none⟩) fun x46 => exA a1 fun g47 o48 => gput g47 (o48 + 4) [Value.int .i64 (IntKind.wrap .i64 (x46 + (IntKind.wrap .i64 a2)))] h9 fun h49 => exA a1 fun g50 o51 => gput g50 (o51 + 2) [Value.int .i64 3] h49 fun h52 => K 0 h52 else exA a1 fun g53 o54 => exP (h9.cell ⟨g53, o54 + 1, none⟩) fun x55 => exA a1 fun g56 o57 => exI .i64 (h9.cell ⟨g56, o57 + 3, none⟩) fun x58 => (bif decide (r8 = 0) then none else exA a1 fun g59 o60 => exI .i64 (h9.cell ⟨g59, o60 + 4, none⟩) fun x61 => F31 x55 (IntKind.wrap .i64 ((IntKind.wrap .i64 ((IntKind.wrap .i64 (256 * (IntKind.wrap .i64 (Int.tdiv x58 r8)))) + (IntKind.wrap .i64 a2))) + 1)) (IntKind.wrap .i64 (x61 + 3)) h9 fun r62 h63 => (bif r62 != 0 then K r62 h63 else exA a1 fun g64 o65 => gput g64 (o65 + 2) [Value.int .i64 0] h63 fun h66 => K 0 h66)))))) := by kernel_rfl
noncomputable def F12 (a1 : Option Addr) (a2 : Int) (h : GH) (K : Int → GH → Option β) : Option β := G12 F16 F29 F30 F31 rounds a1 a2 h K
set_option maxRecDepth 100000 in
theorem CF12_sim : SimOrc Try.prog (CF12 F16 F29 F30 F31 (β := β)) := by
  intro f args h K r hc
  unfold CF12 at hc
  cases hb : Nat.beq f 16 with
  | true =>
    rw [hb] at hc
    simp only [cond_true] at hc
    obtain rfl := Nat.eq_of_beq_eq_true hb
    split at hc <;> first | exact F16_sim hc | cases hc
  | false =>
  rw [hb] at hc
  simp only [cond_false] at hc
  cases hb : Nat.beq f 29 with
  | true =>
    rw [hb] at hc
    simp only [cond_true] at hc
    obtain rfl := Nat.eq_of_beq_eq_true hb
    split at hc <;> first | exact F29_sim hc | cases hc
  | false =>
  rw [hb] at hc
  simp only [cond_false] at hc
  cases hb : Nat.beq f 30 with
  | true =>
    rw [hb] at hc
    simp only [cond_true] at hc
    obtain rfl := Nat.eq_of_beq_eq_true hb
    split at hc <;> first | exact F30_sim hc | cases hc
  | false =>
  rw [hb] at hc
  simp only [cond_false] at hc
  cases hb : Nat.beq f 31 with
  | true =>
    rw [hb] at hc
    simp only [cond_true] at hc
    obtain rfl := Nat.eq_of_beq_eq_true hb
    split at hc <;> first | exact F31_sim hc | cases hc
  | false =>
  rw [hb] at hc
  simp only [cond_false] at hc
  cases hc
set_option maxRecDepth 100000 in
theorem F12_sim {r : β} {a1 : Option Addr} {a2 : Int} {h : GH} {K : Value → GH → Option β} (hc : F12 a1 a2 h (fun q0 h' => K (Value.int .i64 q0) h') = some r) : ∃ v h', K v h' = some r ∧ CallSim Try.prog 12 [Value.pointer a1, Value.int .u8 a2] h v h' := by
  unfold F12 G12 at hc
  obtain ⟨v, h', hk, hs⟩ := gfun_sim CF12_sim mixed_ok Try.func12 (by kernel_rfl) hc
  obtain ⟨u0, e0, hk⟩ := exI_v hk; cases e0
  exact ⟨_, h', hk, hs⟩
/-! F39 bytes.Clone -/
def CF39  : Orc β := fun f args h K => none
def HF39 : Hints := ⟨[], []⟩
noncomputable def G39  (R : Nat) (a1 : Sl) (h : GH) (K : Sl → GH → Option β) : Option β := gfun Try.prog (CF39 ) HF39 R Try.f39 [Value.slice a1.a a1.n a1.c] h (fun v h' => exS (some v) fun u7 => K u7 h')
set_option maxRecDepth 100000 in
theorem F39_gen  (R : Nat) (a1 : Sl) (h : GH) (K : Sl → GH → Option β) : G39  R a1 h K =
    (bif Option.isNone a1.a then K ⟨none, 0, 0⟩ h else gnew [] 1 h fun g2 h3 => gappS 1 1 ⟨(some ⟨g2, 0, none⟩), 0, 0⟩ a1 h3 fun s4 h5 => K s4 h5) := by kernel_rfl
noncomputable def F39 (a1 : Sl) (h : GH) (K : Sl → GH → Option β) : Option β := G39  rounds a1 h K
theorem CF39_sim : SimOrc Try.prog (CF39 (β := β)) := by
  intro f args h K r hc
  cases hc
set_option maxRecDepth 100000 in
theorem F39_sim {r : β} {a1 : Sl} {h : GH} {K : Value → GH → Option β} (hc : F39 a1 h (fun q0 h' => K (Value.slice q0.a q0.n q0.c) h') = some r) : ∃ v h', K v h' = some r ∧ CallSim Try.prog 39 [Value.slice a1.a a1.n a1.c] h v h' := by
  unfold F39 G39 at hc
  obtain ⟨v, h', hk, hs⟩ := gfun_sim CF39_sim mixed_ok Try.func39 (by kernel_rfl) hc
  obtain ⟨u0, e0, hk⟩ := exS_v hk; cases e0
  exact ⟨_, h', hk, hs⟩
/-! F32 (*duffel/hist.Out).Bytes -/
def CF32 (F38 : Option Addr → GH → (Bool → GH → Option β) → Option β) (F39 : Sl → GH → (Sl → GH → Option β) → Option β) : Orc β := fun f args h K => bif Nat.beq f 38 then (match args with | [.pointer p1] => F38 p1 h (fun q5 h' => K (Value.bool q5) h') | _ => none) else (bif Nat.beq f 39 then (match args with | [.slice p1a p1n p1c] => F39 ⟨p1a, p1n, p1c⟩ h (fun q6 h' => K (Value.slice q6.a q6.n q6.c) h') | _ => none) else none)
def HF32 : Hints := ⟨[], []⟩
noncomputable def G32 (F38 : Option Addr → GH → (Bool → GH → Option β) → Option β) (F39 : Sl → GH → (Sl → GH → Option β) → Option β) (R : Nat) (a1 : Option Addr) (h : GH) (K : Sl → GH → Option β) : Option β := gfun Try.prog (CF32 F38 F39) HF32 R Try.f32 [Value.pointer a1] h (fun v h' => exS (some v) fun u10 => K u10 h')
set_option maxRecDepth 100000 in
theorem F32_gen (F38 : Option Addr → GH → (Bool → GH → Option β) → Option β) (F39 : Sl → GH → (Sl → GH → Option β) → Option β) (R : Nat) (a1 : Option Addr) (h : GH) (K : Sl → GH → Option β) : G32 F38 F39 R a1 h K =
    F38 a1 h fun r2 h3 => (bif !r2 then K ⟨none, 0, 0⟩ h3 else exA a1 fun g4 o5 => exS (h3.cell ⟨g4, o5 + 3, none⟩) fun x6 => F39 x6 h3 fun r7 h8 => K r7 h8) := by kernel_rfl
noncomputable def F32 (a1 : Option Addr) (h : GH) (K : Sl → GH → Option β) : Option β := G32 F38 F39 rounds a1 h K
set_option maxRecDepth 100000 in
theorem CF32_sim : SimOrc Try.prog (CF32 F38 F39 (β := β)) := by
  intro f args h K r hc
  unfold CF32 at hc
  cases hb : Nat.beq f 38 with
  | true =>
    rw [hb] at hc
    simp only [cond_true] at hc
    obtain rfl := Nat.eq_of_beq_eq_true hb
    split at hc <;> first | exact F38_sim hc | cases hc
  | false =>
  rw [hb] at hc
  simp only [cond_false] at hc
  cases hb : Nat.beq f 39 with
  | true =>
    rw [hb] at hc
    simp only [cond_true] at hc
    obtain rfl := Nat.eq_of_beq_eq_true hb
    split at hc <;> first | exact F39_sim hc | cases hc
  | false =>
  rw [hb] at hc
  simp only [cond_false] at hc
  cases hc
set_option maxRecDepth 100000 in
theorem F32_sim {r : β} {a1 : Option Addr} {h : GH} {K : Value → GH → Option β} (hc : F32 a1 h (fun q0 h' => K (Value.slice q0.a q0.n q0.c) h') = some r) : ∃ v h', K v h' = some r ∧ CallSim Try.prog 32 [Value.pointer a1] h v h' := by
  unfold F32 G32 at hc
  obtain ⟨v, h', hk, hs⟩ := gfun_sim CF32_sim mixed_ok Try.func32 (by kernel_rfl) hc
  obtain ⟨u0, e0, hk⟩ := exS_v hk; cases e0
  exact ⟨_, h', hk, hs⟩
/-! F14 (*duffel/dle.Machine).Bytes -/
def CF14 (F25 : Option Addr → GH → (Bool → GH → Option β) → Option β) (F32 : Option Addr → GH → (Sl → GH → Option β) → Option β) : Orc β := fun f args h K => bif Nat.beq f 25 then (match args with | [.pointer p1] => F25 p1 h (fun q5 h' => K (Value.bool q5) h') | _ => none) else (bif Nat.beq f 32 then (match args with | [.pointer p1] => F32 p1 h (fun q9 h' => K (Value.slice q9.a q9.n q9.c) h') | _ => none) else none)
def HF14 : Hints := ⟨[], []⟩
noncomputable def G14 (F25 : Option Addr → GH → (Bool → GH → Option β) → Option β) (F32 : Option Addr → GH → (Sl → GH → Option β) → Option β) (R : Nat) (a1 : Option Addr) (h : GH) (K : Sl → GH → Option β) : Option β := gfun Try.prog (CF14 F25 F32) HF14 R Try.f14 [Value.pointer a1] h (fun v h' => exS (some v) fun u10 => K u10 h')
set_option maxRecDepth 100000 in
theorem F14_gen (F25 : Option Addr → GH → (Bool → GH → Option β) → Option β) (F32 : Option Addr → GH → (Sl → GH → Option β) → Option β) (R : Nat) (a1 : Option Addr) (h : GH) (K : Sl → GH → Option β) : G14 F25 F32 R a1 h K =
    F25 a1 h fun r2 h3 => (bif !r2 then K ⟨none, 0, 0⟩ h3 else exA a1 fun g4 o5 => exP (h3.cell ⟨g4, o5 + 1, none⟩) fun x6 => F32 x6 h3 fun r7 h8 => K r7 h8) := by kernel_rfl
noncomputable def F14 (a1 : Option Addr) (h : GH) (K : Sl → GH → Option β) : Option β := G14 F25 F32 rounds a1 h K
set_option maxRecDepth 100000 in
theorem CF14_sim : SimOrc Try.prog (CF14 F25 F32 (β := β)) := by
  intro f args h K r hc
  unfold CF14 at hc
  cases hb : Nat.beq f 25 with
  | true =>
    rw [hb] at hc
    simp only [cond_true] at hc
    obtain rfl := Nat.eq_of_beq_eq_true hb
    split at hc <;> first | exact F25_sim hc | cases hc
  | false =>
  rw [hb] at hc
  simp only [cond_false] at hc
  cases hb : Nat.beq f 32 with
  | true =>
    rw [hb] at hc
    simp only [cond_true] at hc
    obtain rfl := Nat.eq_of_beq_eq_true hb
    split at hc <;> first | exact F32_sim hc | cases hc
  | false =>
  rw [hb] at hc
  simp only [cond_false] at hc
  cases hc
set_option maxRecDepth 100000 in
theorem F14_sim {r : β} {a1 : Option Addr} {h : GH} {K : Value → GH → Option β} (hc : F14 a1 h (fun q0 h' => K (Value.slice q0.a q0.n q0.c) h') = some r) : ∃ v h', K v h' = some r ∧ CallSim Try.prog 14 [Value.pointer a1] h v h' := by
  unfold F14 G14 at hc
  obtain ⟨v, h', hk, hs⟩ := gfun_sim CF14_sim mixed_ok Try.func14 (by kernel_rfl) hc
  obtain ⟨u0, e0, hk⟩ := exS_v hk; cases e0
  exact ⟨_, h', hk, hs⟩
/-! F13 duffel/duffelref01.Same -/
def CF13  : Orc β := fun f args h K => none
def HF13 : Hints := ⟨[(4, [0, 1, 5], [(0, [])], some [(4, 4)])], []⟩
noncomputable def BF13 : Code := match Try.f13.body with | some c => c | none => .skip
noncomputable def L13l0  (R : Nat) (n : Nat) (y3 : Sl) (y4 : Sl) (y5 : Int) (h : GH) (K0 : GH → Option β) (Kr : Bool → GH → Option β) : Option β := gloop (gcode Try.prog (CF13 ) Try.f13.ntmps HF13 R (at_ [true, true, false, true, false, false] BF13)) [0, 1, 5] n [(0, Value.slice y3.a y3.n y3.c), (1, Value.slice y4.a y4.n y4.c), (5, Value.int .i64 y5)] h (fun i e' h' => bif Nat.beq i 0 then (K0 h') else none) (fun e' h' => exB (some (e'.get 4)) fun u17 => Kr u17 h')
set_option maxRecDepth 100000 in
theorem L13l0_succ  (R : Nat) (n : Nat) (y3 : Sl) (y4 : Sl) (y5 : Int) (h : GH) (K0 : GH → Option β) (Kr : Bool → GH → Option β) : L13l0  R (n + 1) y3 y4 y5 h K0 Kr =
    (bif decide (y5 < ((y3.n : Nat) : Int)) then exA y3.a fun g7 o8 => within y5 y3.n (exI .u8 (h.cell ⟨g7, o8 + y5.toNat * 1, none⟩) fun x9 => exA y4.a fun g10 o11 => within y5 y4.n (exI .u8 (h.cell ⟨g10, o11 + y5.toNat * 1, none⟩) fun x12 => (bif x9 != x12 then Kr false h else L13l0 R n y3 y4 (IntKind.wrap .i64 (y5 + 1)) h K0 Kr))) else K0 h) := by kernel_rfl
noncomputable def G13  (R : Nat) (a1 : Sl) (a2 : Sl) (h : GH) (K : Bool → GH → Option β) : Option β := gfun Try.prog (CF13 ) HF13 R Try.f13 [Value.slice a1.a a1.n a1.c, Value.slice a2.a a2.n a2.c] h (fun v h' => exB (some v) fun u18 => K u18 h')
set_option maxRecDepth 100000 in
theorem F13_gen  (R : Nat) (a1 : Sl) (a2 : Sl) (h : GH) (K : Bool → GH → Option β) : G13  R a1 a2 h K =
    (bif ((a1.n : Nat) : Int) != ((a2.n : Nat) : Int) then K false h else L13l0 R R a1 a2 0 h (fun h13 => K true h13) (fun w14 h15 => K w14 h15)) := by kernel_rfl
noncomputable def F13 (a1 : Sl) (a2 : Sl) (h : GH) (K : Bool → GH → Option β) : Option β := G13  rounds a1 a2 h K
theorem CF13_sim : SimOrc Try.prog (CF13 (β := β)) := by
  intro f args h K r hc
  cases hc
set_option maxRecDepth 100000 in
theorem F13_sim {r : β} {a1 : Sl} {a2 : Sl} {h : GH} {K : Value → GH → Option β} (hc : F13 a1 a2 h (fun q0 h' => K (Value.bool q0) h') = some r) : ∃ v h', K v h' = some r ∧ CallSim Try.prog 13 [Value.slice a1.a a1.n a1.c, Value.slice a2.a a2.n a2.c] h v h' := by
  unfold F13 G13 at hc
  obtain ⟨v, h', hk, hs⟩ := gfun_sim CF13_sim mixed_ok Try.func13 (by kernel_rfl) hc
  obtain ⟨u0, e0, hk⟩ := exB_v hk; cases e0
  exact ⟨_, h', hk, hs⟩
/-! F18 duffel/duffellaw13.lives -/
def CF18 (F9 : Int → Int → GH → (Option Addr → Int → GH → Option β) → Option β) (F11 : Option Addr → Int → GH → (Int → GH → Option β) → Option β) (F15 : Option Addr → GH → (Bool → GH → Option β) → Option β) (F14 : Option Addr → GH → (Sl → GH → Option β) → Option β) : Orc β := fun f args h K => bif Nat.beq f 9 then (match args with | [.int .i64 p1, .int .i64 p2] => F9 p1 p2 h (fun q10 q11 h' => K (Value.tuple #[Value.pointer q10, Value.int .i64 q11]) h') | _ => none) else (bif Nat.beq f 11 then (match args with | [.pointer p1, .int .u8 p2] => F11 p1 p2 h (fun q46 h' => K (Value.int .i64 q46) h') | _ => none) else (bif Nat.beq f 15 then (match args with | [.pointer p1] => F15 p1 h (fun q9 h' => K (Value.bool q9) h') | _ => none) else (bif Nat.beq f 14 then (match args with | [.pointer p1] => F14 p1 h (fun q9 h' => K (Value.slice q9.a q9.n q9.c) h') | _ => none) else none)))
def HF18 : Hints := ⟨[], []⟩
noncomputable def G18 (F9 : Int → Int → GH → (Option Addr → Int → GH → Option β) → Option β) (F11 : Option Addr → Int → GH → (Int → GH → Option β) → Option β) (F15 : Option Addr → GH → (Bool → GH → Option β) → Option β) (F14 : Option Addr → GH → (Sl → GH → Option β) → Option β) (R : Nat)  (h : GH) (K : Bool → GH → Option β) : Option β := gfun Try.prog (CF18 F9 F11 F15 F14) HF18 R Try.f18 [] h (fun v h' => exB (some v) fun u13 => K u13 h')
set_option maxRecDepth 100000 in
theorem F18_gen (F9 : Int → Int → GH → (Option Addr → Int → GH → Option β) → Option β) (F11 : Option Addr → Int → GH → (Int → GH → Option β) → Option β) (F15 : Option Addr → GH → (Bool → GH → Option β) → Option β) (F14 : Option Addr → GH → (Sl → GH → Option β) → Option β) (R : Nat)  (h : GH) (K : Bool → GH → Option β) : G18 F9 F11 F15 F14 R  h K =
    F9 1 1 h fun r1 r2 h3 => (bif r2 == 0 then F11 r1 144 h3 fun r4 h5 => (bif r4 == 0 then F11 r1 0 h5 fun r6 h7 => (bif r6 == 0 then F15 r1 h7 fun r8 h9 => (bif r8 then F14 r1 h9 fun r10 h11 => K (((r10.n : Nat) : Int) == 1) h11 else K false h9) else K false h7) else K false h5) else K false h3) := by kernel_rfl
noncomputable def F18  (h : GH) (K : Bool → GH → Option β) : Option β := G18 F9 F11 F15 F14 rounds  h K
set_option maxRecDepth 100000 in
theorem CF18_sim : SimOrc Try.prog (CF18 F9 F11 F15 F14 (β := β)) := by
  intro f args h K r hc
  unfold CF18 at hc
  cases hb : Nat.beq f 9 with
  | true =>
    rw [hb] at hc
    simp only [cond_true] at hc
    obtain rfl := Nat.eq_of_beq_eq_true hb
    split at hc <;> first | exact F9_sim hc | cases hc
  | false =>
  rw [hb] at hc
  simp only [cond_false] at hc
  cases hb : Nat.beq f 11 with
  | true =>
    rw [hb] at hc
    simp only [cond_true] at hc
    obtain rfl := Nat.eq_of_beq_eq_true hb
    split at hc <;> first | exact F11_sim hc | cases hc
  | false =>
  rw [hb] at hc
  simp only [cond_false] at hc
  cases hb : Nat.beq f 15 with
  | true =>
    rw [hb] at hc
    simp only [cond_true] at hc
    obtain rfl := Nat.eq_of_beq_eq_true hb
    split at hc <;> first | exact F15_sim hc | cases hc
  | false =>
  rw [hb] at hc
  simp only [cond_false] at hc
  cases hb : Nat.beq f 14 with
  | true =>
    rw [hb] at hc
    simp only [cond_true] at hc
    obtain rfl := Nat.eq_of_beq_eq_true hb
    split at hc <;> first | exact F14_sim hc | cases hc
  | false =>
  rw [hb] at hc
  simp only [cond_false] at hc
  cases hc
set_option maxRecDepth 100000 in
theorem F18_sim {r : β}  {h : GH} {K : Value → GH → Option β} (hc : F18  h (fun q0 h' => K (Value.bool q0) h') = some r) : ∃ v h', K v h' = some r ∧ CallSim Try.prog 18 [] h v h' := by
  unfold F18 G18 at hc
  obtain ⟨v, h', hk, hs⟩ := gfun_sim CF18_sim mixed_ok Try.func18 (by kernel_rfl) hc
  obtain ⟨u0, e0, hk⟩ := exB_v hk; cases e0
  exact ⟨_, h', hk, hs⟩
theorem F18_true : F18 GH.empty (fun b _ => some b) = some true := by kernel_rfl
def F18c (h : GH) (K : Bool → GH → Option β) : Option β := K true h
theorem F18c_sim {r : β} {h : GH} {K : Value → GH → Option β} (hc : F18c h (fun b h' => K (Value.bool b) h') = some r) : ∃ v h', K v h' = some r ∧ CallSim Try.prog 18 [] h v h' := by
  obtain ⟨v, h', hk, hs⟩ := F18_sim (K := fun v _ => exB (some v) fun b => some b) (h := GH.empty) (r := true) F18_true
  obtain ⟨u, e, hk⟩ := exB_v hk
  cases e
  cases hk
  exact ⟨_, h, hc, hs.alone⟩
/-! F3 duffel/duffellaw13.DleFeeds -/
def CF3 (F8 : Sl → Int → GH → (Sl → GH → Option β) → Option β) (F9 : Int → Int → GH → (Option Addr → Int → GH → Option β) → Option β) (F10 : Int → Int → GH → (Option Addr → Int → GH → Option β) → Option β) (F11 : Option Addr → Int → GH → (Int → GH → Option β) → Option β) (F12 : Option Addr → Int → GH → (Int → GH → Option β) → Option β) (F14 : Option Addr → GH → (Sl → GH → Option β) → Option β) (F13 : Sl → Sl → GH → (Bool → GH → Option β) → Option β) (F15 : Option Addr → GH → (Bool → GH → Option β) → Option β) (F16 : Option Addr → GH → (Bool → GH → Option β) → Option β) (F17 : Option Addr → GH → (Bool → GH → Option β) → Option β) (F18 : GH → (Bool → GH → Option β) → Option β) : Orc β := fun f args h K => bif Nat.beq f 8 then (match args with | [.slice p1a p1n p1c, .int .i64 p2] => F8 ⟨p1a, p1n, p1c⟩ p2 h (fun q4 h' => K (Value.slice q4.a q4.n q4.c) h') | _ => none) else (bif Nat.beq f 9 then (match args with | [.int .i64 p1, .int .i64 p2] => F9 p1 p2 h (fun q10 q11 h' => K (Value.tuple #[Value.pointer q10, Value.int .i64 q11]) h') | _ => none) else (bif Nat.beq f 10 then (match args with | [.int .i64 p1, .int .i64 p2] => F10 p1 p2 h (fun q7 q8 h' => K (Value.tuple #[Value.pointer q7, Value.int .i64 q8]) h') | _ => none) else (bif Nat.beq f 11 then (match args with | [.pointer p1, .int .u8 p2] => F11 p1 p2 h (fun q46 h' => K (Value.int .i64 q46) h') | _ => none) else (bif Nat.beq f 12 then (match args with | [.pointer p1, .int .u8 p2] => F12 p1 p2 h (fun q67 h' => K (Value.int .i64 q67) h') | _ => none) else (bif Nat.beq f 14 then (match args with | [.pointer p1] => F14 p1 h (fun q9 h' => K (Value.slice q9.a q9.n q9.c) h') | _ => none) else (bif Nat.beq f 13 then (match args with | [.slice p1a p1n p1c, .slice p2a p2n p2c] => F13 ⟨p1a, p1n, p1c⟩ ⟨p2a, p2n, p2c⟩ h (fun q16 h' => K (Value.bool q16) h') | _ => none) else (bif Nat.beq f 15 then (match args with | [.pointer p1] => F15 p1 h (fun q9 h' => K (Value.bool q9) h') | _ => none) else (bif Nat.beq f 16 then (match args with | [.pointer p1] => F16 p1 h (fun q17 h' => K (Value.bool q17) h') | _ => none) else (bif Nat.beq f 17 then (match args with | [.pointer p1] => F17 p1 h (fun q7 h' => K (Value.bool q7) h') | _ => none) else (bif Nat.beq f 18 then (match args with | [] => F18  h (fun q12 h' => K (Value.bool q12) h') | _ => none) else none))))))))))
def HF3 : Hints := ⟨[(7, [2, 7, 9, 11], [(0, [])], some [(6, 4)])], []⟩
noncomputable def BF3 : Code := match Try.f3.body with | some c => c | none => .skip
noncomputable def L3l0 (F8 : Sl → Int → GH → (Sl → GH → Option β) → Option β) (F9 : Int → Int → GH → (Option Addr → Int → GH → Option β) → Option β) (F10 : Int → Int → GH → (Option Addr → Int → GH → Option β) → Option β) (F11 : Option Addr → Int → GH → (Int → GH → Option β) → Option β) (F12 : Option Addr → Int → GH → (Int → GH → Option β) → Option β) (F14 : Option Addr → GH → (Sl → GH → Option β) → Option β) (F13 : Sl → Sl → GH → (Bool → GH → Option β) → Option β) (F15 : Option Addr → GH → (Bool → GH → Option β) → Option β) (F16 : Option Addr → GH → (Bool → GH → Option β) → Option β) (F17 : Option Addr → GH → (Bool → GH → Option β) → Option β) (F18 : GH → (Bool → GH → Option β) → Option β) (R : Nat) (n : Nat) (y12 : Sl) (y13 : Option Addr) (y14 : Option Addr) (y15 : Int) (h : GH) (K0 : GH → Option β) (Kr : Bool → GH → Option β) : Option β := gloop (gcode Try.prog (CF3 F8 F9 F10 F11 F12 F14 F13 F15 F16 F17 F18) Try.f3.ntmps HF3 R (at_ [true, true, true, true, true, false, true, false, false] BF3)) [2, 7, 9, 11] n [(2, Value.slice y12.a y12.n y12.c), (7, Value.pointer y13), (9, Value.pointer y14), (11, Value.int .i64 y15)] h (fun i e' h' => bif Nat.beq i 0 then (K0 h') else none) (fun e' h' => exB (some (e'.get 6)) fun u52 => Kr u52 h')
set_option maxRecDepth 100000 in
theorem L3l0_succ (F8 : Sl → Int → GH → (Sl → GH → Option β) → Option β) (F9 : Int → Int → GH → (Option Addr → Int → GH → Option β) → Option β) (F10 : Int → Int → GH → (Option Addr → Int → GH → Option β) → Option β) (F11 : Option Addr → Int → GH → (Int → GH → Option β) → Option β) (F12 : Option Addr → Int → GH → (Int → GH → Option β) → Option β) (F14 : Option Addr → GH → (Sl → GH → Option β) → Option β) (F13 : Sl → Sl → GH → (Bool → GH → Option β) → Option β) (F15 : Option Addr → GH → (Bool → GH → Option β) → Option β) (F16 : Option Addr → GH → (Bool → GH → Option β) → Option β) (F17 : Option Addr → GH → (Bool → GH → Option β) → Option β) (F18 : GH → (Bool → GH → Option β) → Option β) (R : Nat) (n : Nat) (y12 : Sl) (y13 : Option Addr) (y14 : Option Addr) (y15 : Int) (h : GH) (K0 : GH → Option β) (Kr : Bool → GH → Option β) : L3l0 F8 F9 F10 F11 F12 F14 F13 F15 F16 F17 F18 R (n + 1) y12 y13 y14 y15 h K0 Kr =
    (bif decide (y15 < ((y12.n : Nat) : Int)) then (bif !y14.isNone then exA y12.a fun g17 o18 => within y15 y12.n (exI .u8 (h.cell ⟨g17, o18 + y15.toNat * 1, none⟩) fun x19 => F11 y13 x19 h fun r20 h21 => exA y12.a fun g22 o23 => within y15 y12.n (exI .u8 (h21.cell ⟨g22, o23 + y15.toNat * 1, none⟩) fun x24 => F12 y14 x24 h21 fun r25 h26 => (bif r20 != r25 then (bif sameAt g22 (o23 + y15.toNat * 1) 1 h h21 then Kr false h26 else none) else F14 y13 h26 fun r27 h28 => exA y14 fun g29 o30 => exP (h28.cell ⟨g29, o30 + 1, none⟩) fun x31 => exA x31 fun g32 o33 => exS (h28.cell ⟨g32, o33 + 3, none⟩) fun x34 => F13 r27 x34 h28 fun r35 h36 => (bif !r35 then (bif sameAt g32 (o33 + 3) 1 h26 h28 then (bif sameAt g29 (o30 + 1) 1 h26 h28 then (bif sameAt g22 (o23 + y15.toNat * 1) 1 h h21 then Kr false h36 else none) else none) else none) else F15 y13 h36 fun r37 h38 => F16 y14 h38 fun r39 h40 => (bif !(r37 == r39) then (bif sameAt g32 (o33 + 3) 1 h26 h28 then (bif sameAt g29 (o30 + 1) 1 h26 h28 then (bif sameAt g22 (o23 + y15.toNat * 1) 1 h h21 then Kr false h40 else none) else none) else none) else F17 y13 h40 fun r41 h42 => exA y14 fun g43 o44 => exI .i64 (h42.cell ⟨g43, o44 + 2, none⟩) fun x45 => (bif sameAt g43 (o44 + 2) 1 h40 h42 then (bif sameAt g32 (o33 + 3) 1 h26 h28 then (bif sameAt g29 (o30 + 1) 1 h26 h28 then (bif sameAt g22 (o23 + y15.toNat * 1) 1 h h21 then (bif !(r41 == (x45 == 0)) then Kr false h42 else L3l0 F8 F9 F10 F11 F12 F14 F13 F15 F16 F17 F18 R n y12 y13 y14 (IntKind.wrap .i64 (y15 + 1)) h42 K0 Kr) else none) else none) else none) else none)))))) else K0 h) else K0 h) := by kernel_rfl
noncomputable def G3 (F8 : Sl → Int → GH → (Sl → GH → Option β) → Option β) (F9 : Int → Int → GH → (Option Addr → Int → GH → Option β) → Option β) (F10 : Int → Int → GH → (Option Addr → Int → GH → Option β) → Option β) (F11 : Option Addr → Int → GH → (Int → GH → Option β) → Option β) (F12 : Option Addr → Int → GH → (Int → GH → Option β) → Option β) (F14 : Option Addr → GH → (Sl → GH → Option β) → Option β) (F13 : Sl → Sl → GH → (Bool → GH → Option β) → Option β) (F15 : Option Addr → GH → (Bool → GH → Option β) → Option β) (F16 : Option Addr → GH → (Bool → GH → Option β) → Option β) (F17 : Option Addr → GH → (Bool → GH → Option β) → Option β) (F18 : GH → (Bool → GH → Option β) → Option β) (R : Nat) (a1 : Int) (a2 : Int) (a3 : Sl) (h : GH) (K : Bool → GH → Option β) : Option β := gfun Try.prog (CF3 F8 F9 F10 F11 F12 F14 F13 F15 F16 F17 F18) HF3 R Try.f3 [Value.int .i64 a1, Value.int .i64 a2, Value.slice a3.a a3.n a3.c] h (fun v h' => exB (some v) fun u53 => K u53 h')
set_option maxRecDepth 100000 in
theorem F3_gen (F8 : Sl → Int → GH → (Sl → GH → Option β) → Option β) (F9 : Int → Int → GH → (Option Addr → Int → GH → Option β) → Option β) (F10 : Int → Int → GH → (Option Addr → Int → GH → Option β) → Option β) (F11 : Option Addr → Int → GH → (Int → GH → Option β) → Option β) (F12 : Option Addr → Int → GH → (Int → GH → Option β) → Option β) (F14 : Option Addr → GH → (Sl → GH → Option β) → Option β) (F13 : Sl → Sl → GH → (Bool → GH → Option β) → Option β) (F15 : Option Addr → GH → (Bool → GH → Option β) → Option β) (F16 : Option Addr → GH → (Bool → GH → Option β) → Option β) (F17 : Option Addr → GH → (Bool → GH → Option β) → Option β) (F18 : GH → (Bool → GH → Option β) → Option β) (R : Nat) (a1 : Int) (a2 : Int) (a3 : Sl) (h : GH) (K : Bool → GH → Option β) : G3 F8 F9 F10 F11 F12 F14 F13 F15 F16 F17 F18 R a1 a2 a3 h K =
    F8 a3 60 h fun r4 h5 => F9 a1 a2 h5 fun r6 r7 h8 => F10 a1 a2 h8 fun r9 r10 h11 => (bif r7 != r10 then K false h11 else (bif !(r6.isNone == r9.isNone) then K false h11 else L3l0 F8 F9 F10 F11 F12 F14 F13 F15 F16 F17 F18 R R r4 r6 r9 0 h11 (fun h46 => F18 h46 fun r47 h48 => K r47 h48) (fun w49 h50 => K w49 h50))) := by kernel_rfl
noncomputable def F3 (a1 : Int) (a2 : Int) (a3 : Sl) (h : GH) (K : Bool → GH → Option β) : Option β := G3 F8 F9 F10 F11 F12 F14 F13 F15 F16 F17 F18c rounds a1 a2 a3 h K
set_option maxRecDepth 100000 in
theorem CF3_sim : SimOrc Try.prog (CF3 F8 F9 F10 F11 F12 F14 F13 F15 F16 F17 F18c (β := β)) := by
  intro f args h K r hc
  unfold CF3 at hc
  cases hb : Nat.beq f 8 with
  | true =>
    rw [hb] at hc
    simp only [cond_true] at hc
    obtain rfl := Nat.eq_of_beq_eq_true hb
    split at hc <;> first | exact F8_sim hc | cases hc
  | false =>
  rw [hb] at hc
  simp only [cond_false] at hc
  cases hb : Nat.beq f 9 with
  | true =>
    rw [hb] at hc
    simp only [cond_true] at hc
    obtain rfl := Nat.eq_of_beq_eq_true hb
    split at hc <;> first | exact F9_sim hc | cases hc
  | false =>
  rw [hb] at hc
  simp only [cond_false] at hc
  cases hb : Nat.beq f 10 with
  | true =>
    rw [hb] at hc
    simp only [cond_true] at hc
    obtain rfl := Nat.eq_of_beq_eq_true hb
    split at hc <;> first | exact F10_sim hc | cases hc
  | false =>
  rw [hb] at hc
  simp only [cond_false] at hc
  cases hb : Nat.beq f 11 with
  | true =>
    rw [hb] at hc
    simp only [cond_true] at hc
    obtain rfl := Nat.eq_of_beq_eq_true hb
    split at hc <;> first | exact F11_sim hc | cases hc
  | false =>
  rw [hb] at hc
  simp only [cond_false] at hc
  cases hb : Nat.beq f 12 with
  | true =>
    rw [hb] at hc
    simp only [cond_true] at hc
    obtain rfl := Nat.eq_of_beq_eq_true hb
    split at hc <;> first | exact F12_sim hc | cases hc
  | false =>
  rw [hb] at hc
  simp only [cond_false] at hc
  cases hb : Nat.beq f 14 with
  | true =>
    rw [hb] at hc
    simp only [cond_true] at hc
    obtain rfl := Nat.eq_of_beq_eq_true hb
    split at hc <;> first | exact F14_sim hc | cases hc
  | false =>
  rw [hb] at hc
  simp only [cond_false] at hc
  cases hb : Nat.beq f 13 with
  | true =>
    rw [hb] at hc
    simp only [cond_true] at hc
    obtain rfl := Nat.eq_of_beq_eq_true hb
    split at hc <;> first | exact F13_sim hc | cases hc
  | false =>
  rw [hb] at hc
  simp only [cond_false] at hc
  cases hb : Nat.beq f 15 with
  | true =>
    rw [hb] at hc
    simp only [cond_true] at hc
    obtain rfl := Nat.eq_of_beq_eq_true hb
    split at hc <;> first | exact F15_sim hc | cases hc
  | false =>
  rw [hb] at hc
  simp only [cond_false] at hc
  cases hb : Nat.beq f 16 with
  | true =>
    rw [hb] at hc
    simp only [cond_true] at hc
    obtain rfl := Nat.eq_of_beq_eq_true hb
    split at hc <;> first | exact F16_sim hc | cases hc
  | false =>
  rw [hb] at hc
  simp only [cond_false] at hc
  cases hb : Nat.beq f 17 with
  | true =>
    rw [hb] at hc
    simp only [cond_true] at hc
    obtain rfl := Nat.eq_of_beq_eq_true hb
    split at hc <;> first | exact F17_sim hc | cases hc
  | false =>
  rw [hb] at hc
  simp only [cond_false] at hc
  cases hb : Nat.beq f 18 with
  | true =>
    rw [hb] at hc
    simp only [cond_true] at hc
    obtain rfl := Nat.eq_of_beq_eq_true hb
    split at hc <;> first | exact F18c_sim hc | cases hc
  | false =>
  rw [hb] at hc
  simp only [cond_false] at hc
  cases hc
set_option maxRecDepth 100000 in
theorem F3_sim {r : β} {a1 : Int} {a2 : Int} {a3 : Sl} {h : GH} {K : Value → GH → Option β} (hc : F3 a1 a2 a3 h (fun q0 h' => K (Value.bool q0) h') = some r) : ∃ v h', K v h' = some r ∧ CallSim Try.prog 3 [Value.int .i64 a1, Value.int .i64 a2, Value.slice a3.a a3.n a3.c] h v h' := by
  unfold F3 G3 at hc
  obtain ⟨v, h', hk, hs⟩ := gfun_sim CF3_sim mixed_ok Try.func3 (by kernel_rfl) hc
  obtain ⟨u0, e0, hk⟩ := exB_v hk; cases e0
  exact ⟨_, h', hk, hs⟩
/-! F4 duffel/duffellaw13.DleNobody -/
def CF4 (F11 : Option Addr → Int → GH → (Int → GH → Option β) → Option β) (F14 : Option Addr → GH → (Sl → GH → Option β) → Option β) (F15 : Option Addr → GH → (Bool → GH → Option β) → Option β) (F17 : Option Addr → GH → (Bool → GH → Option β) → Option β) (F18 : GH → (Bool → GH → Option β) → Option β) : Orc β := fun f args h K => bif Nat.beq f 11 then (match args with | [.pointer p1, .int .u8 p2] => F11 p1 p2 h (fun q46 h' => K (Value.int .i64 q46) h') | _ => none) else (bif Nat.beq f 14 then (match args with | [.pointer p1] => F14 p1 h (fun q9 h' => K (Value.slice q9.a q9.n q9.c) h') | _ => none) else (bif Nat.beq f 15 then (match args with | [.pointer p1] => F15 p1 h (fun q9 h' => K (Value.bool q9) h') | _ => none) else (bif Nat.beq f 17 then (match args with | [.pointer p1] => F17 p1 h (fun q7 h' => K (Value.bool q7) h') | _ => none) else (bif Nat.beq f 18 then (match args with | [] => F18  h (fun q12 h' => K (Value.bool q12) h') | _ => none) else none))))
def HF4 : Hints := ⟨[], []⟩
noncomputable def G4 (F11 : Option Addr → Int → GH → (Int → GH → Option β) → Option β) (F14 : Option Addr → GH → (Sl → GH → Option β) → Option β) (F15 : Option Addr → GH → (Bool → GH → Option β) → Option β) (F17 : Option Addr → GH → (Bool → GH → Option β) → Option β) (F18 : GH → (Bool → GH → Option β) → Option β) (R : Nat) (a1 : Int) (h : GH) (K : Bool → GH → Option β) : Option β := gfun Try.prog (CF4 F11 F14 F15 F17 F18) HF4 R Try.f4 [Value.int .u8 a1] h (fun v h' => exB (some v) fun u23 => K u23 h')
set_option maxRecDepth 100000 in
theorem F4_gen (F11 : Option Addr → Int → GH → (Int → GH → Option β) → Option β) (F14 : Option Addr → GH → (Sl → GH → Option β) → Option β) (F15 : Option Addr → GH → (Bool → GH → Option β) → Option β) (F17 : Option Addr → GH → (Bool → GH → Option β) → Option β) (F18 : GH → (Bool → GH → Option β) → Option β) (R : Nat) (a1 : Int) (h : GH) (K : Bool → GH → Option β) : G4 F11 F14 F15 F17 F18 R a1 h K =
    gnew [Value.int .i64 0, Value.pointer none, Value.int .i64 0, Value.int .i64 0, Value.int .i64 0] 0 h fun g2 h3 => F11 none a1 h3 fun r4 h5 => (bif r4 == 1 then F11 (some ⟨g2, 0, none⟩) a1 h5 fun r6 h7 => (bif r6 == 1 then F14 none h7 fun r8 h9 => F14 (some ⟨g2, 0, none⟩) h9 fun r10 h11 => (bif (IntKind.wrap .i64 (((r8.n : Nat) : Int) + ((r10.n : Nat) : Int))) == 0 then F15 none h11 fun r12 h13 => (bif !r12 then F15 (some ⟨g2, 0, none⟩) h13 fun r14 h15 => (bif !r14 then F17 none h15 fun r16 h17 => (bif !r16 then F17 (some ⟨g2, 0, none⟩) h17 fun r18 h19 => (bif !r18 then F18 h19 fun r20 h21 => K r20 h21 else K false h19) else K false h17) else K false h15) else K false h13) else K false h11) else K false h7) else K false h5) := by kernel_rfl
noncomputable def F4 (a1 : Int) (h : GH) (K : Bool → GH → Option β) : Option β := G4 F11 F14 F15 F17 F18c rounds a1 h K
set_option maxRecDepth 100000 in
theorem CF4_sim : SimOrc Try.prog (CF4 F11 F14 F15 F17 F18c (β := β)) := by
  intro f args h K r hc
  unfold CF4 at hc
  cases hb : Nat.beq f 11 with
  | true =>
    rw [hb] at hc
    simp only [cond_true] at hc
    obtain rfl := Nat.eq_of_beq_eq_true hb
    split at hc <;> first | exact F11_sim hc | cases hc
  | false =>
  rw [hb] at hc
  simp only [cond_false] at hc
  cases hb : Nat.beq f 14 with
  | true =>
    rw [hb] at hc
    simp only [cond_true] at hc
    obtain rfl := Nat.eq_of_beq_eq_true hb
    split at hc <;> first | exact F14_sim hc | cases hc
  | false =>
  rw [hb] at hc
  simp only [cond_false] at hc
  cases hb : Nat.beq f 15 with
  | true =>
    rw [hb] at hc
    simp only [cond_true] at hc
    obtain rfl := Nat.eq_of_beq_eq_true hb
    split at hc <;> first | exact F15_sim hc | cases hc
  | false =>
  rw [hb] at hc
  simp only [cond_false] at hc
  cases hb : Nat.beq f 17 with
  | true =>
    rw [hb] at hc
    simp only [cond_true] at hc
    obtain rfl := Nat.eq_of_beq_eq_true hb
    split at hc <;> first | exact F17_sim hc | cases hc
  | false =>
  rw [hb] at hc
  simp only [cond_false] at hc
  cases hb : Nat.beq f 18 with
  | true =>
    rw [hb] at hc
    simp only [cond_true] at hc
    obtain rfl := Nat.eq_of_beq_eq_true hb
    split at hc <;> first | exact F18c_sim hc | cases hc
  | false =>
  rw [hb] at hc
  simp only [cond_false] at hc
  cases hc
set_option maxRecDepth 100000 in
theorem F4_sim {r : β} {a1 : Int} {h : GH} {K : Value → GH → Option β} (hc : F4 a1 h (fun q0 h' => K (Value.bool q0) h') = some r) : ∃ v h', K v h' = some r ∧ CallSim Try.prog 4 [Value.int .u8 a1] h v h' := by
  unfold F4 G4 at hc
  obtain ⟨v, h', hk, hs⟩ := gfun_sim CF4_sim mixed_ok Try.func4 (by kernel_rfl) hc
  obtain ⟨u0, e0, hk⟩ := exB_v hk; cases e0
  exact ⟨_, h', hk, hs⟩
/-! F19 duffel/duffelref01.Copy -/
def CF19  : Orc β := fun f args h K => none
def HF19 : Hints := ⟨[], []⟩
noncomputable def G19  (R : Nat) (a1 : Sl) (h : GH) (K : Sl → GH → Option β) : Option β := gfun Try.prog (CF19 ) HF19 R Try.f19 [Value.slice a1.a a1.n a1.c] h (fun v h' => exS (some v) fun u5 => K u5 h')
set_option maxRecDepth 100000 in
theorem F19_gen  (R : Nat) (a1 : Sl) (h : GH) (K : Sl → GH → Option β) : G19  R a1 h K =
    gappS 1 1 ⟨none, 0, 0⟩ a1 h fun s2 h3 => K s2 h3 := by kernel_rfl
noncomputable def F19 (a1 : Sl) (h : GH) (K : Sl → GH → Option β) : Option β := G19  rounds a1 h K
theorem CF19_sim : SimOrc Try.prog (CF19 (β := β)) := by
  intro f args h K r hc
  cases hc
set_option maxRecDepth 100000 in
theorem F19_sim {r : β} {a1 : Sl} {h : GH} {K : Value → GH → Option β} (hc : F19 a1 h (fun q0 h' => K (Value.slice q0.a q0.n q0.c) h') = some r) : ∃ v h', K v h' = some r ∧ CallSim Try.prog 19 [Value.slice a1.a a1.n a1.c] h v h' := by
  unfold F19 G19 at hc
  obtain ⟨v, h', hk, hs⟩ := gfun_sim CF19_sim mixed_ok Try.func19 (by kernel_rfl) hc
  obtain ⟨u0, e0, hk⟩ := exS_v hk; cases e0
  exact ⟨_, h', hk, hs⟩
/-! F40 duffel/finder.Check -/
def CF40  : Orc β := fun f args h K => none
def HF40 : Hints := ⟨[], []⟩
noncomputable def G40  (R : Nat) (a1 : Int) (a2 : Int) (a3 : Int) (a4 : Int) (a5 : Bool) (h : GH) (K : Int → GH → Option β) : Option β := gfun Try.prog (CF40 ) HF40 R Try.f40 [Value.agg #[Value.int .i64 a1, Value.int .i64 a2, Value.int .i64 a3, Value.int .i64 a4, Value.bool a5]] h (fun v h' => exI .i64 (some v) fun u18 => K u18 h')
set_option maxRecDepth 100000 in
theorem F40_gen  (R : Nat) (a1 : Int) (a2 : Int) (a3 : Int) (a4 : Int) (a5 : Bool) (h : GH) (K : Int → GH → Option β) : G40  R a1 a2 a3 a4 a5 h K =
    gnew [Value.int .i64 a1, Value.int .i64 a2, Value.int .i64 a3, Value.int .i64 a4, Value.bool a5] 0 h fun g6 h7 => exI .i64 (h7.cell ⟨g6, 0 + 0, none⟩) fun x8 => (bif decide (x8 < 1) then K 2 h7 else exI .i64 (h7.cell ⟨g6, 0 + 0, none⟩) fun x9 => (bif decide (x9 > 65536) then K 2 h7 else exI .i64 (h7.cell ⟨g6, 0 + 1, none⟩) fun x10 => (bif decide (x10 < 2) then K 2 h7 else exI .i64 (h7.cell ⟨g6, 0 + 1, none⟩) fun x11 => (bif decide (x11 > 3) then K 2 h7 else exI .i64 (h7.cell ⟨g6, 0 + 2, none⟩) fun x12 => exI .i64 (h7.cell ⟨g6, 0 + 1, none⟩) fun x13 => (bif decide (x12 < x13) then K 2 h7 else exI .i64 (h7.cell ⟨g6, 0 + 2, none⟩) fun x14 => (bif decide (x14 > 65538) then K 2 h7 else exI .i64 (h7.cell ⟨g6, 0 + 3, none⟩) fun x15 => (bif decide (x15 < 0) then K 2 h7 else exI .i64 (h7.cell ⟨g6, 0 + 3, none⟩) fun x16 => (bif decide (x16 > 4096) then K 2 h7 else K 0 h7)))))))) := by kernel_rfl
noncomputable def F40 (a1 : Int) (a2 : Int) (a3 : Int) (a4 : Int) (a5 : Bool) (h : GH) (K : Int → GH → Option β) : Option β := G40  rounds a1 a2 a3 a4 a5 h K
theorem CF40_sim : SimOrc Try.prog (CF40 (β := β)) := by
  intro f args h K r hc
  cases hc
set_option maxRecDepth 100000 in
theorem F40_sim {r : β} {a1 : Int} {a2 : Int} {a3 : Int} {a4 : Int} {a5 : Bool} {h : GH} {K : Value → GH → Option β} (hc : F40 a1 a2 a3 a4 a5 h (fun q0 h' => K (Value.int .i64 q0) h') = some r) : ∃ v h', K v h' = some r ∧ CallSim Try.prog 40 [Value.agg #[Value.int .i64 a1, Value.int .i64 a2, Value.int .i64 a3, Value.int .i64 a4, Value.bool a5]] h v h' := by
  unfold F40 G40 at hc
  obtain ⟨v, h', hk, hs⟩ := gfun_sim CF40_sim mixed_ok Try.func40 (by kernel_rfl) hc
  obtain ⟨u0, e0, hk⟩ := exI_v hk; cases e0
  exact ⟨_, h', hk, hs⟩
/-! F22 duffel/duffelref01.Within -/
def CF22  : Orc β := fun f args h K => none
def HF22 : Hints := ⟨[], []⟩
noncomputable def G22  (R : Nat) (a1 : Int) (a2 : Int) (a3 : Int) (h : GH) (K : Int → GH → Option β) : Option β := gfun Try.prog (CF22 ) HF22 R Try.f22 [Value.int .i64 a1, Value.int .i64 a2, Value.int .i64 a3] h (fun v h' => exI .i64 (some v) fun u5 => K u5 h')
set_option maxRecDepth 100000 in
theorem F22_gen  (R : Nat) (a1 : Int) (a2 : Int) (a3 : Int) (h : GH) (K : Int → GH → Option β) : G22  R a1 a2 a3 h K =
    (bif decide (a1 < a2) then K a2 h else (bif decide (a1 > a3) then K a3 h else K a1 h)) := by kernel_rfl
noncomputable def F22 (a1 : Int) (a2 : Int) (a3 : Int) (h : GH) (K : Int → GH → Option β) : Option β := G22  rounds a1 a2 a3 h K
theorem CF22_sim : SimOrc Try.prog (CF22 (β := β)) := by
  intro f args h K r hc
  cases hc
set_option maxRecDepth 100000 in
theorem F22_sim {r : β} {a1 : Int} {a2 : Int} {a3 : Int} {h : GH} {K : Value → GH → Option β} (hc : F22 a1 a2 a3 h (fun q0 h' => K (Value.int .i64 q0) h') = some r) : ∃ v h', K v h' = some r ∧ CallSim Try.prog 22 [Value.int .i64 a1, Value.int .i64 a2, Value.int .i64 a3] h v h' := by
  unfold F22 G22 at hc
  obtain ⟨v, h', hk, hs⟩ := gfun_sim CF22_sim mixed_ok Try.func22 (by kernel_rfl) hc
  obtain ⟨u0, e0, hk⟩ := exI_v hk; cases e0
  exact ⟨_, h', hk, hs⟩
end
end Go.Proofs.Ytplkdjbcdeakaaa.Gx
