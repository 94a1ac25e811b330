/- Functions of the program as the plain machine has them, each with its equation. Printed by a program of this place (wip/gx/gx.py) out of the translation. No condition. -/
import Derived.Test.YtdmemmpkkibckaaGxQ
import Derived.Test.YtdmemmpkkibckaaProg
namespace Go.Proofs.Ytdmemmpkkibckaa.Gx
open Go
set_option linter.unusedVariables false
theorem mixed_ok : Try.prog.follows .mixedOrders = true := by kernel_rfl
section
variable {β : Type}
noncomputable def Str0 : ByteArray := ⟨([0, 1, 2, 2, 3, 3, 3, 3, 4, 4, 4, 4, 4, 4, 4, 4, 5, 5, 5, 5, 5, 5, 5, 5, 5, 5, 5, 5, 5, 5, 5, 5, 6, 6, 6, 6, 6, 6, 6, 6, 6, 6, 6, 6, 6, 6, 6, 6, 6, 6, 6, 6, 6, 6, 6, 6, 6, 6, 6, 6, 6, 6, 6, 6, 7, 7, 7, 7, 7, 7, 7, 7, 7, 7, 7, 7, 7, 7, 7, 7, 7, 7, 7, 7, 7, 7, 7, 7, 7, 7, 7, 7, 7, 7, 7, 7, 7, 7, 7, 7, 7, 7, 7, 7, 7, 7, 7, 7, 7, 7, 7, 7, 7, 7, 7, 7, 7, 7, 7, 7, 7, 7, 7, 7, 7, 7, 7, 7, 8, 8, 8, 8, 8, 8, 8, 8, 8, 8, 8, 8, 8, 8, 8, 8, 8, 8, 8, 8, 8, 8, 8, 8, 8, 8, 8, 8, 8, 8, 8, 8, 8, 8, 8, 8, 8, 8, 8, 8, 8, 8, 8, 8, 8, 8, 8, 8, 8, 8, 8, 8, 8, 8, 8, 8, 8, 8, 8, 8, 8, 8, 8, 8, 8, 8, 8, 8, 8, 8, 8, 8, 8, 8, 8, 8, 8, 8, 8, 8, 8, 8, 8, 8, 8, 8, 8, 8, 8, 8, 8, 8, 8, 8, 8, 8, 8, 8, 8, 8, 8, 8, 8, 8, 8, 8, 8, 8, 8, 8, 8, 8, 8, 8, 8, 8, 8, 8, 8, 8, 8, 8, 8, 8, 8, 8, 8, 8] : List UInt8).toArray⟩
/-- internal/bytealg.IndexByte: the first place of a byte -/
def F_internal_bytealg_IndexByte (a1 : Sl) (a2 : Int) (h : GH) (K : Int → GH → Option β) : Option β := slCells ⟨a1.a, a1.n, a1.c⟩ 1 h fun vs => exBs vs fun xs => K (gIdx xs a2 0) h
theorem F_internal_bytealg_IndexByte_sim {r : β} {a1 : Sl} {a2 : Int} {h : GH} {K : Value → GH → Option β} (hc : F_internal_bytealg_IndexByte a1 a2 h (fun q1 h' => K (Value.int .i64 q1) h') = some r) : ∃ v h', K v h' = some r ∧ ExtSim Try.prog 76 [Value.slice a1.a a1.n a1.c, Value.int .u8 a2] h v h' := xIndexByte_sim (args := [Value.slice a1.a a1.n a1.c, Value.int .u8 a2]) Try.func76 (by kernel_rfl) (by kernel_rfl) (by kernel_rfl) (by kernel_rfl) hc
noncomputable def Z40 : List Value := match zeroT Try.prog 40 with | some v => vcells v | none => []
noncomputable def Z94 : List Value := match zeroT Try.prog 94 with | some v => vcells v | none => []
/-! F8 duffel/duffelref01.Cut -/
def CF_ref01_Cut  : Orc β := fun f args h K => none
def HF_ref01_Cut : Hints := ⟨[], [], []⟩
noncomputable def G_ref01_Cut  (R : Nat) (a1 : Sl) (a2 : Int) (h : GH) (K : Sl → GH → Option β) : Option β := gfun Try.prog (CF_ref01_Cut ) HF_ref01_Cut R Try.f8 [Value.slice a1.a a1.n a1.c, Value.int .i64 a2] h (fun v h' => exS (some v) fun u5 => K u5 h')
set_option maxRecDepth 100000 in
theorem F_ref01_Cut_gen  (R : Nat) (a1 : Sl) (a2 : Int) (h : GH) (K : Sl → GH → Option β) : G_ref01_Cut  R a1 a2 h K =
    (bif decide (((a1.n : Nat) : Int) > a2) then bnd a2 a1.c fun m3 => K ⟨addO a1.a (0 * 1), m3 - 0, a1.c - 0⟩ h else K a1 h) := by kernel_rfl
noncomputable def F_ref01_Cut (R : Nat) (a1 : Sl) (a2 : Int) (h : GH) (K : Sl → GH → Option β) : Option β := G_ref01_Cut  R a1 a2 h K
theorem CF_ref01_Cut_sim : SimOrc Try.prog (CF_ref01_Cut (β := β)) := by
  intro f args h K r hc
  cases hc
set_option maxRecDepth 100000 in
theorem F_ref01_Cut_sim {R : Nat} {r : β} {a1 : Sl} {a2 : Int} {h : GH} {K : Value → GH → Option β} (hc : F_ref01_Cut R a1 a2 h (fun q0 h' => K (Value.slice q0.a q0.n q0.c) h') = some r) : ∃ v h', K v h' = some r ∧ CallSim Try.prog 8 [Value.slice a1.a a1.n a1.c, Value.int .i64 a2] h v h' := by
  unfold F_ref01_Cut G_ref01_Cut at hc
  obtain ⟨v, h', hk, hs⟩ := gfun_sim CF_ref01_Cut_sim mixed_ok (fun f h => by cases h) Try.func8 (by kernel_rfl) hc
  obtain ⟨u0, e0, hk⟩ := exS_v hk; cases e0
  exact ⟨_, h', hk, hs⟩
/-! F9 duffel/duffelref01.Copy -/
def CF_ref01_Copy  : Orc β := fun f args h K => none
def HF_ref01_Copy : Hints := ⟨[], [], []⟩
noncomputable def G_ref01_Copy  (R : Nat) (a1 : Sl) (h : GH) (K : Sl → GH → Option β) : Option β := gfun Try.prog (CF_ref01_Copy ) HF_ref01_Copy R Try.f9 [Value.slice a1.a a1.n a1.c] h (fun v h' => exS (some v) fun u5 => K u5 h')
set_option maxRecDepth 100000 in
theorem F_ref01_Copy_gen  (R : Nat) (a1 : Sl) (h : GH) (K : Sl → GH → Option β) : G_ref01_Copy  R a1 h K =
    gappS 1 1 ⟨none, 0, 0⟩ a1 h fun s2 h3 => K s2 h3 := by kernel_rfl
noncomputable def F_ref01_Copy (R : Nat) (a1 : Sl) (h : GH) (K : Sl → GH → Option β) : Option β := G_ref01_Copy  R a1 h K
theorem CF_ref01_Copy_sim : SimOrc Try.prog (CF_ref01_Copy (β := β)) := by
  intro f args h K r hc
  cases hc
set_option maxRecDepth 100000 in
theorem F_ref01_Copy_sim {R : Nat} {r : β} {a1 : Sl} {h : GH} {K : Value → GH → Option β} (hc : F_ref01_Copy R a1 h (fun q0 h' => K (Value.slice q0.a q0.n q0.c) h') = some r) : ∃ v h', K v h' = some r ∧ CallSim Try.prog 9 [Value.slice a1.a a1.n a1.c] h v h' := by
  unfold F_ref01_Copy G_ref01_Copy at hc
  obtain ⟨v, h', hk, hs⟩ := gfun_sim CF_ref01_Copy_sim mixed_ok (fun f h => by cases h) Try.func9 (by kernel_rfl) hc
  obtain ⟨u0, e0, hk⟩ := exS_v hk; cases e0
  exact ⟨_, h', hk, hs⟩
/-! F42 duffel/dle.right -/
def CF_dle_right  : Orc β := fun f args h K => none
def HF_dle_right : Hints := ⟨[], [], []⟩
noncomputable def G_dle_right  (R : Nat) (a1 : Int) (h : GH) (K : Bool → GH → Option β) : Option β := gfun Try.prog (CF_dle_right ) HF_dle_right R Try.f42 [Value.int .i64 a1] h (fun v h' => exB (some v) fun u3 => K u3 h')
set_option maxRecDepth 100000 in
theorem F_dle_right_gen  (R : Nat) (a1 : Int) (h : GH) (K : Bool → GH → Option β) : G_dle_right  R a1 h K =
    (bif decide (a1 ≥ 1) then K (decide (a1 ≤ 4)) h else K false h) := by kernel_rfl
noncomputable def F_dle_right (R : Nat) (a1 : Int) (h : GH) (K : Bool → GH → Option β) : Option β := G_dle_right  R a1 h K
theorem CF_dle_right_sim : SimOrc Try.prog (CF_dle_right (β := β)) := by
  intro f args h K r hc
  cases hc
set_option maxRecDepth 100000 in
theorem F_dle_right_sim {R : Nat} {r : β} {a1 : Int} {h : GH} {K : Value → GH → Option β} (hc : F_dle_right R a1 h (fun q0 h' => K (Value.bool q0) h') = some r) : ∃ v h', K v h' = some r ∧ CallSim Try.prog 42 [Value.int .i64 a1] h v h' := by
  unfold F_dle_right G_dle_right at hc
  obtain ⟨v, h', hk, hs⟩ := gfun_sim CF_dle_right_sim mixed_ok (fun f h => by cases h) Try.func42 (by kernel_rfl) hc
  obtain ⟨u0, e0, hk⟩ := exB_v hk; cases e0
  exact ⟨_, h', hk, hs⟩
/-! F59 duffel/hist.New -/
def CF_hist_New  : Orc β := fun f args h K => none
def HF_hist_New : Hints := ⟨[], [], []⟩
noncomputable def G_hist_New  (R : Nat) (a1 : Int) (a2 : Int) (a3 : Bool) (h : GH) (K : Option Addr → Int → GH → Option β) : Option β := gfun Try.prog (CF_hist_New ) HF_hist_New R Try.f59 [Value.int .i64 a1, Value.int .i64 a2, Value.bool a3] h (fun v h' => exTup 2 v fun vs => exV (nth vs 0) fun v0 => exP (some v0) fun u8 => exV (nth vs 1) fun v1 => exI .i64 (some v1) fun u9 => K u8 u9 h')
set_option maxRecDepth 100000 in
theorem F_hist_New_gen  (R : Nat) (a1 : Int) (a2 : Int) (a3 : Bool) (h : GH) (K : Option Addr → Int → GH → Option β) : G_hist_New  R a1 a2 a3 h K =
    (bif decide (a1 < 1) then K none 2 h else (bif decide (a1 > 65536) then K none 2 h else (bif decide (a2 < 0) then K none 2 h else gnew [Value.int .i64 a1, Value.int .i64 a2, Value.bool a3, Value.slice none 0 0] 0 h fun g4 h5 => K (some ⟨g4, 0, none⟩) 0 h5))) := by kernel_rfl
noncomputable def F_hist_New (R : Nat) (a1 : Int) (a2 : Int) (a3 : Bool) (h : GH) (K : Option Addr → Int → GH → Option β) : Option β := G_hist_New  R a1 a2 a3 h K
theorem CF_hist_New_sim : SimOrc Try.prog (CF_hist_New (β := β)) := by
  intro f args h K r hc
  cases hc
set_option maxRecDepth 100000 in
theorem F_hist_New_sim {R : Nat} {r : β} {a1 : Int} {a2 : Int} {a3 : Bool} {h : GH} {K : Value → GH → Option β} (hc : F_hist_New R a1 a2 a3 h (fun q0 q1 h' => K (Value.tuple #[Value.pointer q0, Value.int .i64 q1]) h') = some r) : ∃ v h', K v h' = some r ∧ CallSim Try.prog 59 [Value.int .i64 a1, Value.int .i64 a2, Value.bool a3] h v h' := by
  unfold F_hist_New G_hist_New at hc
  obtain ⟨v, h', hk, hs⟩ := gfun_sim CF_hist_New_sim mixed_ok (fun f h => by cases h) Try.func59 (by kernel_rfl) hc
  obtain ⟨vs, rfl, hl, hk⟩ := exTup_v hk
  obtain ⟨v0, t0, hk⟩ := exV_v hk
  obtain ⟨u0, e0, hk⟩ := exP_v hk; cases e0
  obtain ⟨v1, t1, hk⟩ := exV_v hk
  obtain ⟨u1, e1, hk⟩ := exI_v hk; cases e1
  obtain rfl := arr2 hl t0 t1
  exact ⟨_, h', hk, hs⟩
/-! F28 duffel/dle.New -/
def CF_dle_New (F_dle_right : Int → GH → (Bool → GH → Option β) → Option β) (F_hist_New : Int → Int → Bool → GH → (Option Addr → Int → GH → Option β) → Option β) : Orc β := fun f args h K => bif Nat.beq f 42 then (match args with | [.int .i64 p1] => F_dle_right p1 h (fun q2 h' => K (Value.bool q2) h') | _ => none) else (bif Nat.beq f 59 then (match args with | [.int .i64 p1, .int .i64 p2, .bool p3] => F_hist_New p1 p2 p3 h (fun q6 q7 h' => K (Value.tuple #[Value.pointer q6, Value.int .i64 q7]) h') | _ => none) else none)
def HF_dle_New : Hints := ⟨[], [], []⟩
noncomputable def G_dle_New (F_dle_right : Int → GH → (Bool → GH → Option β) → Option β) (F_hist_New : Int → Int → Bool → GH → (Option Addr → Int → GH → Option β) → Option β) (R : Nat) (a1 : Int) (a2 : Int) (h : GH) (K : Option Addr → Int → GH → Option β) : Option β := gfun Try.prog (CF_dle_New F_dle_right F_hist_New) HF_dle_New R Try.f28 [Value.int .i64 a1, Value.int .i64 a2] h (fun v h' => exTup 2 v fun vs => exV (nth vs 0) fun v0 => exP (some v0) fun u12 => exV (nth vs 1) fun v1 => exI .i64 (some v1) fun u13 => K u12 u13 h')
set_option maxRecDepth 100000 in
theorem F_dle_New_gen (F_dle_right : Int → GH → (Bool → GH → Option β) → Option β) (F_hist_New : Int → Int → Bool → GH → (Option Addr → Int → GH → Option β) → Option β) (R : Nat) (a1 : Int) (a2 : Int) (h : GH) (K : Option Addr → Int → GH → Option β) : G_dle_New F_dle_right F_hist_New R a1 a2 h K =
    F_dle_right a1 h fun r3 h4 => (bif !r3 then K none 2 h4 else F_hist_New 65536 a2 true h4 fun r5 r6 h7 => (bif r6 != 0 then K none r6 h7 else gnew [Value.int .i64 a1, Value.pointer r5, Value.int .i64 0, Value.int .i64 0, Value.int .i64 0] 0 h7 fun g8 h9 => K (some ⟨g8, 0, none⟩) 0 h9)) := by kernel_rfl
noncomputable def F_dle_New (R : Nat) (a1 : Int) (a2 : Int) (h : GH) (K : Option Addr → Int → GH → Option β) : Option β := G_dle_New (F_dle_right R) (F_hist_New R) R a1 a2 h K
set_option maxRecDepth 100000 in
theorem CF_dle_New_sim {R : Nat} : SimOrc Try.prog (CF_dle_New (F_dle_right R) (F_hist_New R) (β := β)) := by
  intro f args h K r hc
  unfold CF_dle_New at hc
  cases hb : Nat.beq f 42 with
  | true =>
    rw [hb] at hc
    simp only [cond_true] at hc
    obtain rfl := Nat.eq_of_beq_eq_true hb
    split at hc
    · exact any_call (F_dle_right_sim (K := K) hc)
    · cases hc
  | false =>
  rw [hb] at hc
  simp only [cond_false] at hc
  cases hb : Nat.beq f 59 with
  | true =>
    rw [hb] at hc
    simp only [cond_true] at hc
    obtain rfl := Nat.eq_of_beq_eq_true hb
    split at hc
    · exact any_call (F_hist_New_sim (K := K) hc)
    · cases hc
  | false =>
  rw [hb] at hc
  simp only [cond_false] at hc
  cases hc
set_option maxRecDepth 100000 in
theorem F_dle_New_sim {R : Nat} {r : β} {a1 : Int} {a2 : Int} {h : GH} {K : Value → GH → Option β} (hc : F_dle_New R a1 a2 h (fun q0 q1 h' => K (Value.tuple #[Value.pointer q0, Value.int .i64 q1]) h') = some r) : ∃ v h', K v h' = some r ∧ CallSim Try.prog 28 [Value.int .i64 a1, Value.int .i64 a2] h v h' := by
  unfold F_dle_New G_dle_New at hc
  obtain ⟨v, h', hk, hs⟩ := gfun_sim (CF_dle_New_sim (R := R)) mixed_ok (fun f h => by cases h) Try.func28 (by kernel_rfl) hc
  obtain ⟨vs, rfl, hl, hk⟩ := exTup_v hk
  obtain ⟨v0, t0, hk⟩ := exV_v hk
  obtain ⟨u0, e0, hk⟩ := exP_v hk; cases e0
  obtain ⟨v1, t1, hk⟩ := exV_v hk
  obtain ⟨u1, e1, hk⟩ := exI_v hk; cases e1
  obtain rfl := arr2 hl t0 t1
  exact ⟨_, h', hk, hs⟩
/-! F51 bytes.Clone -/
def CF_bytes_Clone  : Orc β := fun f args h K => none
def HF_bytes_Clone : Hints := ⟨[], [], []⟩
noncomputable def G_bytes_Clone  (R : Nat) (a1 : Sl) (h : GH) (K : Sl → GH → Option β) : Option β := gfun Try.prog (CF_bytes_Clone ) HF_bytes_Clone R Try.f51 [Value.slice a1.a a1.n a1.c] h (fun v h' => exS (some v) fun u7 => K u7 h')
set_option maxRecDepth 100000 in
theorem F_bytes_Clone_gen  (R : Nat) (a1 : Sl) (h : GH) (K : Sl → GH → Option β) : G_bytes_Clone  R a1 h K =
    (bif Option.isNone a1.a then K ⟨none, 0, 0⟩ h else gnew [] 1 h fun g2 h3 => gappS 1 1 ⟨(some ⟨g2, 0, none⟩), 0, 0⟩ a1 h3 fun s4 h5 => K s4 h5) := by kernel_rfl
noncomputable def F_bytes_Clone (R : Nat) (a1 : Sl) (h : GH) (K : Sl → GH → Option β) : Option β := G_bytes_Clone  R a1 h K
theorem CF_bytes_Clone_sim : SimOrc Try.prog (CF_bytes_Clone (β := β)) := by
  intro f args h K r hc
  cases hc
set_option maxRecDepth 100000 in
theorem F_bytes_Clone_sim {R : Nat} {r : β} {a1 : Sl} {h : GH} {K : Value → GH → Option β} (hc : F_bytes_Clone R a1 h (fun q0 h' => K (Value.slice q0.a q0.n q0.c) h') = some r) : ∃ v h', K v h' = some r ∧ CallSim Try.prog 51 [Value.slice a1.a a1.n a1.c] h v h' := by
  unfold F_bytes_Clone G_bytes_Clone at hc
  obtain ⟨v, h', hk, hs⟩ := gfun_sim CF_bytes_Clone_sim mixed_ok (fun f h => by cases h) Try.func51 (by kernel_rfl) hc
  obtain ⟨u0, e0, hk⟩ := exS_v hk; cases e0
  exact ⟨_, h', hk, hs⟩
/-! F29 duffel/bitio.Open -/
def CF_bitio_Open (F_bytes_Clone : Sl → GH → (Sl → GH → Option β) → Option β) : Orc β := fun f args h K => bif Nat.beq f 51 then (match args with | [.slice p1a p1n p1c] => F_bytes_Clone ⟨p1a, p1n, p1c⟩ h (fun q6 h' => K (Value.slice q6.a q6.n q6.c) h') | _ => none) else none
def HF_bitio_Open : Hints := ⟨[], [], []⟩
noncomputable def G_bitio_Open (F_bytes_Clone : Sl → GH → (Sl → GH → Option β) → Option β) (R : Nat) (a1 : Sl) (h : GH) (K : Option Addr → GH → Option β) : Option β := gfun Try.prog (CF_bitio_Open F_bytes_Clone) HF_bitio_Open R Try.f29 [Value.slice a1.a a1.n a1.c] h (fun v h' => exP (some v) fun u7 => K u7 h')
set_option maxRecDepth 100000 in
theorem F_bitio_Open_gen (F_bytes_Clone : Sl → GH → (Sl → GH → Option β) → Option β) (R : Nat) (a1 : Sl) (h : GH) (K : Option Addr → GH → Option β) : G_bitio_Open F_bytes_Clone R a1 h K =
    F_bytes_Clone a1 h fun r2 h3 => gnew [Value.slice r2.a r2.n r2.c, Value.int .i64 0, Value.int .u64 0, Value.int .i64 0, Value.int .i64 0, Value.bool true] 0 h3 fun g4 h5 => K (some ⟨g4, 0, none⟩) h5 := by kernel_rfl
noncomputable def F_bitio_Open (R : Nat) (a1 : Sl) (h : GH) (K : Option Addr → GH → Option β) : Option β := G_bitio_Open (F_bytes_Clone R) R a1 h K
set_option maxRecDepth 100000 in
theorem CF_bitio_Open_sim {R : Nat} : SimOrc Try.prog (CF_bitio_Open (F_bytes_Clone R) (β := β)) := by
  intro f args h K r hc
  unfold CF_bitio_Open at hc
  cases hb : Nat.beq f 51 with
  | true =>
    rw [hb] at hc
    simp only [cond_true] at hc
    obtain rfl := Nat.eq_of_beq_eq_true hb
    split at hc
    · exact any_call (F_bytes_Clone_sim (K := K) hc)
    · cases hc
  | false =>
  rw [hb] at hc
  simp only [cond_false] at hc
  cases hc
set_option maxRecDepth 100000 in
theorem F_bitio_Open_sim {R : Nat} {r : β} {a1 : Sl} {h : GH} {K : Value → GH → Option β} (hc : F_bitio_Open R a1 h (fun q0 h' => K (Value.pointer q0) h') = some r) : ∃ v h', K v h' = some r ∧ CallSim Try.prog 29 [Value.slice a1.a a1.n a1.c] h v h' := by
  unfold F_bitio_Open G_bitio_Open at hc
  obtain ⟨v, h', hk, hs⟩ := gfun_sim (CF_bitio_Open_sim (R := R)) mixed_ok (fun f h => by cases h) Try.func29 (by kernel_rfl) hc
  obtain ⟨u0, e0, hk⟩ := exP_v hk; cases e0
  exact ⟨_, h', hk, hs⟩
/-! F61 (*duffel/bitio.Reader).Err -/
def CF_bitio_Reader_Err  : Orc β := fun f args h K => none
def HF_bitio_Reader_Err : Hints := ⟨[], [], []⟩
noncomputable def G_bitio_Reader_Err  (R : Nat) (a1 : Option Addr) (h : GH) (K : Int → GH → Option β) : Option β := gfun Try.prog (CF_bitio_Reader_Err ) HF_bitio_Reader_Err R Try.f61 [Value.pointer a1] h (fun v h' => exI .i64 (some v) fun u9 => K u9 h')
set_option maxRecDepth 100000 in
theorem F_bitio_Reader_Err_gen  (R : Nat) (a1 : Option Addr) (h : GH) (K : Int → GH → Option β) : G_bitio_Reader_Err  R a1 h K =
    (bif a1.isNone then K 1 h else exA a1 fun g2 o3 => exB (h.cell ⟨g2, o3 + 5, none⟩) fun x4 => (bif !x4 then K 1 h else exA a1 fun g5 o6 => exI .i64 (h.cell ⟨g5, o6 + 4, none⟩) fun x7 => K x7 h)) := by kernel_rfl
noncomputable def F_bitio_Reader_Err (R : Nat) (a1 : Option Addr) (h : GH) (K : Int → GH → Option β) : Option β := G_bitio_Reader_Err  R a1 h K
theorem CF_bitio_Reader_Err_sim : SimOrc Try.prog (CF_bitio_Reader_Err (β := β)) := by
  intro f args h K r hc
  cases hc
set_option maxRecDepth 100000 in
theorem F_bitio_Reader_Err_sim {R : Nat} {r : β} {a1 : Option Addr} {h : GH} {K : Value → GH → Option β} (hc : F_bitio_Reader_Err R a1 h (fun q0 h' => K (Value.int .i64 q0) h') = some r) : ∃ v h', K v h' = some r ∧ CallSim Try.prog 61 [Value.pointer a1] h v h' := by
  unfold F_bitio_Reader_Err G_bitio_Reader_Err at hc
  obtain ⟨v, h', hk, hs⟩ := gfun_sim CF_bitio_Reader_Err_sim mixed_ok (fun f h => by cases h) Try.func61 (by kernel_rfl) hc
  obtain ⟨u0, e0, hk⟩ := exI_v hk; cases e0
  exact ⟨_, h', hk, hs⟩
/-! F82 duffel/bitio.right -/
def CF_bitio_right  : Orc β := fun f args h K => none
def HF_bitio_right : Hints := ⟨[], [], []⟩
noncomputable def G_bitio_right  (R : Nat) (a1 : Int) (h : GH) (K : Bool → GH → Option β) : Option β := gfun Try.prog (CF_bitio_right ) HF_bitio_right R Try.f82 [Value.int .i64 a1] h (fun v h' => exB (some v) fun u3 => K u3 h')
set_option maxRecDepth 100000 in
theorem F_bitio_right_gen  (R : Nat) (a1 : Int) (h : GH) (K : Bool → GH → Option β) : G_bitio_right  R a1 h K =
    (bif decide (a1 ≥ 0) then K (decide (a1 ≤ 32)) h else K false h) := by kernel_rfl
noncomputable def F_bitio_right (R : Nat) (a1 : Int) (h : GH) (K : Bool → GH → Option β) : Option β := G_bitio_right  R a1 h K
theorem CF_bitio_right_sim : SimOrc Try.prog (CF_bitio_right (β := β)) := by
  intro f args h K r hc
  cases hc
set_option maxRecDepth 100000 in
theorem F_bitio_right_sim {R : Nat} {r : β} {a1 : Int} {h : GH} {K : Value → GH → Option β} (hc : F_bitio_right R a1 h (fun q0 h' => K (Value.bool q0) h') = some r) : ∃ v h', K v h' = some r ∧ CallSim Try.prog 82 [Value.int .i64 a1] h v h' := by
  unfold F_bitio_right G_bitio_right at hc
  obtain ⟨v, h', hk, hs⟩ := gfun_sim CF_bitio_right_sim mixed_ok (fun f h => by cases h) Try.func82 (by kernel_rfl) hc
  obtain ⟨u0, e0, hk⟩ := exB_v hk; cases e0
  exact ⟨_, h', hk, hs⟩
/-! F83 (*duffel/bitio.Reader).fill -/
def CF_bitio_Reader_fill  : Orc β := fun f args h K => none
def HF_bitio_Reader_fill : Hints := ⟨[(0, [0, 1], [(0, [])], none)], [], []⟩
noncomputable def BF_bitio_Reader_fill : Code := match Try.f83.body with | some c => c | none => .skip
noncomputable def F_bitio_Reader_fill_l0  (R : Nat) (n : Nat) (y3 : Option Addr) (y4 : Int) (h : GH) (K0 : GH → Option β) : Option β := gloop (gcode Try.prog (CF_bitio_Reader_fill ) Try.f83.ntmps HF_bitio_Reader_fill R (at_ [false, false] BF_bitio_Reader_fill)) [0, 1] n [(0, Value.pointer y3), (1, Value.int .i64 y4)] h (fun i e' h' => bif Nat.beq i 0 then (K0 h') else none) (fun e' h' => none)
set_option maxRecDepth 100000 in
theorem F_bitio_Reader_fill_l0_succ  (R : Nat) (n : Nat) (y3 : Option Addr) (y4 : Int) (h : GH) (K0 : GH → Option β) : F_bitio_Reader_fill_l0  R (n + 1) y3 y4 h K0 =
    exA y3 fun g5 o6 => exI .i64 (h.cell ⟨g5, o6 + 3, none⟩) fun x7 => (bif decide (x7 < y4) then exA y3 fun g8 o9 => exI .i64 (h.cell ⟨g8, o9 + 1, none⟩) fun x10 => exA y3 fun g11 o12 => exS (h.cell ⟨g11, o12 + 0, none⟩) fun x13 => (bif decide (x10 < ((x13.n : Nat) : Int)) then exA y3 fun g14 o15 => exI .u64 (h.cell ⟨g14, o15 + 2, none⟩) fun x16 => exA y3 fun g17 o18 => exS (h.cell ⟨g17, o18 + 0, none⟩) fun x19 => exA y3 fun g20 o21 => exI .i64 (h.cell ⟨g20, o21 + 1, none⟩) fun x22 => exA x19.a fun g23 o24 => within x22 x19.n (exI .u8 (h.cell ⟨g23, o24 + x22.toNat * 1, none⟩) fun x25 => exA y3 fun g26 o27 => exI .i64 (h.cell ⟨g26, o27 + 3, none⟩) fun x28 => (bif decide (x28 < 0) then none else exA y3 fun g29 o30 => gput g29 (o30 + 2) [Value.int .u64 (IntKind.wrap .u64 (BitVec.ofInt (IntKind.bits .u64) x16 ||| BitVec.ofInt (IntKind.bits .u64) (shlI .u64 (IntKind.wrap .u64 x25) x28)).toNat)] h fun h31 => exA y3 fun g32 o33 => exI .i64 (h31.cell ⟨g32, o33 + 1, none⟩) fun x34 => exA y3 fun g35 o36 => gput g35 (o36 + 1) [Value.int .i64 (IntKind.wrap .i64 (x34 + 1))] h31 fun h37 => exA y3 fun g38 o39 => exI .i64 (h37.cell ⟨g38, o39 + 3, none⟩) fun x40 => exA y3 fun g41 o42 => gput g41 (o42 + 3) [Value.int .i64 (IntKind.wrap .i64 (x40 + 8))] h37 fun h43 => F_bitio_Reader_fill_l0 R n y3 y4 h43 K0)) else K0 h) else K0 h) := by kernel_rfl
noncomputable def G_bitio_Reader_fill  (R : Nat) (a1 : Option Addr) (a2 : Int) (h : GH) (K : GH → Option β) : Option β := gfun Try.prog (CF_bitio_Reader_fill ) HF_bitio_Reader_fill R Try.f83 [Value.pointer a1, Value.int .i64 a2] h (fun _ h' => K h')
set_option maxRecDepth 100000 in
theorem F_bitio_Reader_fill_gen  (R : Nat) (a1 : Option Addr) (a2 : Int) (h : GH) (K : GH → Option β) : G_bitio_Reader_fill  R a1 a2 h K =
    F_bitio_Reader_fill_l0 R R a1 a2 h (fun h44 => K h44) := by kernel_rfl
noncomputable def F_bitio_Reader_fill (R : Nat) (a1 : Option Addr) (a2 : Int) (h : GH) (K : GH → Option β) : Option β := G_bitio_Reader_fill  R a1 a2 h K
theorem CF_bitio_Reader_fill_sim : SimOrc Try.prog (CF_bitio_Reader_fill (β := β)) := by
  intro f args h K r hc
  cases hc
set_option maxRecDepth 100000 in
theorem F_bitio_Reader_fill_sim {R : Nat} {r : β} {a1 : Option Addr} {a2 : Int} {h : GH} {K : Value → GH → Option β} (hc : F_bitio_Reader_fill R a1 a2 h (fun h' => K (Value.tuple #[]) h') = some r) : ∃ v h', K v h' = some r ∧ CallSim Try.prog 83 [Value.pointer a1, Value.int .i64 a2] h v h' := by
  unfold F_bitio_Reader_fill G_bitio_Reader_fill at hc
  obtain ⟨v, h', hk, hs⟩ := gfun_sim CF_bitio_Reader_fill_sim mixed_ok (fun f h => by cases h) Try.func83 (by kernel_rfl) hc
  exact ⟨_, h', hk, hs.unit⟩
/-! F84 (*duffel/bitio.Reader).drop -/
def CF_bitio_Reader_drop  : Orc β := fun f args h K => none
def HF_bitio_Reader_drop : Hints := ⟨[], [], []⟩
noncomputable def G_bitio_Reader_drop  (R : Nat) (a1 : Option Addr) (a2 : Int) (h : GH) (K : GH → Option β) : Option β := gfun Try.prog (CF_bitio_Reader_drop ) HF_bitio_Reader_drop R Try.f84 [Value.pointer a1, Value.int .i64 a2] h (fun _ h' => K h')
set_option maxRecDepth 100000 in
theorem F_bitio_Reader_drop_gen  (R : Nat) (a1 : Option Addr) (a2 : Int) (h : GH) (K : GH → Option β) : G_bitio_Reader_drop  R a1 a2 h K =
    exA a1 fun g3 o4 => exI .u64 (h.cell ⟨g3, o4 + 2, none⟩) fun x5 => (bif decide (a2 < 0) then none else exA a1 fun g6 o7 => gput g6 (o7 + 2) [Value.int .u64 (shrI .u64 x5 a2)] h fun h8 => exA a1 fun g9 o10 => exI .i64 (h8.cell ⟨g9, o10 + 3, none⟩) fun x11 => exA a1 fun g12 o13 => gput g12 (o13 + 3) [Value.int .i64 (IntKind.wrap .i64 (x11 - a2))] h8 fun h14 => K h14) := by kernel_rfl
noncomputable def F_bitio_Reader_drop (R : Nat) (a1 : Option Addr) (a2 : Int) (h : GH) (K : GH → Option β) : Option β := G_bitio_Reader_drop  R a1 a2 h K
theorem CF_bitio_Reader_drop_sim : SimOrc Try.prog (CF_bitio_Reader_drop (β := β)) := by
  intro f args h K r hc
  cases hc
set_option maxRecDepth 100000 in
theorem F_bitio_Reader_drop_sim {R : Nat} {r : β} {a1 : Option Addr} {a2 : Int} {h : GH} {K : Value → GH → Option β} (hc : F_bitio_Reader_drop R a1 a2 h (fun h' => K (Value.tuple #[]) h') = some r) : ∃ v h', K v h' = some r ∧ CallSim Try.prog 84 [Value.pointer a1, Value.int .i64 a2] h v h' := by
  unfold F_bitio_Reader_drop G_bitio_Reader_drop at hc
  obtain ⟨v, h', hk, hs⟩ := gfun_sim CF_bitio_Reader_drop_sim mixed_ok (fun f h => by cases h) Try.func84 (by kernel_rfl) hc
  exact ⟨_, h', hk, hs.unit⟩
/-! F60 (*duffel/bitio.Reader).Bits -/
def CF_bitio_Reader_Bits (F_bitio_Reader_Err : Option Addr → GH → (Int → GH → Option β) → Option β) (F_bitio_right : Int → GH → (Bool → GH → Option β) → Option β) (F_bitio_Reader_fill : Option Addr → Int → GH → (GH → Option β) → Option β) (F_bitio_Reader_drop : Option Addr → Int → GH → (GH → Option β) → Option β) : Orc β := fun f args h K => bif Nat.beq f 61 then (match args with | [.pointer p1] => F_bitio_Reader_Err p1 h (fun q8 h' => K (Value.int .i64 q8) h') | _ => none) else (bif Nat.beq f 82 then (match args with | [.int .i64 p1] => F_bitio_right p1 h (fun q2 h' => K (Value.bool q2) h') | _ => none) else (bif Nat.beq f 83 then (match args with | [.pointer p1, .int .i64 p2] => F_bitio_Reader_fill p1 p2 h (fun h' => K (Value.tuple #[]) h') | _ => none) else (bif Nat.beq f 84 then (match args with | [.pointer p1, .int .i64 p2] => F_bitio_Reader_drop p1 p2 h (fun h' => K (Value.tuple #[]) h') | _ => none) else none)))
def HF_bitio_Reader_Bits : Hints := ⟨[], [], []⟩
noncomputable def G_bitio_Reader_Bits (F_bitio_Reader_Err : Option Addr → GH → (Int → GH → Option β) → Option β) (F_bitio_right : Int → GH → (Bool → GH → Option β) → Option β) (F_bitio_Reader_fill : Option Addr → Int → GH → (GH → Option β) → Option β) (F_bitio_Reader_drop : Option Addr → Int → GH → (GH → Option β) → Option β) (R : Nat) (a1 : Option Addr) (a2 : Int) (h : GH) (K : Int → GH → Option β) : Option β := gfun Try.prog (CF_bitio_Reader_Bits F_bitio_Reader_Err F_bitio_right F_bitio_Reader_fill F_bitio_Reader_drop) HF_bitio_Reader_Bits R Try.f60 [Value.pointer a1, Value.int .i64 a2] h (fun v h' => exI .u32 (some v) fun u22 => K u22 h')
set_option maxRecDepth 100000 in
theorem F_bitio_Reader_Bits_gen (F_bitio_Reader_Err : Option Addr → GH → (Int → GH → Option β) → Option β) (F_bitio_right : Int → GH → (Bool → GH → Option β) → Option β) (F_bitio_Reader_fill : Option Addr → Int → GH → (GH → Option β) → Option β) (F_bitio_Reader_drop : Option Addr → Int → GH → (GH → Option β) → Option β) (R : Nat) (a1 : Option Addr) (a2 : Int) (h : GH) (K : Int → GH → Option β) : G_bitio_Reader_Bits F_bitio_Reader_Err F_bitio_right F_bitio_Reader_fill F_bitio_Reader_drop R a1 a2 h K =
    F_bitio_Reader_Err a1 h fun r3 h4 => (bif r3 != 0 then K 0 h4 else F_bitio_right a2 h4 fun r5 h6 => (bif !r5 then exA a1 fun g7 o8 => gput g7 (o8 + 4) [Value.int .i64 2] h6 fun h9 => K 0 h9 else F_bitio_Reader_fill a1 a2 h6 fun h10 => exA a1 fun g11 o12 => exI .i64 (h10.cell ⟨g11, o12 + 3, none⟩) fun x13 => (bif decide (x13 < a2) then exA a1 fun g14 o15 => gput g14 (o15 + 4) [Value.int .i64 3] h10 fun h16 => K 0 h16 else exA a1 fun g17 o18 => exI .u64 (h10.cell ⟨g17, o18 + 2, none⟩) fun x19 => (bif decide (a2 < 0) then none else F_bitio_Reader_drop a1 a2 h10 fun h20 => K (IntKind.wrap .u32 (IntKind.wrap .u64 (BitVec.ofInt (IntKind.bits .u64) x19 &&& BitVec.ofInt (IntKind.bits .u64) (IntKind.wrap .u64 ((shlI .u64 1 a2) - 1))).toNat)) h20)))) := by kernel_rfl
noncomputable def F_bitio_Reader_Bits (R : Nat) (a1 : Option Addr) (a2 : Int) (h : GH) (K : Int → GH → Option β) : Option β := G_bitio_Reader_Bits (F_bitio_Reader_Err R) (F_bitio_right R) (F_bitio_Reader_fill R) (F_bitio_Reader_drop R) R a1 a2 h K
set_option maxRecDepth 100000 in
theorem CF_bitio_Reader_Bits_sim {R : Nat} : SimOrc Try.prog (CF_bitio_Reader_Bits (F_bitio_Reader_Err R) (F_bitio_right R) (F_bitio_Reader_fill R) (F_bitio_Reader_drop R) (β := β)) := by
  intro f args h K r hc
  unfold CF_bitio_Reader_Bits at hc
  cases hb : Nat.beq f 61 with
  | true =>
    rw [hb] at hc
    simp only [cond_true] at hc
    obtain rfl := Nat.eq_of_beq_eq_true hb
    split at hc
    · exact any_call (F_bitio_Reader_Err_sim (K := K) hc)
    · cases hc
  | false =>
  rw [hb] at hc
  simp only [cond_false] at hc
  cases hb : Nat.beq f 82 with
  | true =>
    rw [hb] at hc
    simp only [cond_true] at hc
    obtain rfl := Nat.eq_of_beq_eq_true hb
    split at hc
    · exact any_call (F_bitio_right_sim (K := K) hc)
    · cases hc
  | false =>
  rw [hb] at hc
  simp only [cond_false] at hc
  cases hb : Nat.beq f 83 with
  | true =>
    rw [hb] at hc
    simp only [cond_true] at hc
    obtain rfl := Nat.eq_of_beq_eq_true hb
    split at hc
    · exact any_call (F_bitio_Reader_fill_sim (K := K) hc)
    · cases hc
  | false =>
  rw [hb] at hc
  simp only [cond_false] at hc
  cases hb : Nat.beq f 84 with
  | true =>
    rw [hb] at hc
    simp only [cond_true] at hc
    obtain rfl := Nat.eq_of_beq_eq_true hb
    split at hc
    · exact any_call (F_bitio_Reader_drop_sim (K := K) hc)
    · cases hc
  | false =>
  rw [hb] at hc
  simp only [cond_false] at hc
  cases hc
set_option maxRecDepth 100000 in
theorem F_bitio_Reader_Bits_sim {R : Nat} {r : β} {a1 : Option Addr} {a2 : Int} {h : GH} {K : Value → GH → Option β} (hc : F_bitio_Reader_Bits R a1 a2 h (fun q0 h' => K (Value.int .u32 q0) h') = some r) : ∃ v h', K v h' = some r ∧ CallSim Try.prog 60 [Value.pointer a1, Value.int .i64 a2] h v h' := by
  unfold F_bitio_Reader_Bits G_bitio_Reader_Bits at hc
  obtain ⟨v, h', hk, hs⟩ := gfun_sim (CF_bitio_Reader_Bits_sim (R := R)) mixed_ok (fun f h => by cases h) Try.func60 (by kernel_rfl) hc
  obtain ⟨u0, e0, hk⟩ := exI_v hk; cases e0
  exact ⟨_, h', hk, hs⟩
/-! F30 duffel/follow.GetSets -/
def CF_follow_GetSets (F_bitio_Reader_Bits : Option Addr → Int → GH → (Int → GH → Option β) → Option β) (F_bitio_Reader_Err : Option Addr → GH → (Int → GH → Option β) → Option β) : Orc β := fun f args h K => bif Nat.beq f 60 then (match args with | [.pointer p1, .int .i64 p2] => F_bitio_Reader_Bits p1 p2 h (fun q21 h' => K (Value.int .u32 q21) h') | _ => none) else (bif Nat.beq f 61 then (match args with | [.pointer p1] => F_bitio_Reader_Err p1 h (fun q8 h' => K (Value.int .i64 q8) h') | _ => none) else none)
def HF_follow_GetSets : Hints := ⟨[(3, [0, 2, 4, 5], [(0, [(2, .ty 15), (4, .ty 15)])], some [(2, .ty 15), (3, .ty 25)]), (9, [0, 2, 4, 5, 18, 19], [(2, [(0, .ty 57), (2, .ty 15), (4, .ty 15), (5, .ty 3)])], none)], [], []⟩
noncomputable def BF_follow_GetSets : Code := match Try.f30.body with | some c => c | none => .skip
noncomputable def F_follow_GetSets_l0 (F_bitio_Reader_Bits : Option Addr → Int → GH → (Int → GH → Option β) → Option β) (F_bitio_Reader_Err : Option Addr → GH → (Int → GH → Option β) → Option β) (R : Nat) (n : Nat) (y6 : Option Addr) (y7 : Option Addr) (y8 : Option Addr) (y9 : Int) (h : GH) (K0 : Option Addr → Option Addr → GH → Option β) (Kr : Option Addr → Int → GH → Option β) : Option β := gloop (gcode Try.prog (CF_follow_GetSets F_bitio_Reader_Bits F_bitio_Reader_Err) Try.f30.ntmps HF_follow_GetSets R (at_ [true, true, false, true, false, false] BF_follow_GetSets)) [0, 2, 4, 5] n [(0, Value.pointer y6), (2, Value.pointer y7), (4, Value.pointer y8), (5, Value.int .i64 y9)] h (fun i e' h' => bif Nat.beq i 0 then (exP (some (e'.get 2)) fun u71 => exP (some (e'.get 4)) fun u72 => K0 u71 u72 h') else none) (fun e' h' => exP (some (e'.get 2)) fun u73 => exI .i64 (some (e'.get 3)) fun u74 => Kr u73 u74 h')
noncomputable def F_follow_GetSets_l1 (F_bitio_Reader_Bits : Option Addr → Int → GH → (Int → GH → Option β) → Option β) (F_bitio_Reader_Err : Option Addr → GH → (Int → GH → Option β) → Option β) (R : Nat) (n : Nat) (y19 : Option Addr) (y20 : Option Addr) (y21 : Option Addr) (y22 : Int) (y23 : Int) (y24 : Int) (h : GH) (K2 : Option Addr → Option Addr → Option Addr → Int → GH → Option β) : Option β := gloop (gcode Try.prog (CF_follow_GetSets F_bitio_Reader_Bits F_bitio_Reader_Err) Try.f30.ntmps HF_follow_GetSets R (at_ [true, true, false, true, false, false, true, false, false, true, true, false, true, false, false] BF_follow_GetSets)) [0, 2, 4, 5, 18, 19] n [(0, Value.pointer y19), (2, Value.pointer y20), (4, Value.pointer y21), (5, Value.int .i64 y22), (18, Value.int .i64 y23), (19, Value.int .i64 y24)] h (fun i e' h' => bif Nat.beq i 2 then (exP (some (e'.get 0)) fun u75 => exP (some (e'.get 2)) fun u76 => exP (some (e'.get 4)) fun u77 => exI .i64 (some (e'.get 5)) fun u78 => K2 u75 u76 u77 u78 h') else none) (fun e' h' => none)
set_option maxRecDepth 100000 in
theorem F_follow_GetSets_l1_succ (F_bitio_Reader_Bits : Option Addr → Int → GH → (Int → GH → Option β) → Option β) (F_bitio_Reader_Err : Option Addr → GH → (Int → GH → Option β) → Option β) (R : Nat) (n : Nat) (y19 : Option Addr) (y20 : Option Addr) (y21 : Option Addr) (y22 : Int) (y23 : Int) (y24 : Int) (h : GH) (K2 : Option Addr → Option Addr → Option Addr → Int → GH → Option β) : F_follow_GetSets_l1 F_bitio_Reader_Bits F_bitio_Reader_Err R (n + 1) y19 y20 y21 y22 y23 y24 h K2 =
    (bif decide (y24 < y23) then exA y21 fun g29 o30 => within y22 256 (exS (h.cell ⟨g29, o30 + y22.toNat * 1, none⟩) fun x31 => F_bitio_Reader_Bits y19 8 h fun r32 h33 => gnew [Value.int .u8 (IntKind.wrap .u8 r32)] 1 h33 fun g34 h35 => gappS 1 1 x31 ⟨(some ⟨g34, 0, none⟩), 1, 1⟩ h35 fun s36 h37 => exA y21 fun g38 o39 => within y22 256 (gput g38 (o39 + y22.toNat * 1) [Value.slice s36.a s36.n s36.c] h37 fun h40 => (bif sameAt g29 (o30 + y22.toNat * 1) 1 h h33 then F_follow_GetSets_l1 F_bitio_Reader_Bits F_bitio_Reader_Err R n y19 y20 y21 y22 y23 (IntKind.wrap .i64 (y24 + 1)) h40 K2 else none))) else K2 y19 y20 y21 y22 h) := by kernel_rfl
set_option maxRecDepth 100000 in
theorem F_follow_GetSets_l0_succ (F_bitio_Reader_Bits : Option Addr → Int → GH → (Int → GH → Option β) → Option β) (F_bitio_Reader_Err : Option Addr → GH → (Int → GH → Option β) → Option β) (R : Nat) (n : Nat) (y6 : Option Addr) (y7 : Option Addr) (y8 : Option Addr) (y9 : Int) (h : GH) (K0 : Option Addr → Option Addr → GH → Option β) (Kr : Option Addr → Int → GH → Option β) : F_follow_GetSets_l0 F_bitio_Reader_Bits F_bitio_Reader_Err R (n + 1) y6 y7 y8 y9 h K0 Kr =
    (bif decide (y9 ≥ 0) then F_bitio_Reader_Bits y6 6 h fun r14 h15 => (bif decide ((IntKind.wrap .i64 r14) > 32) then exA y7 fun g16 o17 => gput g16 (o17) [Value.slice none 0 0, Value.slice none 0 0, Value.slice none 0 0, Value.slice none 0 0, Value.slice none 0 0, Value.slice none 0 0, Value.slice none 0 0, Value.slice none 0 0, Value.slice none 0 0, Value.slice none 0 0, Value.slice none 0 0, Value.slice none 0 0, Value.slice none 0 0, Value.slice none 0 0, Value.slice none 0 0, Value.slice none 0 0, Value.slice none 0 0, Value.slice none 0 0, Value.slice none 0 0, Value.slice none 0 0, Value.slice none 0 0, Value.slice none 0 0, Value.slice none 0 0, Value.slice none 0 0, Value.slice none 0 0, Value.slice none 0 0, Value.slice none 0 0, Value.slice none 0 0, Value.slice none 0 0, Value.slice none 0 0, Value.slice none 0 0, Value.slice none 0 0, Value.slice none 0 0, Value.slice none 0 0, Value.slice none 0 0, Value.slice none 0 0, Value.slice none 0 0, Value.slice none 0 0, Value.slice none 0 0, Value.slice none 0 0, Value.slice none 0 0, Value.slice none 0 0, Value.slice none 0 0, Value.slice none 0 0, Value.slice none 0 0, Value.slice none 0 0, Value.slice none 0 0, Value.slice none 0 0, Value.slice none 0 0, Value.slice none 0 0, Value.slice none 0 0, Value.slice none 0 0, Value.slice none 0 0, Value.slice none 0 0, Value.slice none 0 0, Value.slice none 0 0, Value.slice none 0 0, Value.slice none 0 0, Value.slice none 0 0, Value.slice none 0 0, Value.slice none 0 0, Value.slice none 0 0, Value.slice none 0 0, Value.slice none 0 0, Value.slice none 0 0, Value.slice none 0 0, Value.slice none 0 0, Value.slice none 0 0, Value.slice none 0 0, Value.slice none 0 0, Value.slice none 0 0, Value.slice none 0 0, Value.slice none 0 0, Value.slice none 0 0, Value.slice none 0 0, Value.slice none 0 0, Value.slice none 0 0, Value.slice none 0 0, Value.slice none 0 0, Value.slice none 0 0, Value.slice none 0 0, Value.slice none 0 0, Value.slice none 0 0, Value.slice none 0 0, Value.slice none 0 0, Value.slice none 0 0, Value.slice none 0 0, Value.slice none 0 0, Value.slice none 0 0, Value.slice none 0 0, Value.slice none 0 0, Value.slice none 0 0, Value.slice none 0 0, Value.slice none 0 0, Value.slice none 0 0, Value.slice none 0 0, Value.slice none 0 0, Value.slice none 0 0, Value.slice none 0 0, Value.slice none 0 0, Value.slice none 0 0, Value.slice none 0 0, Value.slice none 0 0, Value.slice none 0 0, Value.slice none 0 0, Value.slice none 0 0, Value.slice none 0 0, Value.slice none 0 0, Value.slice none 0 0, Value.slice none 0 0, Value.slice none 0 0, Value.slice none 0 0, Value.slice none 0 0, Value.slice none 0 0, Value.slice none 0 0, Value.slice none 0 0, Value.slice none 0 0, Value.slice none 0 0, Value.slice none 0 0, Value.slice none 0 0, Value.slice none 0 0, Value.slice none 0 0, Value.slice none 0 0, Value.slice none 0 0, Value.slice none 0 0, Value.slice none 0 0, Value.slice none 0 0, Value.slice none 0 0, Value.slice none 0 0, Value.slice none 0 0, Value.slice none 0 0, Value.slice none 0 0, Value.slice none 0 0, Value.slice none 0 0, Value.slice none 0 0, Value.slice none 0 0, Value.slice none 0 0, Value.slice none 0 0, Value.slice none 0 0, Value.slice none 0 0, Value.slice none 0 0, Value.slice none 0 0, Value.slice none 0 0, Value.slice none 0 0, Value.slice none 0 0, Value.slice none 0 0, Value.slice none 0 0, Value.slice none 0 0, Value.slice none 0 0, Value.slice none 0 0, Value.slice none 0 0, Value.slice none 0 0, Value.slice none 0 0, Value.slice none 0 0, Value.slice none 0 0, Value.slice none 0 0, Value.slice none 0 0, Value.slice none 0 0, Value.slice none 0 0, Value.slice none 0 0, Value.slice none 0 0, Value.slice none 0 0, Value.slice none 0 0, Value.slice none 0 0, Value.slice none 0 0, Value.slice none 0 0, Value.slice none 0 0, Value.slice none 0 0, Value.slice none 0 0, Value.slice none 0 0, Value.slice none 0 0, Value.slice none 0 0, Value.slice none 0 0, Value.slice none 0 0, Value.slice none 0 0, Value.slice none 0 0, Value.slice none 0 0, Value.slice none 0 0, Value.slice none 0 0, Value.slice none 0 0, Value.slice none 0 0, Value.slice none 0 0, Value.slice none 0 0, Value.slice none 0 0, Value.slice none 0 0, Value.slice none 0 0, Value.slice none 0 0, Value.slice none 0 0, Value.slice none 0 0, Value.slice none 0 0, Value.slice none 0 0, Value.slice none 0 0, Value.slice none 0 0, Value.slice none 0 0, Value.slice none 0 0, Value.slice none 0 0, Value.slice none 0 0, Value.slice none 0 0, Value.slice none 0 0, Value.slice none 0 0, Value.slice none 0 0, Value.slice none 0 0, Value.slice none 0 0, Value.slice none 0 0, Value.slice none 0 0, Value.slice none 0 0, Value.slice none 0 0, Value.slice none 0 0, Value.slice none 0 0, Value.slice none 0 0, Value.slice none 0 0, Value.slice none 0 0, Value.slice none 0 0, Value.slice none 0 0, Value.slice none 0 0, Value.slice none 0 0, Value.slice none 0 0, Value.slice none 0 0, Value.slice none 0 0, Value.slice none 0 0, Value.slice none 0 0, Value.slice none 0 0, Value.slice none 0 0, Value.slice none 0 0, Value.slice none 0 0, Value.slice none 0 0, Value.slice none 0 0, Value.slice none 0 0, Value.slice none 0 0, Value.slice none 0 0, Value.slice none 0 0, Value.slice none 0 0, Value.slice none 0 0, Value.slice none 0 0, Value.slice none 0 0, Value.slice none 0 0, Value.slice none 0 0, Value.slice none 0 0, Value.slice none 0 0, Value.slice none 0 0, Value.slice none 0 0, Value.slice none 0 0, Value.slice none 0 0, Value.slice none 0 0, Value.slice none 0 0, Value.slice none 0 0, Value.slice none 0 0, Value.slice none 0 0, Value.slice none 0 0, Value.slice none 0 0, Value.slice none 0 0, Value.slice none 0 0, Value.slice none 0 0, Value.slice none 0 0, Value.slice none 0 0, Value.slice none 0 0] h15 fun h18 => Kr y7 4 h18 else F_follow_GetSets_l1 F_bitio_Reader_Bits F_bitio_Reader_Err R R y6 y7 y8 y9 (IntKind.wrap .i64 r14) 0 h15 (fun w41 w42 w43 w44 h45 => F_bitio_Reader_Err w41 h45 fun r46 h47 => (bif r46 != 0 then exA w42 fun g48 o49 => gput g48 (o49) [Value.slice none 0 0, Value.slice none 0 0, Value.slice none 0 0, Value.slice none 0 0, Value.slice none 0 0, Value.slice none 0 0, Value.slice none 0 0, Value.slice none 0 0, Value.slice none 0 0, Value.slice none 0 0, Value.slice none 0 0, Value.slice none 0 0, Value.slice none 0 0, Value.slice none 0 0, Value.slice none 0 0, Value.slice none 0 0, Value.slice none 0 0, Value.slice none 0 0, Value.slice none 0 0, Value.slice none 0 0, Value.slice none 0 0, Value.slice none 0 0, Value.slice none 0 0, Value.slice none 0 0, Value.slice none 0 0, Value.slice none 0 0, Value.slice none 0 0, Value.slice none 0 0, Value.slice none 0 0, Value.slice none 0 0, Value.slice none 0 0, Value.slice none 0 0, Value.slice none 0 0, Value.slice none 0 0, Value.slice none 0 0, Value.slice none 0 0, Value.slice none 0 0, Value.slice none 0 0, Value.slice none 0 0, Value.slice none 0 0, Value.slice none 0 0, Value.slice none 0 0, Value.slice none 0 0, Value.slice none 0 0, Value.slice none 0 0, Value.slice none 0 0, Value.slice none 0 0, Value.slice none 0 0, Value.slice none 0 0, Value.slice none 0 0, Value.slice none 0 0, Value.slice none 0 0, Value.slice none 0 0, Value.slice none 0 0, Value.slice none 0 0, Value.slice none 0 0, Value.slice none 0 0, Value.slice none 0 0, Value.slice none 0 0, Value.slice none 0 0, Value.slice none 0 0, Value.slice none 0 0, Value.slice none 0 0, Value.slice none 0 0, Value.slice none 0 0, Value.slice none 0 0, Value.slice none 0 0, Value.slice none 0 0, Value.slice none 0 0, Value.slice none 0 0, Value.slice none 0 0, Value.slice none 0 0, Value.slice none 0 0, Value.slice none 0 0, Value.slice none 0 0, Value.slice none 0 0, Value.slice none 0 0, Value.slice none 0 0, Value.slice none 0 0, Value.slice none 0 0, Value.slice none 0 0, Value.slice none 0 0, Value.slice none 0 0, Value.slice none 0 0, Value.slice none 0 0, Value.slice none 0 0, Value.slice none 0 0, Value.slice none 0 0, Value.slice none 0 0, Value.slice none 0 0, Value.slice none 0 0, Value.slice none 0 0, Value.slice none 0 0, Value.slice none 0 0, Value.slice none 0 0, Value.slice none 0 0, Value.slice none 0 0, Value.slice none 0 0, Value.slice none 0 0, Value.slice none 0 0, Value.slice none 0 0, Value.slice none 0 0, Value.slice none 0 0, Value.slice none 0 0, Value.slice none 0 0, Value.slice none 0 0, Value.slice none 0 0, Value.slice none 0 0, Value.slice none 0 0, Value.slice none 0 0, Value.slice none 0 0, Value.slice none 0 0, Value.slice none 0 0, Value.slice none 0 0, Value.slice none 0 0, Value.slice none 0 0, Value.slice none 0 0, Value.slice none 0 0, Value.slice none 0 0, Value.slice none 0 0, Value.slice none 0 0, Value.slice none 0 0, Value.slice none 0 0, Value.slice none 0 0, Value.slice none 0 0, Value.slice none 0 0, Value.slice none 0 0, Value.slice none 0 0, Value.slice none 0 0, Value.slice none 0 0, Value.slice none 0 0, Value.slice none 0 0, Value.slice none 0 0, Value.slice none 0 0, Value.slice none 0 0, Value.slice none 0 0, Value.slice none 0 0, Value.slice none 0 0, Value.slice none 0 0, Value.slice none 0 0, Value.slice none 0 0, Value.slice none 0 0, Value.slice none 0 0, Value.slice none 0 0, Value.slice none 0 0, Value.slice none 0 0, Value.slice none 0 0, Value.slice none 0 0, Value.slice none 0 0, Value.slice none 0 0, Value.slice none 0 0, Value.slice none 0 0, Value.slice none 0 0, Value.slice none 0 0, Value.slice none 0 0, Value.slice none 0 0, Value.slice none 0 0, Value.slice none 0 0, Value.slice none 0 0, Value.slice none 0 0, Value.slice none 0 0, Value.slice none 0 0, Value.slice none 0 0, Value.slice none 0 0, Value.slice none 0 0, Value.slice none 0 0, Value.slice none 0 0, Value.slice none 0 0, Value.slice none 0 0, Value.slice none 0 0, Value.slice none 0 0, Value.slice none 0 0, Value.slice none 0 0, Value.slice none 0 0, Value.slice none 0 0, Value.slice none 0 0, Value.slice none 0 0, Value.slice none 0 0, Value.slice none 0 0, Value.slice none 0 0, Value.slice none 0 0, Value.slice none 0 0, Value.slice none 0 0, Value.slice none 0 0, Value.slice none 0 0, Value.slice none 0 0, Value.slice none 0 0, Value.slice none 0 0, Value.slice none 0 0, Value.slice none 0 0, Value.slice none 0 0, Value.slice none 0 0, Value.slice none 0 0, Value.slice none 0 0, Value.slice none 0 0, Value.slice none 0 0, Value.slice none 0 0, Value.slice none 0 0, Value.slice none 0 0, Value.slice none 0 0, Value.slice none 0 0, Value.slice none 0 0, Value.slice none 0 0, Value.slice none 0 0, Value.slice none 0 0, Value.slice none 0 0, Value.slice none 0 0, Value.slice none 0 0, Value.slice none 0 0, Value.slice none 0 0, Value.slice none 0 0, Value.slice none 0 0, Value.slice none 0 0, Value.slice none 0 0, Value.slice none 0 0, Value.slice none 0 0, Value.slice none 0 0, Value.slice none 0 0, Value.slice none 0 0, Value.slice none 0 0, Value.slice none 0 0, Value.slice none 0 0, Value.slice none 0 0, Value.slice none 0 0, Value.slice none 0 0, Value.slice none 0 0, Value.slice none 0 0, Value.slice none 0 0, Value.slice none 0 0, Value.slice none 0 0, Value.slice none 0 0, Value.slice none 0 0, Value.slice none 0 0, Value.slice none 0 0, Value.slice none 0 0, Value.slice none 0 0, Value.slice none 0 0, Value.slice none 0 0, Value.slice none 0 0, Value.slice none 0 0, Value.slice none 0 0, Value.slice none 0 0, Value.slice none 0 0, Value.slice none 0 0, Value.slice none 0 0, Value.slice none 0 0, Value.slice none 0 0, Value.slice none 0 0, Value.slice none 0 0, Value.slice none 0 0, Value.slice none 0 0, Value.slice none 0 0, Value.slice none 0 0, Value.slice none 0 0, Value.slice none 0 0, Value.slice none 0 0] h47 fun h50 => Kr w42 r46 h50 else F_follow_GetSets_l0 F_bitio_Reader_Bits F_bitio_Reader_Err R n w41 w42 w43 (IntKind.wrap .i64 (w44 - 1)) h47 K0 Kr))) else K0 y7 y8 h) := by kernel_rfl
noncomputable def G_follow_GetSets (F_bitio_Reader_Bits : Option Addr → Int → GH → (Int → GH → Option β) → Option β) (F_bitio_Reader_Err : Option Addr → GH → (Int → GH → Option β) → Option β) (R : Nat) (a1 : Option Addr) (h : GH) (K : List Value → Int → GH → Option β) : Option β := gfun Try.prog (CF_follow_GetSets F_bitio_Reader_Bits F_bitio_Reader_Err) HF_follow_GetSets R Try.f30 [Value.pointer a1] h (fun v h' => exTup 2 v fun vs => exV (nth vs 0) fun v0 => exAg v0 fun c79 => (bif Nat.beq c79.length 256 then exV (nth vs 1) fun v1 => exI .i64 (some v1) fun u80 => K c79 u80 h' else none))
set_option maxRecDepth 100000 in
theorem F_follow_GetSets_gen (F_bitio_Reader_Bits : Option Addr → Int → GH → (Int → GH → Option β) → Option β) (F_bitio_Reader_Err : Option Addr → GH → (Int → GH → Option β) → Option β) (R : Nat) (a1 : Option Addr) (h : GH) (K : List Value → Int → GH → Option β) : G_follow_GetSets F_bitio_Reader_Bits F_bitio_Reader_Err R a1 h K =
    gnew Z40 0 h fun g2 h3 => gnew Z40 0 h3 fun g4 h5 => F_follow_GetSets_l0 F_bitio_Reader_Bits F_bitio_Reader_Err R R a1 (some ⟨g2, 0, none⟩) (some ⟨g4, 0, none⟩) 255 h5 (fun w51 w52 h53 => exA w52 fun g54 o55 => exL (nsub (rowCells (h53.look g54)) (o55) 256) fun x56 => (bif Nat.beq (x56).length 256 then exA w51 fun g57 o58 => gput g57 (o58) x56 h53 fun h59 => exA w51 fun g60 o61 => exL (nsub (rowCells (h59.look g60)) (o61) 256) fun x62 => (bif Nat.beq (x62).length 256 then K x62 0 h59 else none) else none)) (fun w63 w64 h65 => exA w63 fun g66 o67 => exL (nsub (rowCells (h65.look g66)) (o67) 256) fun x68 => (bif Nat.beq (x68).length 256 then K x68 w64 h65 else none)) := by kernel_rfl
noncomputable def F_follow_GetSets (R : Nat) (a1 : Option Addr) (h : GH) (K : List Value → Int → GH → Option β) : Option β := G_follow_GetSets (F_bitio_Reader_Bits R) (F_bitio_Reader_Err R) R a1 h K
set_option maxRecDepth 100000 in
theorem CF_follow_GetSets_sim {R : Nat} : SimOrc Try.prog (CF_follow_GetSets (F_bitio_Reader_Bits R) (F_bitio_Reader_Err R) (β := β)) := by
  intro f args h K r hc
  unfold CF_follow_GetSets at hc
  cases hb : Nat.beq f 60 with
  | true =>
    rw [hb] at hc
    simp only [cond_true] at hc
    obtain rfl := Nat.eq_of_beq_eq_true hb
    split at hc
    · exact any_call (F_bitio_Reader_Bits_sim (K := K) hc)
    · cases hc
  | false =>
  rw [hb] at hc
  simp only [cond_false] at hc
  cases hb : Nat.beq f 61 with
  | true =>
    rw [hb] at hc
    simp only [cond_true] at hc
    obtain rfl := Nat.eq_of_beq_eq_true hb
    split at hc
    · exact any_call (F_bitio_Reader_Err_sim (K := K) hc)
    · cases hc
  | false =>
  rw [hb] at hc
  simp only [cond_false] at hc
  cases hc
set_option maxRecDepth 100000 in
theorem F_follow_GetSets_sim {R : Nat} {r : β} {a1 : Option Addr} {h : GH} {K : Value → GH → Option β} (hc : F_follow_GetSets R a1 h (fun q0 q1 h' => K (Value.tuple #[Value.agg (q0).toArray, Value.int .i64 q1]) h') = some r) : ∃ v h', K v h' = some r ∧ CallSim Try.prog 30 [Value.pointer a1] h v h' := by
  unfold F_follow_GetSets G_follow_GetSets at hc
  obtain ⟨v, h', hk, hs⟩ := gfun_sim (CF_follow_GetSets_sim (R := R)) mixed_ok (fun f h => by cases h) Try.func30 (by kernel_rfl) hc
  obtain ⟨vs, rfl, hl, hk⟩ := exTup_v hk
  obtain ⟨v0, t0, hk⟩ := exV_v hk
  obtain ⟨cs0, f0, hk⟩ := exAg_v hk; cases f0; obtain ⟨hl0, hk⟩ := beq_v hk
  obtain ⟨v1, t1, hk⟩ := exV_v hk
  obtain ⟨u1, e1, hk⟩ := exI_v hk; cases e1
  obtain rfl := arr2 hl t0 t1
  exact ⟨_, h', hk, hs⟩
/-! F65 (*duffel/dle.Machine).ok -/
def CF_dle_Machine_ok  : Orc β := fun f args h K => none
def HF_dle_Machine_ok : Hints := ⟨[], [], []⟩
noncomputable def G_dle_Machine_ok  (R : Nat) (a1 : Option Addr) (h : GH) (K : Bool → GH → Option β) : Option β := gfun Try.prog (CF_dle_Machine_ok ) HF_dle_Machine_ok R Try.f65 [Value.pointer a1] h (fun v h' => exB (some v) fun u6 => K u6 h')
set_option maxRecDepth 100000 in
theorem F_dle_Machine_ok_gen  (R : Nat) (a1 : Option Addr) (h : GH) (K : Bool → GH → Option β) : G_dle_Machine_ok  R a1 h K =
    (bif !a1.isNone then exA a1 fun g2 o3 => exP (h.cell ⟨g2, o3 + 1, none⟩) fun x4 => K (!x4.isNone) h else K false h) := by kernel_rfl
noncomputable def F_dle_Machine_ok (R : Nat) (a1 : Option Addr) (h : GH) (K : Bool → GH → Option β) : Option β := G_dle_Machine_ok  R a1 h K
theorem CF_dle_Machine_ok_sim : SimOrc Try.prog (CF_dle_Machine_ok (β := β)) := by
  intro f args h K r hc
  cases hc
set_option maxRecDepth 100000 in
theorem F_dle_Machine_ok_sim {R : Nat} {r : β} {a1 : Option Addr} {h : GH} {K : Value → GH → Option β} (hc : F_dle_Machine_ok R a1 h (fun q0 h' => K (Value.bool q0) h') = some r) : ∃ v h', K v h' = some r ∧ CallSim Try.prog 65 [Value.pointer a1] h v h' := by
  unfold F_dle_Machine_ok G_dle_Machine_ok at hc
  obtain ⟨v, h', hk, hs⟩ := gfun_sim CF_dle_Machine_ok_sim mixed_ok (fun f h => by cases h) Try.func65 (by kernel_rfl) hc
  obtain ⟨u0, e0, hk⟩ := exB_v hk; cases e0
  exact ⟨_, h', hk, hs⟩
/-! F62 (*duffel/dle.Machine).Rest -/
def CF_dle_Machine_Rest (F_dle_Machine_ok : Option Addr → GH → (Bool → GH → Option β) → Option β) : Orc β := fun f args h K => bif Nat.beq f 65 then (match args with | [.pointer p1] => F_dle_Machine_ok p1 h (fun q5 h' => K (Value.bool q5) h') | _ => none) else none
def HF_dle_Machine_Rest : Hints := ⟨[], [], []⟩
noncomputable def G_dle_Machine_Rest (F_dle_Machine_ok : Option Addr → GH → (Bool → GH → Option β) → Option β) (R : Nat) (a1 : Option Addr) (h : GH) (K : Bool → GH → Option β) : Option β := gfun Try.prog (CF_dle_Machine_Rest F_dle_Machine_ok) HF_dle_Machine_Rest R Try.f62 [Value.pointer a1] h (fun v h' => exB (some v) fun u8 => K u8 h')
set_option maxRecDepth 100000 in
theorem F_dle_Machine_Rest_gen (F_dle_Machine_ok : Option Addr → GH → (Bool → GH → Option β) → Option β) (R : Nat) (a1 : Option Addr) (h : GH) (K : Bool → GH → Option β) : G_dle_Machine_Rest F_dle_Machine_ok R a1 h K =
    F_dle_Machine_ok a1 h fun r2 h3 => (bif r2 then exA a1 fun g4 o5 => exI .i64 (h3.cell ⟨g4, o5 + 2, none⟩) fun x6 => K (x6 == 0) h3 else K false h3) := by kernel_rfl
noncomputable def F_dle_Machine_Rest (R : Nat) (a1 : Option Addr) (h : GH) (K : Bool → GH → Option β) : Option β := G_dle_Machine_Rest (F_dle_Machine_ok R) R a1 h K
set_option maxRecDepth 100000 in
theorem CF_dle_Machine_Rest_sim {R : Nat} : SimOrc Try.prog (CF_dle_Machine_Rest (F_dle_Machine_ok R) (β := β)) := by
  intro f args h K r hc
  unfold CF_dle_Machine_Rest at hc
  cases hb : Nat.beq f 65 with
  | true =>
    rw [hb] at hc
    simp only [cond_true] at hc
    obtain rfl := Nat.eq_of_beq_eq_true hb
    split at hc
    · exact any_call (F_dle_Machine_ok_sim (K := K) hc)
    · cases hc
  | false =>
  rw [hb] at hc
  simp only [cond_false] at hc
  cases hc
set_option maxRecDepth 100000 in
theorem F_dle_Machine_Rest_sim {R : Nat} {r : β} {a1 : Option Addr} {h : GH} {K : Value → GH → Option β} (hc : F_dle_Machine_Rest R a1 h (fun q0 h' => K (Value.bool q0) h') = some r) : ∃ v h', K v h' = some r ∧ CallSim Try.prog 62 [Value.pointer a1] h v h' := by
  unfold F_dle_Machine_Rest G_dle_Machine_Rest at hc
  obtain ⟨v, h', hk, hs⟩ := gfun_sim (CF_dle_Machine_Rest_sim (R := R)) mixed_ok (fun f h => by cases h) Try.func62 (by kernel_rfl) hc
  obtain ⟨u0, e0, hk⟩ := exB_v hk; cases e0
  exact ⟨_, h', hk, hs⟩
/-! F85 (*duffel/hist.Out).ok -/
def CF_hist_Out_ok  : Orc β := fun f args h K => none
def HF_hist_Out_ok : Hints := ⟨[], [], []⟩
noncomputable def G_hist_Out_ok  (R : Nat) (a1 : Option Addr) (h : GH) (K : Bool → GH → Option β) : Option β := gfun Try.prog (CF_hist_Out_ok ) HF_hist_Out_ok R Try.f85 [Value.pointer a1] h (fun v h' => exB (some v) fun u6 => K u6 h')
set_option maxRecDepth 100000 in
theorem F_hist_Out_ok_gen  (R : Nat) (a1 : Option Addr) (h : GH) (K : Bool → GH → Option β) : G_hist_Out_ok  R a1 h K =
    (bif !a1.isNone then exA a1 fun g2 o3 => exI .i64 (h.cell ⟨g2, o3 + 0, none⟩) fun x4 => K (decide (x4 > 0)) h else K false h) := by kernel_rfl
noncomputable def F_hist_Out_ok (R : Nat) (a1 : Option Addr) (h : GH) (K : Bool → GH → Option β) : Option β := G_hist_Out_ok  R a1 h K
theorem CF_hist_Out_ok_sim : SimOrc Try.prog (CF_hist_Out_ok (β := β)) := by
  intro f args h K r hc
  cases hc
set_option maxRecDepth 100000 in
theorem F_hist_Out_ok_sim {R : Nat} {r : β} {a1 : Option Addr} {h : GH} {K : Value → GH → Option β} (hc : F_hist_Out_ok R a1 h (fun q0 h' => K (Value.bool q0) h') = some r) : ∃ v h', K v h' = some r ∧ CallSim Try.prog 85 [Value.pointer a1] h v h' := by
  unfold F_hist_Out_ok G_hist_Out_ok at hc
  obtain ⟨v, h', hk, hs⟩ := gfun_sim CF_hist_Out_ok_sim mixed_ok (fun f h => by cases h) Try.func85 (by kernel_rfl) hc
  obtain ⟨u0, e0, hk⟩ := exB_v hk; cases e0
  exact ⟨_, h', hk, hs⟩
/-! F63 (*duffel/hist.Out).Full -/
def CF_hist_Out_Full (F_hist_Out_ok : Option Addr → GH → (Bool → GH → Option β) → Option β) : Orc β := fun f args h K => bif Nat.beq f 85 then (match args with | [.pointer p1] => F_hist_Out_ok p1 h (fun q5 h' => K (Value.bool q5) h') | _ => none) else none
def HF_hist_Out_Full : Hints := ⟨[], [], []⟩
noncomputable def G_hist_Out_Full (F_hist_Out_ok : Option Addr → GH → (Bool → GH → Option β) → Option β) (R : Nat) (a1 : Option Addr) (h : GH) (K : Bool → GH → Option β) : Option β := gfun Try.prog (CF_hist_Out_Full F_hist_Out_ok) HF_hist_Out_Full R Try.f63 [Value.pointer a1] h (fun v h' => exB (some v) fun u11 => K u11 h')
set_option maxRecDepth 100000 in
theorem F_hist_Out_Full_gen (F_hist_Out_ok : Option Addr → GH → (Bool → GH → Option β) → Option β) (R : Nat) (a1 : Option Addr) (h : GH) (K : Bool → GH → Option β) : G_hist_Out_Full F_hist_Out_ok R a1 h K =
    F_hist_Out_ok a1 h fun r2 h3 => (bif r2 then exA a1 fun g4 o5 => exS (h3.cell ⟨g4, o5 + 3, none⟩) fun x6 => exA a1 fun g7 o8 => exI .i64 (h3.cell ⟨g7, o8 + 1, none⟩) fun x9 => K (((x6.n : Nat) : Int) == x9) h3 else K false h3) := by kernel_rfl
noncomputable def F_hist_Out_Full (R : Nat) (a1 : Option Addr) (h : GH) (K : Bool → GH → Option β) : Option β := G_hist_Out_Full (F_hist_Out_ok R) R a1 h K
set_option maxRecDepth 100000 in
theorem CF_hist_Out_Full_sim {R : Nat} : SimOrc Try.prog (CF_hist_Out_Full (F_hist_Out_ok R) (β := β)) := by
  intro f args h K r hc
  unfold CF_hist_Out_Full at hc
  cases hb : Nat.beq f 85 with
  | true =>
    rw [hb] at hc
    simp only [cond_true] at hc
    obtain rfl := Nat.eq_of_beq_eq_true hb
    split at hc
    · exact any_call (F_hist_Out_ok_sim (K := K) hc)
    · cases hc
  | false =>
  rw [hb] at hc
  simp only [cond_false] at hc
  cases hc
set_option maxRecDepth 100000 in
theorem F_hist_Out_Full_sim {R : Nat} {r : β} {a1 : Option Addr} {h : GH} {K : Value → GH → Option β} (hc : F_hist_Out_Full R a1 h (fun q0 h' => K (Value.bool q0) h') = some r) : ∃ v h', K v h' = some r ∧ CallSim Try.prog 63 [Value.pointer a1] h v h' := by
  unfold F_hist_Out_Full G_hist_Out_Full at hc
  obtain ⟨v, h', hk, hs⟩ := gfun_sim (CF_hist_Out_Full_sim (R := R)) mixed_ok (fun f h => by cases h) Try.func63 (by kernel_rfl) hc
  obtain ⟨u0, e0, hk⟩ := exB_v hk; cases e0
  exact ⟨_, h', hk, hs⟩
/-! F31 (*duffel/dle.Machine).Full -/
def CF_dle_Machine_Full (F_dle_Machine_Rest : Option Addr → GH → (Bool → GH → Option β) → Option β) (F_hist_Out_Full : Option Addr → GH → (Bool → GH → Option β) → Option β) : Orc β := fun f args h K => bif Nat.beq f 62 then (match args with | [.pointer p1] => F_dle_Machine_Rest p1 h (fun q7 h' => K (Value.bool q7) h') | _ => none) else (bif Nat.beq f 63 then (match args with | [.pointer p1] => F_hist_Out_Full p1 h (fun q10 h' => K (Value.bool q10) h') | _ => none) else none)
def HF_dle_Machine_Full : Hints := ⟨[], [], []⟩
noncomputable def G_dle_Machine_Full (F_dle_Machine_Rest : Option Addr → GH → (Bool → GH → Option β) → Option β) (F_hist_Out_Full : Option Addr → GH → (Bool → GH → Option β) → Option β) (R : Nat) (a1 : Option Addr) (h : GH) (K : Bool → GH → Option β) : Option β := gfun Try.prog (CF_dle_Machine_Full F_dle_Machine_Rest F_hist_Out_Full) HF_dle_Machine_Full R Try.f31 [Value.pointer a1] h (fun v h' => exB (some v) fun u10 => K u10 h')
set_option maxRecDepth 100000 in
theorem F_dle_Machine_Full_gen (F_dle_Machine_Rest : Option Addr → GH → (Bool → GH → Option β) → Option β) (F_hist_Out_Full : Option Addr → GH → (Bool → GH → Option β) → Option β) (R : Nat) (a1 : Option Addr) (h : GH) (K : Bool → GH → Option β) : G_dle_Machine_Full F_dle_Machine_Rest F_hist_Out_Full R a1 h K =
    F_dle_Machine_Rest a1 h fun r2 h3 => (bif r2 then exA a1 fun g4 o5 => exP (h3.cell ⟨g4, o5 + 1, none⟩) fun x6 => F_hist_Out_Full x6 h3 fun r7 h8 => K r7 h8 else K false h3) := by kernel_rfl
noncomputable def F_dle_Machine_Full (R : Nat) (a1 : Option Addr) (h : GH) (K : Bool → GH → Option β) : Option β := G_dle_Machine_Full (F_dle_Machine_Rest R) (F_hist_Out_Full R) R a1 h K
set_option maxRecDepth 100000 in
theorem CF_dle_Machine_Full_sim {R : Nat} : SimOrc Try.prog (CF_dle_Machine_Full (F_dle_Machine_Rest R) (F_hist_Out_Full R) (β := β)) := by
  intro f args h K r hc
  unfold CF_dle_Machine_Full at hc
  cases hb : Nat.beq f 62 with
  | true =>
    rw [hb] at hc
    simp only [cond_true] at hc
    obtain rfl := Nat.eq_of_beq_eq_true hb
    split at hc
    · exact any_call (F_dle_Machine_Rest_sim (K := K) hc)
    · cases hc
  | false =>
  rw [hb] at hc
  simp only [cond_false] at hc
  cases hb : Nat.beq f 63 with
  | true =>
    rw [hb] at hc
    simp only [cond_true] at hc
    obtain rfl := Nat.eq_of_beq_eq_true hb
    split at hc
    · exact any_call (F_hist_Out_Full_sim (K := K) hc)
    · cases hc
  | false =>
  rw [hb] at hc
  simp only [cond_false] at hc
  cases hc
set_option maxRecDepth 100000 in
theorem F_dle_Machine_Full_sim {R : Nat} {r : β} {a1 : Option Addr} {h : GH} {K : Value → GH → Option β} (hc : F_dle_Machine_Full R a1 h (fun q0 h' => K (Value.bool q0) h') = some r) : ∃ v h', K v h' = some r ∧ CallSim Try.prog 31 [Value.pointer a1] h v h' := by
  unfold F_dle_Machine_Full G_dle_Machine_Full at hc
  obtain ⟨v, h', hk, hs⟩ := gfun_sim (CF_dle_Machine_Full_sim (R := R)) mixed_ok (fun f h => by cases h) Try.func31 (by kernel_rfl) hc
  obtain ⟨u0, e0, hk⟩ := exB_v hk; cases e0
  exact ⟨_, h', hk, hs⟩
/-! F47 duffel/follow.first -/
def CF_follow_first  : Orc β := fun f args h K => none
def HF_follow_first : Hints := ⟨[], [], []⟩
noncomputable def G_follow_first  (R : Nat) (a1 : Sl) (h : GH) (K : Sl → GH → Option β) : Option β := gfun Try.prog (CF_follow_first ) HF_follow_first R Try.f47 [Value.slice a1.a a1.n a1.c] h (fun v h' => exS (some v) fun u4 => K u4 h')
set_option maxRecDepth 100000 in
theorem F_follow_first_gen  (R : Nat) (a1 : Sl) (h : GH) (K : Sl → GH → Option β) : G_follow_first  R a1 h K =
    bnd (if 32 < ((a1.n : Nat) : Int) then 32 else ((a1.n : Nat) : Int)) a1.c fun m2 => K ⟨addO a1.a (0 * 1), m2 - 0, a1.c - 0⟩ h := by kernel_rfl
noncomputable def F_follow_first (R : Nat) (a1 : Sl) (h : GH) (K : Sl → GH → Option β) : Option β := G_follow_first  R a1 h K
theorem CF_follow_first_sim : SimOrc Try.prog (CF_follow_first (β := β)) := by
  intro f args h K r hc
  cases hc
set_option maxRecDepth 100000 in
theorem F_follow_first_sim {R : Nat} {r : β} {a1 : Sl} {h : GH} {K : Value → GH → Option β} (hc : F_follow_first R a1 h (fun q0 h' => K (Value.slice q0.a q0.n q0.c) h') = some r) : ∃ v h', K v h' = some r ∧ CallSim Try.prog 47 [Value.slice a1.a a1.n a1.c] h v h' := by
  unfold F_follow_first G_follow_first at hc
  obtain ⟨v, h', hk, hs⟩ := gfun_sim CF_follow_first_sim mixed_ok (fun f h => by cases h) Try.func47 (by kernel_rfl) hc
  obtain ⟨u0, e0, hk⟩ := exS_v hk; cases e0
  exact ⟨_, h', hk, hs⟩
/-! F64 (*duffel/bitio.Reader).Bit -/
def CF_bitio_Reader_Bit (F_bitio_Reader_Bits : Option Addr → Int → GH → (Int → GH → Option β) → Option β) : Orc β := fun f args h K => bif Nat.beq f 60 then (match args with | [.pointer p1, .int .i64 p2] => F_bitio_Reader_Bits p1 p2 h (fun q21 h' => K (Value.int .u32 q21) h') | _ => none) else none
def HF_bitio_Reader_Bit : Hints := ⟨[], [], []⟩
noncomputable def G_bitio_Reader_Bit (F_bitio_Reader_Bits : Option Addr → Int → GH → (Int → GH → Option β) → Option β) (R : Nat) (a1 : Option Addr) (h : GH) (K : Int → GH → Option β) : Option β := gfun Try.prog (CF_bitio_Reader_Bit F_bitio_Reader_Bits) HF_bitio_Reader_Bit R Try.f64 [Value.pointer a1] h (fun v h' => exI .u32 (some v) fun u5 => K u5 h')
set_option maxRecDepth 100000 in
theorem F_bitio_Reader_Bit_gen (F_bitio_Reader_Bits : Option Addr → Int → GH → (Int → GH → Option β) → Option β) (R : Nat) (a1 : Option Addr) (h : GH) (K : Int → GH → Option β) : G_bitio_Reader_Bit F_bitio_Reader_Bits R a1 h K =
    F_bitio_Reader_Bits a1 1 h fun r2 h3 => K r2 h3 := by kernel_rfl
noncomputable def F_bitio_Reader_Bit (R : Nat) (a1 : Option Addr) (h : GH) (K : Int → GH → Option β) : Option β := G_bitio_Reader_Bit (F_bitio_Reader_Bits R) R a1 h K
set_option maxRecDepth 100000 in
theorem CF_bitio_Reader_Bit_sim {R : Nat} : SimOrc Try.prog (CF_bitio_Reader_Bit (F_bitio_Reader_Bits R) (β := β)) := by
  intro f args h K r hc
  unfold CF_bitio_Reader_Bit at hc
  cases hb : Nat.beq f 60 with
  | true =>
    rw [hb] at hc
    simp only [cond_true] at hc
    obtain rfl := Nat.eq_of_beq_eq_true hb
    split at hc
    · exact any_call (F_bitio_Reader_Bits_sim (K := K) hc)
    · cases hc
  | false =>
  rw [hb] at hc
  simp only [cond_false] at hc
  cases hc
set_option maxRecDepth 100000 in
theorem F_bitio_Reader_Bit_sim {R : Nat} {r : β} {a1 : Option Addr} {h : GH} {K : Value → GH → Option β} (hc : F_bitio_Reader_Bit R a1 h (fun q0 h' => K (Value.int .u32 q0) h') = some r) : ∃ v h', K v h' = some r ∧ CallSim Try.prog 64 [Value.pointer a1] h v h' := by
  unfold F_bitio_Reader_Bit G_bitio_Reader_Bit at hc
  obtain ⟨v, h', hk, hs⟩ := gfun_sim (CF_bitio_Reader_Bit_sim (R := R)) mixed_ok (fun f h => by cases h) Try.func64 (by kernel_rfl) hc
  obtain ⟨u0, e0, hk⟩ := exI_v hk; cases e0
  exact ⟨_, h', hk, hs⟩
/-! F94 math/bits.Len64 -/
def CF_math_bits_Len64  : Orc β := fun f args h K => none
def HF_math_bits_Len64 : Hints := ⟨[], [], []⟩
noncomputable def G_math_bits_Len64  (R : Nat) (a1 : Int) (h : GH) (K : Int → GH → Option β) : Option β := gfun Try.prog (CF_math_bits_Len64 ) HF_math_bits_Len64 R Try.f94 [Value.int .u64 a1] h (fun v h' => exI .i64 (some v) fun u11 => K u11 h')
set_option maxRecDepth 100000 in
theorem F_math_bits_Len64_gen  (R : Nat) (a1 : Int) (h : GH) (K : Int → GH → Option β) : G_math_bits_Len64  R a1 h K =
    (bif decide (a1 ≥ 4294967296) then (bif decide ((shrI .u64 a1 32) ≥ 65536) then (bif decide ((shrI .u64 (shrI .u64 a1 32) 16) ≥ 256) then byteAt Str0 (IntKind.wrap .u8 (shrI .u64 (shrI .u64 (shrI .u64 a1 32) 16) 8)) fun x2 => K (IntKind.wrap .i64 ((IntKind.wrap .i64 ((IntKind.wrap .i64 (32 + 16)) + 8)) + (IntKind.wrap .i64 x2))) h else byteAt Str0 (IntKind.wrap .u8 (shrI .u64 (shrI .u64 a1 32) 16)) fun x3 => K (IntKind.wrap .i64 ((IntKind.wrap .i64 (32 + 16)) + (IntKind.wrap .i64 x3))) h) else (bif decide ((shrI .u64 a1 32) ≥ 256) then byteAt Str0 (IntKind.wrap .u8 (shrI .u64 (shrI .u64 a1 32) 8)) fun x4 => K (IntKind.wrap .i64 ((IntKind.wrap .i64 (32 + 8)) + (IntKind.wrap .i64 x4))) h else byteAt Str0 (IntKind.wrap .u8 (shrI .u64 a1 32)) fun x5 => K (IntKind.wrap .i64 (32 + (IntKind.wrap .i64 x5))) h)) else (bif decide (a1 ≥ 65536) then (bif decide ((shrI .u64 a1 16) ≥ 256) then byteAt Str0 (IntKind.wrap .u8 (shrI .u64 (shrI .u64 a1 16) 8)) fun x6 => K (IntKind.wrap .i64 ((IntKind.wrap .i64 ((IntKind.wrap .i64 (0 + 16)) + 8)) + (IntKind.wrap .i64 x6))) h else byteAt Str0 (IntKind.wrap .u8 (shrI .u64 a1 16)) fun x7 => K (IntKind.wrap .i64 ((IntKind.wrap .i64 (0 + 16)) + (IntKind.wrap .i64 x7))) h) else (bif decide (a1 ≥ 256) then byteAt Str0 (IntKind.wrap .u8 (shrI .u64 a1 8)) fun x8 => K (IntKind.wrap .i64 ((IntKind.wrap .i64 (0 + 8)) + (IntKind.wrap .i64 x8))) h else byteAt Str0 (IntKind.wrap .u8 a1) fun x9 => K (IntKind.wrap .i64 (0 + (IntKind.wrap .i64 x9))) h))) := by kernel_rfl
noncomputable def F_math_bits_Len64 (R : Nat) (a1 : Int) (h : GH) (K : Int → GH → Option β) : Option β := G_math_bits_Len64  R a1 h K
theorem CF_math_bits_Len64_sim : SimOrc Try.prog (CF_math_bits_Len64 (β := β)) := by
  intro f args h K r hc
  cases hc
set_option maxRecDepth 100000 in
theorem F_math_bits_Len64_sim {R : Nat} {r : β} {a1 : Int} {h : GH} {K : Value → GH → Option β} (hc : F_math_bits_Len64 R a1 h (fun q0 h' => K (Value.int .i64 q0) h') = some r) : ∃ v h', K v h' = some r ∧ CallSim Try.prog 94 [Value.int .u64 a1] h v h' := by
  unfold F_math_bits_Len64 G_math_bits_Len64 at hc
  obtain ⟨v, h', hk, hs⟩ := gfun_sim CF_math_bits_Len64_sim mixed_ok (fun f h => by cases h) Try.func94 (by kernel_rfl) hc
  obtain ⟨u0, e0, hk⟩ := exI_v hk; cases e0
  exact ⟨_, h', hk, hs⟩
/-! F77 math/bits.Len -/
def CF_math_bits_Len (F_math_bits_Len64 : Int → GH → (Int → GH → Option β) → Option β) : Orc β := fun f args h K => bif Nat.beq f 94 then (match args with | [.int .u64 p1] => F_math_bits_Len64 p1 h (fun q10 h' => K (Value.int .i64 q10) h') | _ => none) else none
def HF_math_bits_Len : Hints := ⟨[], [], []⟩
noncomputable def G_math_bits_Len (F_math_bits_Len64 : Int → GH → (Int → GH → Option β) → Option β) (R : Nat) (a1 : Int) (h : GH) (K : Int → GH → Option β) : Option β := gfun Try.prog (CF_math_bits_Len F_math_bits_Len64) HF_math_bits_Len R Try.f77 [Value.int .u64 a1] h (fun v h' => exI .i64 (some v) fun u5 => K u5 h')
set_option maxRecDepth 100000 in
theorem F_math_bits_Len_gen (F_math_bits_Len64 : Int → GH → (Int → GH → Option β) → Option β) (R : Nat) (a1 : Int) (h : GH) (K : Int → GH → Option β) : G_math_bits_Len F_math_bits_Len64 R a1 h K =
    F_math_bits_Len64 a1 h fun r2 h3 => K r2 h3 := by kernel_rfl
noncomputable def F_math_bits_Len (R : Nat) (a1 : Int) (h : GH) (K : Int → GH → Option β) : Option β := G_math_bits_Len (F_math_bits_Len64 R) R a1 h K
set_option maxRecDepth 100000 in
theorem CF_math_bits_Len_sim {R : Nat} : SimOrc Try.prog (CF_math_bits_Len (F_math_bits_Len64 R) (β := β)) := by
  intro f args h K r hc
  unfold CF_math_bits_Len at hc
  cases hb : Nat.beq f 94 with
  | true =>
    rw [hb] at hc
    simp only [cond_true] at hc
    obtain rfl := Nat.eq_of_beq_eq_true hb
    split at hc
    · exact any_call (F_math_bits_Len64_sim (K := K) hc)
    · cases hc
  | false =>
  rw [hb] at hc
  simp only [cond_false] at hc
  cases hc
set_option maxRecDepth 100000 in
theorem F_math_bits_Len_sim {R : Nat} {r : β} {a1 : Int} {h : GH} {K : Value → GH → Option β} (hc : F_math_bits_Len R a1 h (fun q0 h' => K (Value.int .i64 q0) h') = some r) : ∃ v h', K v h' = some r ∧ CallSim Try.prog 77 [Value.int .u64 a1] h v h' := by
  unfold F_math_bits_Len G_math_bits_Len at hc
  obtain ⟨v, h', hk, hs⟩ := gfun_sim (CF_math_bits_Len_sim (R := R)) mixed_ok (fun f h => by cases h) Try.func77 (by kernel_rfl) hc
  obtain ⟨u0, e0, hk⟩ := exI_v hk; cases e0
  exact ⟨_, h', hk, hs⟩
/-! F50 duffel/follow.Width -/
def CF_follow_Width (F_math_bits_Len : Int → GH → (Int → GH → Option β) → Option β) : Orc β := fun f args h K => bif Nat.beq f 77 then (match args with | [.int .u64 p1] => F_math_bits_Len p1 h (fun q4 h' => K (Value.int .i64 q4) h') | _ => none) else none
def HF_follow_Width : Hints := ⟨[], [], []⟩
noncomputable def G_follow_Width (F_math_bits_Len : Int → GH → (Int → GH → Option β) → Option β) (R : Nat) (a1 : Int) (h : GH) (K : Int → GH → Option β) : Option β := gfun Try.prog (CF_follow_Width F_math_bits_Len) HF_follow_Width R Try.f50 [Value.int .i64 a1] h (fun v h' => exI .i64 (some v) fun u5 => K u5 h')
set_option maxRecDepth 100000 in
theorem F_follow_Width_gen (F_math_bits_Len : Int → GH → (Int → GH → Option β) → Option β) (R : Nat) (a1 : Int) (h : GH) (K : Int → GH → Option β) : G_follow_Width F_math_bits_Len R a1 h K =
    (bif decide (a1 < 1) then K 0 h else (bif decide (a1 > 32) then K 0 h else F_math_bits_Len (IntKind.wrap .u64 (IntKind.wrap .i64 (a1 - 1))) h fun r2 h3 => K (if 1 > r2 then 1 else r2) h3)) := by kernel_rfl
noncomputable def F_follow_Width (R : Nat) (a1 : Int) (h : GH) (K : Int → GH → Option β) : Option β := G_follow_Width (F_math_bits_Len R) R a1 h K
set_option maxRecDepth 100000 in
theorem CF_follow_Width_sim {R : Nat} : SimOrc Try.prog (CF_follow_Width (F_math_bits_Len R) (β := β)) := by
  intro f args h K r hc
  unfold CF_follow_Width at hc
  cases hb : Nat.beq f 77 with
  | true =>
    rw [hb] at hc
    simp only [cond_true] at hc
    obtain rfl := Nat.eq_of_beq_eq_true hb
    split at hc
    · exact any_call (F_math_bits_Len_sim (K := K) hc)
    · cases hc
  | false =>
  rw [hb] at hc
  simp only [cond_false] at hc
  cases hc
set_option maxRecDepth 100000 in
theorem F_follow_Width_sim {R : Nat} {r : β} {a1 : Int} {h : GH} {K : Value → GH → Option β} (hc : F_follow_Width R a1 h (fun q0 h' => K (Value.int .i64 q0) h') = some r) : ∃ v h', K v h' = some r ∧ CallSim Try.prog 50 [Value.int .i64 a1] h v h' := by
  unfold F_follow_Width G_follow_Width at hc
  obtain ⟨v, h', hk, hs⟩ := gfun_sim (CF_follow_Width_sim (R := R)) mixed_ok (fun f h => by cases h) Try.func50 (by kernel_rfl) hc
  obtain ⟨u0, e0, hk⟩ := exI_v hk; cases e0
  exact ⟨_, h', hk, hs⟩
/-! F32 duffel/follow.Get -/
def CF_follow_Get (F_follow_first : Sl → GH → (Sl → GH → Option β) → Option β) (F_bitio_Reader_Bits : Option Addr → Int → GH → (Int → GH → Option β) → Option β) (F_bitio_Reader_Err : Option Addr → GH → (Int → GH → Option β) → Option β) (F_bitio_Reader_Bit : Option Addr → GH → (Int → GH → Option β) → Option β) (F_follow_Width : Int → GH → (Int → GH → Option β) → Option β) : Orc β := fun f args h K => bif Nat.beq f 47 then (match args with | [.slice p1a p1n p1c] => F_follow_first ⟨p1a, p1n, p1c⟩ h (fun q3 h' => K (Value.slice q3.a q3.n q3.c) h') | _ => none) else (bif Nat.beq f 60 then (match args with | [.pointer p1, .int .i64 p2] => F_bitio_Reader_Bits p1 p2 h (fun q21 h' => K (Value.int .u32 q21) h') | _ => none) else (bif Nat.beq f 61 then (match args with | [.pointer p1] => F_bitio_Reader_Err p1 h (fun q8 h' => K (Value.int .i64 q8) h') | _ => none) else (bif Nat.beq f 64 then (match args with | [.pointer p1] => F_bitio_Reader_Bit p1 h (fun q4 h' => K (Value.int .u32 q4) h') | _ => none) else (bif Nat.beq f 50 then (match args with | [.int .i64 p1] => F_follow_Width p1 h (fun q4 h' => K (Value.int .i64 q4) h') | _ => none) else none))))
def HF_follow_Get : Hints := ⟨[], [], []⟩
noncomputable def G_follow_Get (F_follow_first : Sl → GH → (Sl → GH → Option β) → Option β) (F_bitio_Reader_Bits : Option Addr → Int → GH → (Int → GH → Option β) → Option β) (F_bitio_Reader_Err : Option Addr → GH → (Int → GH → Option β) → Option β) (F_bitio_Reader_Bit : Option Addr → GH → (Int → GH → Option β) → Option β) (F_follow_Width : Int → GH → (Int → GH → Option β) → Option β) (R : Nat) (a1 : Option Addr) (a2 : List Value) (a3 : Int) (h : GH) (K : Int → Int → GH → Option β) : Option β := gfun Try.prog (CF_follow_Get F_follow_first F_bitio_Reader_Bits F_bitio_Reader_Err F_bitio_Reader_Bit F_follow_Width) HF_follow_Get R Try.f32 [Value.pointer a1, Value.agg (a2).toArray, Value.int .u8 a3] h (fun v h' => exTup 2 v fun vs => exV (nth vs 0) fun v0 => exI .u8 (some v0) fun u32 => exV (nth vs 1) fun v1 => exI .i64 (some v1) fun u33 => K u32 u33 h')
set_option maxRecDepth 100000 in
theorem F_follow_Get_gen (F_follow_first : Sl → GH → (Sl → GH → Option β) → Option β) (F_bitio_Reader_Bits : Option Addr → Int → GH → (Int → GH → Option β) → Option β) (F_bitio_Reader_Err : Option Addr → GH → (Int → GH → Option β) → Option β) (F_bitio_Reader_Bit : Option Addr → GH → (Int → GH → Option β) → Option β) (F_follow_Width : Int → GH → (Int → GH → Option β) → Option β) (R : Nat) (a1 : Option Addr) (a2 : List Value) (a3 : Int) (h : GH) (K : Int → Int → GH → Option β) : G_follow_Get F_follow_first F_bitio_Reader_Bits F_bitio_Reader_Err F_bitio_Reader_Bit F_follow_Width R a1 a2 a3 h K =
    gnew a2 0 h fun g4 h5 => within a3 256 (exS (h5.cell ⟨g4, 0 + a3.toNat * 1, none⟩) fun x6 => F_follow_first x6 h5 fun r7 h8 => (bif ((r7.n : Nat) : Int) == 0 then F_bitio_Reader_Bits a1 8 h8 fun r9 h10 => F_bitio_Reader_Err a1 h10 fun r11 h12 => K (IntKind.wrap .u8 r9) r11 h12 else F_bitio_Reader_Bit a1 h8 fun r13 h14 => (bif r13 == 1 then F_bitio_Reader_Bits a1 8 h14 fun r15 h16 => F_bitio_Reader_Err a1 h16 fun r17 h18 => K (IntKind.wrap .u8 r15) r17 h18 else F_follow_Width ((r7.n : Nat) : Int) h14 fun r19 h20 => F_bitio_Reader_Bits a1 r19 h20 fun r21 h22 => F_bitio_Reader_Err a1 h22 fun r23 h24 => (bif r23 != 0 then F_bitio_Reader_Err a1 h24 fun r25 h26 => K 0 r25 h26 else (bif decide ((IntKind.wrap .i64 r21) ≥ ((r7.n : Nat) : Int)) then K 0 7 h24 else exA r7.a fun g27 o28 => within (IntKind.wrap .i64 r21) r7.n (exI .u8 (h24.cell ⟨g27, o28 + (IntKind.wrap .i64 r21).toNat * 1, none⟩) fun x29 => K x29 0 h24)))))) := by kernel_rfl
noncomputable def F_follow_Get (R : Nat) (a1 : Option Addr) (a2 : List Value) (a3 : Int) (h : GH) (K : Int → Int → GH → Option β) : Option β := G_follow_Get (F_follow_first R) (F_bitio_Reader_Bits R) (F_bitio_Reader_Err R) (F_bitio_Reader_Bit R) (F_follow_Width R) R a1 a2 a3 h K
set_option maxRecDepth 100000 in
theorem CF_follow_Get_sim {R : Nat} : SimOrc Try.prog (CF_follow_Get (F_follow_first R) (F_bitio_Reader_Bits R) (F_bitio_Reader_Err R) (F_bitio_Reader_Bit R) (F_follow_Width R) (β := β)) := by
  intro f args h K r hc
  unfold CF_follow_Get at hc
  cases hb : Nat.beq f 47 with
  | true =>
    rw [hb] at hc
    simp only [cond_true] at hc
    obtain rfl := Nat.eq_of_beq_eq_true hb
    split at hc
    · exact any_call (F_follow_first_sim (K := K) hc)
    · cases hc
  | false =>
  rw [hb] at hc
  simp only [cond_false] at hc
  cases hb : Nat.beq f 60 with
  | true =>
    rw [hb] at hc
    simp only [cond_true] at hc
    obtain rfl := Nat.eq_of_beq_eq_true hb
    split at hc
    · exact any_call (F_bitio_Reader_Bits_sim (K := K) hc)
    · cases hc
  | false =>
  rw [hb] at hc
  simp only [cond_false] at hc
  cases hb : Nat.beq f 61 with
  | true =>
    rw [hb] at hc
    simp only [cond_true] at hc
    obtain rfl := Nat.eq_of_beq_eq_true hb
    split at hc
    · exact any_call (F_bitio_Reader_Err_sim (K := K) hc)
    · cases hc
  | false =>
  rw [hb] at hc
  simp only [cond_false] at hc
  cases hb : Nat.beq f 64 with
  | true =>
    rw [hb] at hc
    simp only [cond_true] at hc
    obtain rfl := Nat.eq_of_beq_eq_true hb
    split at hc
    · exact any_call (F_bitio_Reader_Bit_sim (K := K) hc)
    · cases hc
  | false =>
  rw [hb] at hc
  simp only [cond_false] at hc
  cases hb : Nat.beq f 50 with
  | true =>
    rw [hb] at hc
    simp only [cond_true] at hc
    obtain rfl := Nat.eq_of_beq_eq_true hb
    split at hc
    · exact any_call (F_follow_Width_sim (K := K) hc)
    · cases hc
  | false =>
  rw [hb] at hc
  simp only [cond_false] at hc
  cases hc
set_option maxRecDepth 100000 in
theorem F_follow_Get_sim {R : Nat} {r : β} {a1 : Option Addr} {a2 : List Value} {a3 : Int} {h : GH} {K : Value → GH → Option β} (hc : F_follow_Get R a1 a2 a3 h (fun q0 q1 h' => K (Value.tuple #[Value.int .u8 q0, Value.int .i64 q1]) h') = some r) : ∃ v h', K v h' = some r ∧ CallSim Try.prog 32 [Value.pointer a1, Value.agg (a2).toArray, Value.int .u8 a3] h v h' := by
  unfold F_follow_Get G_follow_Get at hc
  obtain ⟨v, h', hk, hs⟩ := gfun_sim (CF_follow_Get_sim (R := R)) mixed_ok (fun f h => by cases h) Try.func32 (by kernel_rfl) hc
  obtain ⟨vs, rfl, hl, hk⟩ := exTup_v hk
  obtain ⟨v0, t0, hk⟩ := exV_v hk
  obtain ⟨u0, e0, hk⟩ := exI_v hk; cases e0
  obtain ⟨v1, t1, hk⟩ := exV_v hk
  obtain ⟨u1, e1, hk⟩ := exI_v hk; cases e1
  obtain rfl := arr2 hl t0 t1
  exact ⟨_, h', hk, hs⟩
/-! F66 (*duffel/hist.Out).Lit -/
def CF_hist_Out_Lit (F_hist_Out_ok : Option Addr → GH → (Bool → GH → Option β) → Option β) : Orc β := fun f args h K => bif Nat.beq f 85 then (match args with | [.pointer p1] => F_hist_Out_ok p1 h (fun q5 h' => K (Value.bool q5) h') | _ => none) else none
def HF_hist_Out_Lit : Hints := ⟨[], [], []⟩
noncomputable def G_hist_Out_Lit (F_hist_Out_ok : Option Addr → GH → (Bool → GH → Option β) → Option β) (R : Nat) (a1 : Option Addr) (a2 : Int) (h : GH) (K : Int → GH → Option β) : Option β := gfun Try.prog (CF_hist_Out_Lit F_hist_Out_ok) HF_hist_Out_Lit R Try.f66 [Value.pointer a1, Value.int .u8 a2] h (fun v h' => exI .i64 (some v) fun u22 => K u22 h')
set_option maxRecDepth 100000 in
theorem F_hist_Out_Lit_gen (F_hist_Out_ok : Option Addr → GH → (Bool → GH → Option β) → Option β) (R : Nat) (a1 : Option Addr) (a2 : Int) (h : GH) (K : Int → GH → Option β) : G_hist_Out_Lit F_hist_Out_ok R a1 a2 h K =
    F_hist_Out_ok a1 h fun r3 h4 => (bif !r3 then K 1 h4 else exA a1 fun g5 o6 => exS (h4.cell ⟨g5, o6 + 3, none⟩) fun x7 => exA a1 fun g8 o9 => exI .i64 (h4.cell ⟨g8, o9 + 1, none⟩) fun x10 => (bif ((x7.n : Nat) : Int) == x10 then K 9 h4 else exA a1 fun g11 o12 => exS (h4.cell ⟨g11, o12 + 3, none⟩) fun x13 => gnew [Value.int .u8 a2] 1 h4 fun g14 h15 => gappS 1 1 x13 ⟨(some ⟨g14, 0, none⟩), 1, 1⟩ h15 fun s16 h17 => exA a1 fun g18 o19 => gput g18 (o19 + 3) [Value.slice s16.a s16.n s16.c] h17 fun h20 => K 0 h20)) := by kernel_rfl
noncomputable def F_hist_Out_Lit (R : Nat) (a1 : Option Addr) (a2 : Int) (h : GH) (K : Int → GH → Option β) : Option β := G_hist_Out_Lit (F_hist_Out_ok R) R a1 a2 h K
set_option maxRecDepth 100000 in
theorem CF_hist_Out_Lit_sim {R : Nat} : SimOrc Try.prog (CF_hist_Out_Lit (F_hist_Out_ok R) (β := β)) := by
  intro f args h K r hc
  unfold CF_hist_Out_Lit at hc
  cases hb : Nat.beq f 85 with
  | true =>
    rw [hb] at hc
    simp only [cond_true] at hc
    obtain rfl := Nat.eq_of_beq_eq_true hb
    split at hc
    · exact any_call (F_hist_Out_ok_sim (K := K) hc)
    · cases hc
  | false =>
  rw [hb] at hc
  simp only [cond_false] at hc
  cases hc
set_option maxRecDepth 100000 in
theorem F_hist_Out_Lit_sim {R : Nat} {r : β} {a1 : Option Addr} {a2 : Int} {h : GH} {K : Value → GH → Option β} (hc : F_hist_Out_Lit R a1 a2 h (fun q0 h' => K (Value.int .i64 q0) h') = some r) : ∃ v h', K v h' = some r ∧ CallSim Try.prog 66 [Value.pointer a1, Value.int .u8 a2] h v h' := by
  unfold F_hist_Out_Lit G_hist_Out_Lit at hc
  obtain ⟨v, h', hk, hs⟩ := gfun_sim (CF_hist_Out_Lit_sim (R := R)) mixed_ok (fun f h => by cases h) Try.func66 (by kernel_rfl) hc
  obtain ⟨u0, e0, hk⟩ := exI_v hk; cases e0
  exact ⟨_, h', hk, hs⟩
/-! F43 duffel/dle.mask -/
def CF_dle_mask  : Orc β := fun f args h K => none
def HF_dle_mask : Hints := ⟨[], [], []⟩
noncomputable def G_dle_mask  (R : Nat) (a1 : Int) (h : GH) (K : Int → GH → Option β) : Option β := gfun Try.prog (CF_dle_mask ) HF_dle_mask R Try.f43 [Value.int .i64 a1] h (fun v h' => exI .i64 (some v) fun u3 => K u3 h')
set_option maxRecDepth 100000 in
theorem F_dle_mask_gen  (R : Nat) (a1 : Int) (h : GH) (K : Int → GH → Option β) : G_dle_mask  R a1 h K =
    (bif decide ((IntKind.wrap .i64 (8 - a1)) < 0) then none else K (IntKind.wrap .i64 ((shlI .i64 1 (IntKind.wrap .i64 (8 - a1))) - 1)) h) := by kernel_rfl
noncomputable def F_dle_mask (R : Nat) (a1 : Int) (h : GH) (K : Int → GH → Option β) : Option β := G_dle_mask  R a1 h K
theorem CF_dle_mask_sim : SimOrc Try.prog (CF_dle_mask (β := β)) := by
  intro f args h K r hc
  cases hc
set_option maxRecDepth 100000 in
theorem F_dle_mask_sim {R : Nat} {r : β} {a1 : Int} {h : GH} {K : Value → GH → Option β} (hc : F_dle_mask R a1 h (fun q0 h' => K (Value.int .i64 q0) h') = some r) : ∃ v h', K v h' = some r ∧ CallSim Try.prog 43 [Value.int .i64 a1] h v h' := by
  unfold F_dle_mask G_dle_mask at hc
  obtain ⟨v, h', hk, hs⟩ := gfun_sim CF_dle_mask_sim mixed_ok (fun f h => by cases h) Try.func43 (by kernel_rfl) hc
  obtain ⟨u0, e0, hk⟩ := exI_v hk; cases e0
  exact ⟨_, h', hk, hs⟩
/-! F67 (*duffel/dle.Machine).begin -/
def CF_dle_Machine_begin (F_hist_Out_Lit : Option Addr → Int → GH → (Int → GH → Option β) → Option β) (F_dle_mask : Int → GH → (Int → GH → Option β) → Option β) : Orc β := fun f args h K => bif Nat.beq f 66 then (match args with | [.pointer p1, .int .u8 p2] => F_hist_Out_Lit p1 p2 h (fun q21 h' => K (Value.int .i64 q21) h') | _ => none) else (bif Nat.beq f 43 then (match args with | [.int .i64 p1] => F_dle_mask p1 h (fun q2 h' => K (Value.int .i64 q2) h') | _ => none) else none)
def HF_dle_Machine_begin : Hints := ⟨[], [], []⟩
noncomputable def G_dle_Machine_begin (F_hist_Out_Lit : Option Addr → Int → GH → (Int → GH → Option β) → Option β) (F_dle_mask : Int → GH → (Int → GH → Option β) → Option β) (R : Nat) (a1 : Option Addr) (a2 : Int) (h : GH) (K : Int → GH → Option β) : Option β := gfun Try.prog (CF_dle_Machine_begin F_hist_Out_Lit F_dle_mask) HF_dle_Machine_begin R Try.f67 [Value.pointer a1, Value.int .u8 a2] h (fun v h' => exI .i64 (some v) fun u40 => K u40 h')
set_option maxRecDepth 100000 in
theorem F_dle_Machine_begin_gen (F_hist_Out_Lit : Option Addr → Int → GH → (Int → GH → Option β) → Option β) (F_dle_mask : Int → GH → (Int → GH → Option β) → Option β) (R : Nat) (a1 : Option Addr) (a2 : Int) (h : GH) (K : Int → GH → Option β) : G_dle_Machine_begin F_hist_Out_Lit F_dle_mask R a1 a2 h K =
    (bif a2 == 0 then exA a1 fun g3 o4 => exP (h.cell ⟨g3, o4 + 1, none⟩) fun x5 => F_hist_Out_Lit x5 144 h fun r6 h7 => (bif r6 != 0 then K r6 h7 else exA a1 fun g8 o9 => gput g8 (o9 + 2) [Value.int .i64 0] h7 fun h10 => K 0 h10) else exA a1 fun g11 o12 => gput g11 (o12 + 3) [Value.int .i64 (IntKind.wrap .i64 a2)] h fun h13 => exA a1 fun g14 o15 => exI .i64 (h13.cell ⟨g14, o15 + 3, none⟩) fun x16 => exA a1 fun g17 o18 => exI .i64 (h13.cell ⟨g17, o18 + 0, none⟩) fun x19 => F_dle_mask x19 h13 fun r20 h21 => exA a1 fun g22 o23 => gput g22 (o23 + 4) [Value.int .i64 (IntKind.wrap .i64 (BitVec.ofInt (IntKind.bits .i64) x16 &&& BitVec.ofInt (IntKind.bits .i64) r20).toNat)] h21 fun h24 => (bif sameAt g14 (o15 + 3) 1 h13 h21 then exA a1 fun g25 o26 => gput g25 (o26 + 2) [Value.int .i64 3] h24 fun h27 => exA a1 fun g28 o29 => exI .i64 (h27.cell ⟨g28, o29 + 4, none⟩) fun x30 => exA a1 fun g31 o32 => exI .i64 (h27.cell ⟨g31, o32 + 0, none⟩) fun x33 => F_dle_mask x33 h27 fun r34 h35 => (bif sameAt g28 (o29 + 4) 1 h27 h35 then (bif x30 == r34 then exA a1 fun g36 o37 => gput g36 (o37 + 2) [Value.int .i64 2] h35 fun h38 => K 0 h38 else K 0 h35) else none) else none)) := by kernel_rfl
noncomputable def F_dle_Machine_begin (R : Nat) (a1 : Option Addr) (a2 : Int) (h : GH) (K : Int → GH → Option β) : Option β := G_dle_Machine_begin (F_hist_Out_Lit R) (F_dle_mask R) R a1 a2 h K
set_option maxRecDepth 100000 in
theorem CF_dle_Machine_begin_sim {R : Nat} : SimOrc Try.prog (CF_dle_Machine_begin (F_hist_Out_Lit R) (F_dle_mask R) (β := β)) := by
  intro f args h K r hc
  unfold CF_dle_Machine_begin at hc
  cases hb : Nat.beq f 66 with
  | true =>
    rw [hb] at hc
    simp only [cond_true] at hc
    obtain rfl := Nat.eq_of_beq_eq_true hb
    split at hc
    · exact any_call (F_hist_Out_Lit_sim (K := K) hc)
    · cases hc
  | false =>
  rw [hb] at hc
  simp only [cond_false] at hc
  cases hb : Nat.beq f 43 with
  | true =>
    rw [hb] at hc
    simp only [cond_true] at hc
    obtain rfl := Nat.eq_of_beq_eq_true hb
    split at hc
    · exact any_call (F_dle_mask_sim (K := K) hc)
    · cases hc
  | false =>
  rw [hb] at hc
  simp only [cond_false] at hc
  cases hc
set_option maxRecDepth 100000 in
theorem F_dle_Machine_begin_sim {R : Nat} {r : β} {a1 : Option Addr} {a2 : Int} {h : GH} {K : Value → GH → Option β} (hc : F_dle_Machine_begin R a1 a2 h (fun q0 h' => K (Value.int .i64 q0) h') = some r) : ∃ v h', K v h' = some r ∧ CallSim Try.prog 67 [Value.pointer a1, Value.int .u8 a2] h v h' := by
  unfold F_dle_Machine_begin G_dle_Machine_begin at hc
  obtain ⟨v, h', hk, hs⟩ := gfun_sim (CF_dle_Machine_begin_sim (R := R)) mixed_ok (fun f h => by cases h) Try.func67 (by kernel_rfl) hc
  obtain ⟨u0, e0, hk⟩ := exI_v hk; cases e0
  exact ⟨_, h', hk, hs⟩
/-! F68 (*duffel/hist.Out).Copy -/
def CF_hist_Out_Copy (F_hist_Out_ok : Option Addr → GH → (Bool → GH → Option β) → Option β) : Orc β := fun f args h K => bif Nat.beq f 85 then (match args with | [.pointer p1] => F_hist_Out_ok p1 h (fun q5 h' => K (Value.bool q5) h') | _ => none) else none
def HF_hist_Out_Copy : Hints := ⟨[(9, [0, 1, 2], [(1, [(0, .ty 105), (1, .ty 3), (2, .ty 3)])], none), (12, [0, 1, 2], [(3, [])], none)], [], []⟩
noncomputable def BF_hist_Out_Copy : Code := match Try.f68.body with | some c => c | none => .skip
noncomputable def F_hist_Out_Copy_l0 (F_hist_Out_ok : Option Addr → GH → (Bool → GH → Option β) → Option β) (R : Nat) (n : Nat) (y21 : Option Addr) (y22 : Int) (y23 : Int) (h : GH) (K1 : Option Addr → Int → Int → GH → Option β) : Option β := gloop (gcode Try.prog (CF_hist_Out_Copy F_hist_Out_ok) Try.f68.ntmps HF_hist_Out_Copy R (at_ [true, true, false, false, false] BF_hist_Out_Copy)) [0, 1, 2] n [(0, Value.pointer y21), (1, Value.int .i64 y22), (2, Value.int .i64 y23)] h (fun i e' h' => bif Nat.beq i 1 then (exP (some (e'.get 0)) fun u76 => exI .i64 (some (e'.get 1)) fun u77 => exI .i64 (some (e'.get 2)) fun u78 => K1 u76 u77 u78 h') else none) (fun e' h' => none)
noncomputable def F_hist_Out_Copy_l1 (F_hist_Out_ok : Option Addr → GH → (Bool → GH → Option β) → Option β) (R : Nat) (n : Nat) (y44 : Option Addr) (y45 : Int) (y46 : Int) (h : GH) (K3 : GH → Option β) : Option β := gloop (gcode Try.prog (CF_hist_Out_Copy F_hist_Out_ok) Try.f68.ntmps HF_hist_Out_Copy R (at_ [true, true, true, false, false, false] BF_hist_Out_Copy)) [0, 1, 2] n [(0, Value.pointer y44), (1, Value.int .i64 y45), (2, Value.int .i64 y46)] h (fun i e' h' => bif Nat.beq i 3 then (K3 h') else none) (fun e' h' => none)
set_option maxRecDepth 100000 in
theorem F_hist_Out_Copy_l1_succ (F_hist_Out_ok : Option Addr → GH → (Bool → GH → Option β) → Option β) (R : Nat) (n : Nat) (y44 : Option Addr) (y45 : Int) (y46 : Int) (h : GH) (K3 : GH → Option β) : F_hist_Out_Copy_l1 F_hist_Out_ok R (n + 1) y44 y45 y46 h K3 =
    (bif decide (y46 > 0) then exA y44 fun g47 o48 => exS (h.cell ⟨g47, o48 + 3, none⟩) fun x49 => exA y44 fun g50 o51 => exS (h.cell ⟨g50, o51 + 3, none⟩) fun x52 => exA y44 fun g53 o54 => exS (h.cell ⟨g53, o54 + 3, none⟩) fun x55 => bnd (IntKind.wrap .i64 ((IntKind.wrap .i64 (((x49.n : Nat) : Int) - y45)) + (if y45 < y46 then y45 else y46))) x55.c fun m56 => bnd (IntKind.wrap .i64 (((x49.n : Nat) : Int) - y45)) m56 fun m57 => gappS 1 1 x52 ⟨addO x55.a (m57 * 1), m56 - m57, x55.c - m57⟩ h fun s58 h59 => exA y44 fun g60 o61 => gput g60 (o61 + 3) [Value.slice s58.a s58.n s58.c] h59 fun h62 => F_hist_Out_Copy_l1 F_hist_Out_ok R n y44 y45 (IntKind.wrap .i64 (y46 - (if y45 < y46 then y45 else y46))) h62 K3 else K3 h) := by kernel_rfl
set_option maxRecDepth 100000 in
theorem F_hist_Out_Copy_l0_succ (F_hist_Out_ok : Option Addr → GH → (Bool → GH → Option β) → Option β) (R : Nat) (n : Nat) (y21 : Option Addr) (y22 : Int) (y23 : Int) (h : GH) (K1 : Option Addr → Int → Int → GH → Option β) : F_hist_Out_Copy_l0 F_hist_Out_ok R (n + 1) y21 y22 y23 h K1 =
    (bif decide (y23 > 0) then exA y21 fun g27 o28 => exS (h.cell ⟨g27, o28 + 3, none⟩) fun x29 => (bif decide (y22 > ((x29.n : Nat) : Int)) then exA y21 fun g30 o31 => exS (h.cell ⟨g30, o31 + 3, none⟩) fun x32 => gnew [Value.int .u8 0] 1 h fun g33 h34 => gappS 1 1 x32 ⟨(some ⟨g33, 0, none⟩), 1, 1⟩ h34 fun s35 h36 => exA y21 fun g37 o38 => gput g37 (o38 + 3) [Value.slice s35.a s35.n s35.c] h36 fun h39 => F_hist_Out_Copy_l0 F_hist_Out_ok R n y21 y22 (IntKind.wrap .i64 (y23 - 1)) h39 K1 else K1 y21 y22 y23 h) else K1 y21 y22 y23 h) := by kernel_rfl
noncomputable def G_hist_Out_Copy (F_hist_Out_ok : Option Addr → GH → (Bool → GH → Option β) → Option β) (R : Nat) (a1 : Option Addr) (a2 : Int) (a3 : Int) (h : GH) (K : Int → GH → Option β) : Option β := gfun Try.prog (CF_hist_Out_Copy F_hist_Out_ok) HF_hist_Out_Copy R Try.f68 [Value.pointer a1, Value.int .i64 a2, Value.int .i64 a3] h (fun v h' => exI .i64 (some v) fun u79 => K u79 h')
set_option maxRecDepth 100000 in
theorem F_hist_Out_Copy_gen (F_hist_Out_ok : Option Addr → GH → (Bool → GH → Option β) → Option β) (R : Nat) (a1 : Option Addr) (a2 : Int) (a3 : Int) (h : GH) (K : Int → GH → Option β) : G_hist_Out_Copy F_hist_Out_ok R a1 a2 a3 h K =
    F_hist_Out_ok a1 h fun r4 h5 => (bif !r4 then K 1 h5 else (bif decide (a2 < 1) then K 2 h5 else (bif decide (a3 < 0) then K 2 h5 else exA a1 fun g6 o7 => exI .i64 (h5.cell ⟨g6, o7 + 0, none⟩) fun x8 => (bif decide (a2 > x8) then K 8 h5 else exA a1 fun g9 o10 => exS (h5.cell ⟨g9, o10 + 3, none⟩) fun x11 => (bif decide (a2 > ((x11.n : Nat) : Int)) then exA a1 fun g12 o13 => exB (h5.cell ⟨g12, o13 + 2, none⟩) fun x14 => (bif !x14 then K 8 h5 else exA a1 fun g15 o16 => exI .i64 (h5.cell ⟨g15, o16 + 1, none⟩) fun x17 => exA a1 fun g18 o19 => exS (h5.cell ⟨g18, o19 + 3, none⟩) fun x20 => (bif decide (a3 > (IntKind.wrap .i64 (x17 - ((x20.n : Nat) : Int)))) then K 9 h5 else F_hist_Out_Copy_l0 F_hist_Out_ok R R a1 a2 a3 h5 (fun w40 w41 w42 h43 => F_hist_Out_Copy_l1 F_hist_Out_ok R R w40 w41 w42 h43 (fun h63 => K 0 h63)))) else exA a1 fun g64 o65 => exI .i64 (h5.cell ⟨g64, o65 + 1, none⟩) fun x66 => exA a1 fun g67 o68 => exS (h5.cell ⟨g67, o68 + 3, none⟩) fun x69 => (bif decide (a3 > (IntKind.wrap .i64 (x66 - ((x69.n : Nat) : Int)))) then K 9 h5 else F_hist_Out_Copy_l0 F_hist_Out_ok R R a1 a2 a3 h5 (fun w70 w71 w72 h73 => F_hist_Out_Copy_l1 F_hist_Out_ok R R w70 w71 w72 h73 (fun h74 => K 0 h74)))))))) := by kernel_rfl
noncomputable def F_hist_Out_Copy (R : Nat) (a1 : Option Addr) (a2 : Int) (a3 : Int) (h : GH) (K : Int → GH → Option β) : Option β := G_hist_Out_Copy (F_hist_Out_ok R) R a1 a2 a3 h K
set_option maxRecDepth 100000 in
theorem CF_hist_Out_Copy_sim {R : Nat} : SimOrc Try.prog (CF_hist_Out_Copy (F_hist_Out_ok R) (β := β)) := by
  intro f args h K r hc
  unfold CF_hist_Out_Copy at hc
  cases hb : Nat.beq f 85 with
  | true =>
    rw [hb] at hc
    simp only [cond_true] at hc
    obtain rfl := Nat.eq_of_beq_eq_true hb
    split at hc
    · exact any_call (F_hist_Out_ok_sim (K := K) hc)
    · cases hc
  | false =>
  rw [hb] at hc
  simp only [cond_false] at hc
  cases hc
set_option maxRecDepth 100000 in
theorem F_hist_Out_Copy_sim {R : Nat} {r : β} {a1 : Option Addr} {a2 : Int} {a3 : Int} {h : GH} {K : Value → GH → Option β} (hc : F_hist_Out_Copy R a1 a2 a3 h (fun q0 h' => K (Value.int .i64 q0) h') = some r) : ∃ v h', K v h' = some r ∧ CallSim Try.prog 68 [Value.pointer a1, Value.int .i64 a2, Value.int .i64 a3] h v h' := by
  unfold F_hist_Out_Copy G_hist_Out_Copy at hc
  obtain ⟨v, h', hk, hs⟩ := gfun_sim (CF_hist_Out_Copy_sim (R := R)) mixed_ok (fun f h => by cases h) Try.func68 (by kernel_rfl) hc
  obtain ⟨u0, e0, hk⟩ := exI_v hk; cases e0
  exact ⟨_, h', hk, hs⟩
/-! F33 (*duffel/dle.Machine).Feed -/
def CF_dle_Machine_Feed (F_dle_Machine_ok : Option Addr → GH → (Bool → GH → Option β) → Option β) (F_dle_Machine_Full : Option Addr → GH → (Bool → GH → Option β) → Option β) (F_hist_Out_Lit : Option Addr → Int → GH → (Int → GH → Option β) → Option β) (F_dle_Machine_begin : Option Addr → Int → GH → (Int → GH → Option β) → Option β) (F_hist_Out_Copy : Option Addr → Int → Int → GH → (Int → GH → Option β) → Option β) : Orc β := fun f args h K => bif Nat.beq f 65 then (match args with | [.pointer p1] => F_dle_Machine_ok p1 h (fun q5 h' => K (Value.bool q5) h') | _ => none) else (bif Nat.beq f 31 then (match args with | [.pointer p1] => F_dle_Machine_Full p1 h (fun q9 h' => K (Value.bool q9) h') | _ => none) else (bif Nat.beq f 66 then (match args with | [.pointer p1, .int .u8 p2] => F_hist_Out_Lit p1 p2 h (fun q21 h' => K (Value.int .i64 q21) h') | _ => none) else (bif Nat.beq f 67 then (match args with | [.pointer p1, .int .u8 p2] => F_dle_Machine_begin p1 p2 h (fun q39 h' => K (Value.int .i64 q39) h') | _ => none) else (bif Nat.beq f 68 then (match args with | [.pointer p1, .int .i64 p2, .int .i64 p3] => F_hist_Out_Copy p1 p2 p3 h (fun q75 h' => K (Value.int .i64 q75) h') | _ => none) else none))))
def HF_dle_Machine_Feed : Hints := ⟨[], [], []⟩
noncomputable def G_dle_Machine_Feed (F_dle_Machine_ok : Option Addr → GH → (Bool → GH → Option β) → Option β) (F_dle_Machine_Full : Option Addr → GH → (Bool → GH → Option β) → Option β) (F_hist_Out_Lit : Option Addr → Int → GH → (Int → GH → Option β) → Option β) (F_dle_Machine_begin : Option Addr → Int → GH → (Int → GH → Option β) → Option β) (F_hist_Out_Copy : Option Addr → Int → Int → GH → (Int → GH → Option β) → Option β) (R : Nat) (a1 : Option Addr) (a2 : Int) (h : GH) (K : Int → GH → Option β) : Option β := gfun Try.prog (CF_dle_Machine_Feed F_dle_Machine_ok F_dle_Machine_Full F_hist_Out_Lit F_dle_Machine_begin F_hist_Out_Copy) HF_dle_Machine_Feed R Try.f33 [Value.pointer a1, Value.int .u8 a2] h (fun v h' => exI .i64 (some v) fun u47 => K u47 h')
set_option maxRecDepth 100000 in
theorem F_dle_Machine_Feed_gen (F_dle_Machine_ok : Option Addr → GH → (Bool → GH → Option β) → Option β) (F_dle_Machine_Full : Option Addr → GH → (Bool → GH → Option β) → Option β) (F_hist_Out_Lit : Option Addr → Int → GH → (Int → GH → Option β) → Option β) (F_dle_Machine_begin : Option Addr → Int → GH → (Int → GH → Option β) → Option β) (F_hist_Out_Copy : Option Addr → Int → Int → GH → (Int → GH → Option β) → Option β) (R : Nat) (a1 : Option Addr) (a2 : Int) (h : GH) (K : Int → GH → Option β) : G_dle_Machine_Feed F_dle_Machine_ok F_dle_Machine_Full F_hist_Out_Lit F_dle_Machine_begin F_hist_Out_Copy R a1 a2 h K =
    F_dle_Machine_ok a1 h fun r3 h4 => (bif !r3 then K 1 h4 else F_dle_Machine_Full a1 h4 fun r5 h6 => (bif r5 then K 9 h6 else exA a1 fun g7 o8 => exI .i64 (h6.cell ⟨g7, o8 + 2, none⟩) fun x9 => (bif x9 == 0 then (bif a2 != 144 then exA a1 fun g10 o11 => exP (h6.cell ⟨g10, o11 + 1, none⟩) fun x12 => F_hist_Out_Lit x12 a2 h6 fun r13 h14 => K r13 h14 else exA a1 fun g15 o16 => gput g15 (o16 + 2) [Value.int .i64 1] h6 fun h17 => K 0 h17) else (bif x9 == 1 then F_dle_Machine_begin a1 a2 h6 fun r18 h19 => K r18 h19 else (bif x9 == 2 then exA a1 fun g20 o21 => exI .i64 (h6.cell ⟨g20, o21 + 4, none⟩) fun x22 => exA a1 fun g23 o24 => gput g23 (o24 + 4) [Value.int .i64 (IntKind.wrap .i64 (x22 + (IntKind.wrap .i64 a2)))] h6 fun h25 => exA a1 fun g26 o27 => gput g26 (o27 + 2) [Value.int .i64 3] h25 fun h28 => K 0 h28 else (bif x9 == 3 then exA a1 fun g29 o30 => exP (h6.cell ⟨g29, o30 + 1, none⟩) fun x31 => exA a1 fun g32 o33 => exI .i64 (h6.cell ⟨g32, o33 + 3, none⟩) fun x34 => exA a1 fun g35 o36 => exI .i64 (h6.cell ⟨g35, o36 + 0, none⟩) fun x37 => (bif decide ((IntKind.wrap .i64 (8 - x37)) < 0) then none else exA a1 fun g38 o39 => exI .i64 (h6.cell ⟨g38, o39 + 4, none⟩) fun x40 => F_hist_Out_Copy x31 (IntKind.wrap .i64 ((IntKind.wrap .i64 ((shlI .i64 (shrI .i64 x34 (IntKind.wrap .i64 (8 - x37))) 8) + (IntKind.wrap .i64 a2))) + 1)) (IntKind.wrap .i64 (x40 + 3)) h6 fun r41 h42 => (bif r41 != 0 then K r41 h42 else exA a1 fun g43 o44 => gput g43 (o44 + 2) [Value.int .i64 0] h42 fun h45 => K 0 h45)) else K 0 h6)))))) := by kernel_rfl
noncomputable def F_dle_Machine_Feed (R : Nat) (a1 : Option Addr) (a2 : Int) (h : GH) (K : Int → GH → Option β) : Option β := G_dle_Machine_Feed (F_dle_Machine_ok R) (F_dle_Machine_Full R) (F_hist_Out_Lit R) (F_dle_Machine_begin R) (F_hist_Out_Copy R) R a1 a2 h K
set_option maxRecDepth 100000 in
theorem CF_dle_Machine_Feed_sim {R : Nat} : SimOrc Try.prog (CF_dle_Machine_Feed (F_dle_Machine_ok R) (F_dle_Machine_Full R) (F_hist_Out_Lit R) (F_dle_Machine_begin R) (F_hist_Out_Copy R) (β := β)) := by
  intro f args h K r hc
  unfold CF_dle_Machine_Feed at hc
  cases hb : Nat.beq f 65 with
  | true =>
    rw [hb] at hc
    simp only [cond_true] at hc
    obtain rfl := Nat.eq_of_beq_eq_true hb
    split at hc
    · exact any_call (F_dle_Machine_ok_sim (K := K) hc)
    · cases hc
  | false =>
  rw [hb] at hc
  simp only [cond_false] at hc
  cases hb : Nat.beq f 31 with
  | true =>
    rw [hb] at hc
    simp only [cond_true] at hc
    obtain rfl := Nat.eq_of_beq_eq_true hb
    split at hc
    · exact any_call (F_dle_Machine_Full_sim (K := K) hc)
    · cases hc
  | false =>
  rw [hb] at hc
  simp only [cond_false] at hc
  cases hb : Nat.beq f 66 with
  | true =>
    rw [hb] at hc
    simp only [cond_true] at hc
    obtain rfl := Nat.eq_of_beq_eq_true hb
    split at hc
    · exact any_call (F_hist_Out_Lit_sim (K := K) hc)
    · cases hc
  | false =>
  rw [hb] at hc
  simp only [cond_false] at hc
  cases hb : Nat.beq f 67 with
  | true =>
    rw [hb] at hc
    simp only [cond_true] at hc
    obtain rfl := Nat.eq_of_beq_eq_true hb
    split at hc
    · exact any_call (F_dle_Machine_begin_sim (K := K) hc)
    · cases hc
  | false =>
  rw [hb] at hc
  simp only [cond_false] at hc
  cases hb : Nat.beq f 68 with
  | true =>
    rw [hb] at hc
    simp only [cond_true] at hc
    obtain rfl := Nat.eq_of_beq_eq_true hb
    split at hc
    · exact any_call (F_hist_Out_Copy_sim (K := K) hc)
    · cases hc
  | false =>
  rw [hb] at hc
  simp only [cond_false] at hc
  cases hc
set_option maxRecDepth 100000 in
theorem F_dle_Machine_Feed_sim {R : Nat} {r : β} {a1 : Option Addr} {a2 : Int} {h : GH} {K : Value → GH → Option β} (hc : F_dle_Machine_Feed R a1 a2 h (fun q0 h' => K (Value.int .i64 q0) h') = some r) : ∃ v h', K v h' = some r ∧ CallSim Try.prog 33 [Value.pointer a1, Value.int .u8 a2] h v h' := by
  unfold F_dle_Machine_Feed G_dle_Machine_Feed at hc
  obtain ⟨v, h', hk, hs⟩ := gfun_sim (CF_dle_Machine_Feed_sim (R := R)) mixed_ok (fun f h => by cases h) Try.func33 (by kernel_rfl) hc
  obtain ⟨u0, e0, hk⟩ := exI_v hk; cases e0
  exact ⟨_, h', hk, hs⟩
/-! F34 (*duffel/bitio.Reader).Left -/
def CF_bitio_Reader_Left (F_bitio_Reader_Err : Option Addr → GH → (Int → GH → Option β) → Option β) : Orc β := fun f args h K => bif Nat.beq f 61 then (match args with | [.pointer p1] => F_bitio_Reader_Err p1 h (fun q8 h' => K (Value.int .i64 q8) h') | _ => none) else none
def HF_bitio_Reader_Left : Hints := ⟨[], [], []⟩
noncomputable def G_bitio_Reader_Left (F_bitio_Reader_Err : Option Addr → GH → (Int → GH → Option β) → Option β) (R : Nat) (a1 : Option Addr) (h : GH) (K : Int → GH → Option β) : Option β := gfun Try.prog (CF_bitio_Reader_Left F_bitio_Reader_Err) HF_bitio_Reader_Left R Try.f34 [Value.pointer a1] h (fun v h' => exI .i64 (some v) fun u14 => K u14 h')
set_option maxRecDepth 100000 in
theorem F_bitio_Reader_Left_gen (F_bitio_Reader_Err : Option Addr → GH → (Int → GH → Option β) → Option β) (R : Nat) (a1 : Option Addr) (h : GH) (K : Int → GH → Option β) : G_bitio_Reader_Left F_bitio_Reader_Err R a1 h K =
    F_bitio_Reader_Err a1 h fun r2 h3 => (bif r2 != 0 then K 0 h3 else exA a1 fun g4 o5 => exI .i64 (h3.cell ⟨g4, o5 + 3, none⟩) fun x6 => exA a1 fun g7 o8 => exS (h3.cell ⟨g7, o8 + 0, none⟩) fun x9 => exA a1 fun g10 o11 => exI .i64 (h3.cell ⟨g10, o11 + 1, none⟩) fun x12 => K (IntKind.wrap .i64 (x6 + (IntKind.wrap .i64 (8 * (IntKind.wrap .i64 (((x9.n : Nat) : Int) - x12)))))) h3) := by kernel_rfl
noncomputable def F_bitio_Reader_Left (R : Nat) (a1 : Option Addr) (h : GH) (K : Int → GH → Option β) : Option β := G_bitio_Reader_Left (F_bitio_Reader_Err R) R a1 h K
set_option maxRecDepth 100000 in
theorem CF_bitio_Reader_Left_sim {R : Nat} : SimOrc Try.prog (CF_bitio_Reader_Left (F_bitio_Reader_Err R) (β := β)) := by
  intro f args h K r hc
  unfold CF_bitio_Reader_Left at hc
  cases hb : Nat.beq f 61 with
  | true =>
    rw [hb] at hc
    simp only [cond_true] at hc
    obtain rfl := Nat.eq_of_beq_eq_true hb
    split at hc
    · exact any_call (F_bitio_Reader_Err_sim (K := K) hc)
    · cases hc
  | false =>
  rw [hb] at hc
  simp only [cond_false] at hc
  cases hc
set_option maxRecDepth 100000 in
theorem F_bitio_Reader_Left_sim {R : Nat} {r : β} {a1 : Option Addr} {h : GH} {K : Value → GH → Option β} (hc : F_bitio_Reader_Left R a1 h (fun q0 h' => K (Value.int .i64 q0) h') = some r) : ∃ v h', K v h' = some r ∧ CallSim Try.prog 34 [Value.pointer a1] h v h' := by
  unfold F_bitio_Reader_Left G_bitio_Reader_Left at hc
  obtain ⟨v, h', hk, hs⟩ := gfun_sim (CF_bitio_Reader_Left_sim (R := R)) mixed_ok (fun f h => by cases h) Try.func34 (by kernel_rfl) hc
  obtain ⟨u0, e0, hk⟩ := exI_v hk; cases e0
  exact ⟨_, h', hk, hs⟩
/-! F69 (*duffel/hist.Out).Bytes -/
def CF_hist_Out_Bytes (F_hist_Out_ok : Option Addr → GH → (Bool → GH → Option β) → Option β) (F_bytes_Clone : Sl → GH → (Sl → GH → Option β) → Option β) : Orc β := fun f args h K => bif Nat.beq f 85 then (match args with | [.pointer p1] => F_hist_Out_ok p1 h (fun q5 h' => K (Value.bool q5) h') | _ => none) else (bif Nat.beq f 51 then (match args with | [.slice p1a p1n p1c] => F_bytes_Clone ⟨p1a, p1n, p1c⟩ h (fun q6 h' => K (Value.slice q6.a q6.n q6.c) h') | _ => none) else none)
def HF_hist_Out_Bytes : Hints := ⟨[], [], []⟩
noncomputable def G_hist_Out_Bytes (F_hist_Out_ok : Option Addr → GH → (Bool → GH → Option β) → Option β) (F_bytes_Clone : Sl → GH → (Sl → GH → Option β) → Option β) (R : Nat) (a1 : Option Addr) (h : GH) (K : Sl → GH → Option β) : Option β := gfun Try.prog (CF_hist_Out_Bytes F_hist_Out_ok F_bytes_Clone) HF_hist_Out_Bytes R Try.f69 [Value.pointer a1] h (fun v h' => exS (some v) fun u10 => K u10 h')
set_option maxRecDepth 100000 in
theorem F_hist_Out_Bytes_gen (F_hist_Out_ok : Option Addr → GH → (Bool → GH → Option β) → Option β) (F_bytes_Clone : Sl → GH → (Sl → GH → Option β) → Option β) (R : Nat) (a1 : Option Addr) (h : GH) (K : Sl → GH → Option β) : G_hist_Out_Bytes F_hist_Out_ok F_bytes_Clone R a1 h K =
    F_hist_Out_ok a1 h fun r2 h3 => (bif !r2 then K ⟨none, 0, 0⟩ h3 else exA a1 fun g4 o5 => exS (h3.cell ⟨g4, o5 + 3, none⟩) fun x6 => F_bytes_Clone x6 h3 fun r7 h8 => K r7 h8) := by kernel_rfl
noncomputable def F_hist_Out_Bytes (R : Nat) (a1 : Option Addr) (h : GH) (K : Sl → GH → Option β) : Option β := G_hist_Out_Bytes (F_hist_Out_ok R) (F_bytes_Clone R) R a1 h K
set_option maxRecDepth 100000 in
theorem CF_hist_Out_Bytes_sim {R : Nat} : SimOrc Try.prog (CF_hist_Out_Bytes (F_hist_Out_ok R) (F_bytes_Clone R) (β := β)) := by
  intro f args h K r hc
  unfold CF_hist_Out_Bytes at hc
  cases hb : Nat.beq f 85 with
  | true =>
    rw [hb] at hc
    simp only [cond_true] at hc
    obtain rfl := Nat.eq_of_beq_eq_true hb
    split at hc
    · exact any_call (F_hist_Out_ok_sim (K := K) hc)
    · cases hc
  | false =>
  rw [hb] at hc
  simp only [cond_false] at hc
  cases hb : Nat.beq f 51 with
  | true =>
    rw [hb] at hc
    simp only [cond_true] at hc
    obtain rfl := Nat.eq_of_beq_eq_true hb
    split at hc
    · exact any_call (F_bytes_Clone_sim (K := K) hc)
    · cases hc
  | false =>
  rw [hb] at hc
  simp only [cond_false] at hc
  cases hc
set_option maxRecDepth 100000 in
theorem F_hist_Out_Bytes_sim {R : Nat} {r : β} {a1 : Option Addr} {h : GH} {K : Value → GH → Option β} (hc : F_hist_Out_Bytes R a1 h (fun q0 h' => K (Value.slice q0.a q0.n q0.c) h') = some r) : ∃ v h', K v h' = some r ∧ CallSim Try.prog 69 [Value.pointer a1] h v h' := by
  unfold F_hist_Out_Bytes G_hist_Out_Bytes at hc
  obtain ⟨v, h', hk, hs⟩ := gfun_sim (CF_hist_Out_Bytes_sim (R := R)) mixed_ok (fun f h => by cases h) Try.func69 (by kernel_rfl) hc
  obtain ⟨u0, e0, hk⟩ := exS_v hk; cases e0
  exact ⟨_, h', hk, hs⟩
/-! F35 (*duffel/dle.Machine).Bytes -/
def CF_dle_Machine_Bytes (F_dle_Machine_ok : Option Addr → GH → (Bool → GH → Option β) → Option β) (F_hist_Out_Bytes : Option Addr → GH → (Sl → GH → Option β) → Option β) : Orc β := fun f args h K => bif Nat.beq f 65 then (match args with | [.pointer p1] => F_dle_Machine_ok p1 h (fun q5 h' => K (Value.bool q5) h') | _ => none) else (bif Nat.beq f 69 then (match args with | [.pointer p1] => F_hist_Out_Bytes p1 h (fun q9 h' => K (Value.slice q9.a q9.n q9.c) h') | _ => none) else none)
def HF_dle_Machine_Bytes : Hints := ⟨[], [], []⟩
noncomputable def G_dle_Machine_Bytes (F_dle_Machine_ok : Option Addr → GH → (Bool → GH → Option β) → Option β) (F_hist_Out_Bytes : Option Addr → GH → (Sl → GH → Option β) → Option β) (R : Nat) (a1 : Option Addr) (h : GH) (K : Sl → GH → Option β) : Option β := gfun Try.prog (CF_dle_Machine_Bytes F_dle_Machine_ok F_hist_Out_Bytes) HF_dle_Machine_Bytes R Try.f35 [Value.pointer a1] h (fun v h' => exS (some v) fun u10 => K u10 h')
set_option maxRecDepth 100000 in
theorem F_dle_Machine_Bytes_gen (F_dle_Machine_ok : Option Addr → GH → (Bool → GH → Option β) → Option β) (F_hist_Out_Bytes : Option Addr → GH → (Sl → GH → Option β) → Option β) (R : Nat) (a1 : Option Addr) (h : GH) (K : Sl → GH → Option β) : G_dle_Machine_Bytes F_dle_Machine_ok F_hist_Out_Bytes R a1 h K =
    F_dle_Machine_ok a1 h fun r2 h3 => (bif !r2 then K ⟨none, 0, 0⟩ h3 else exA a1 fun g4 o5 => exP (h3.cell ⟨g4, o5 + 1, none⟩) fun x6 => F_hist_Out_Bytes x6 h3 fun r7 h8 => K r7 h8) := by kernel_rfl
noncomputable def F_dle_Machine_Bytes (R : Nat) (a1 : Option Addr) (h : GH) (K : Sl → GH → Option β) : Option β := G_dle_Machine_Bytes (F_dle_Machine_ok R) (F_hist_Out_Bytes R) R a1 h K
set_option maxRecDepth 100000 in
theorem CF_dle_Machine_Bytes_sim {R : Nat} : SimOrc Try.prog (CF_dle_Machine_Bytes (F_dle_Machine_ok R) (F_hist_Out_Bytes R) (β := β)) := by
  intro f args h K r hc
  unfold CF_dle_Machine_Bytes at hc
  cases hb : Nat.beq f 65 with
  | true =>
    rw [hb] at hc
    simp only [cond_true] at hc
    obtain rfl := Nat.eq_of_beq_eq_true hb
    split at hc
    · exact any_call (F_dle_Machine_ok_sim (K := K) hc)
    · cases hc
  | false =>
  rw [hb] at hc
  simp only [cond_false] at hc
  cases hb : Nat.beq f 69 with
  | true =>
    rw [hb] at hc
    simp only [cond_true] at hc
    obtain rfl := Nat.eq_of_beq_eq_true hb
    split at hc
    · exact any_call (F_hist_Out_Bytes_sim (K := K) hc)
    · cases hc
  | false =>
  rw [hb] at hc
  simp only [cond_false] at hc
  cases hc
set_option maxRecDepth 100000 in
theorem F_dle_Machine_Bytes_sim {R : Nat} {r : β} {a1 : Option Addr} {h : GH} {K : Value → GH → Option β} (hc : F_dle_Machine_Bytes R a1 h (fun q0 h' => K (Value.slice q0.a q0.n q0.c) h') = some r) : ∃ v h', K v h' = some r ∧ CallSim Try.prog 35 [Value.pointer a1] h v h' := by
  unfold F_dle_Machine_Bytes G_dle_Machine_Bytes at hc
  obtain ⟨v, h', hk, hs⟩ := gfun_sim (CF_dle_Machine_Bytes_sim (R := R)) mixed_ok (fun f h => by cases h) Try.func35 (by kernel_rfl) hc
  obtain ⟨u0, e0, hk⟩ := exS_v hk; cases e0
  exact ⟨_, h', hk, hs⟩
/-! F14 duffel/reduce.Decode -/
def CF_reduce_Decode (F_dle_New : Int → Int → GH → (Option Addr → Int → GH → Option β) → Option β) (F_bitio_Open : Sl → GH → (Option Addr → GH → Option β) → Option β) (F_follow_GetSets : Option Addr → GH → (List Value → Int → GH → Option β) → Option β) (F_dle_Machine_Full : Option Addr → GH → (Bool → GH → Option β) → Option β) (F_follow_Get : Option Addr → List Value → Int → GH → (Int → Int → GH → Option β) → Option β) (F_dle_Machine_Feed : Option Addr → Int → GH → (Int → GH → Option β) → Option β) (F_bitio_Reader_Left : Option Addr → GH → (Int → GH → Option β) → Option β) (F_dle_Machine_Bytes : Option Addr → GH → (Sl → GH → Option β) → Option β) : Orc β := fun f args h K => bif Nat.beq f 28 then (match args with | [.int .i64 p1, .int .i64 p2] => F_dle_New p1 p2 h (fun q10 q11 h' => K (Value.tuple #[Value.pointer q10, Value.int .i64 q11]) h') | _ => none) else (bif Nat.beq f 29 then (match args with | [.slice p1a p1n p1c] => F_bitio_Open ⟨p1a, p1n, p1c⟩ h (fun q6 h' => K (Value.pointer q6) h') | _ => none) else (bif Nat.beq f 30 then (match args with | [.pointer p1] => F_follow_GetSets p1 h (fun q69 q70 h' => K (Value.tuple #[Value.agg (q69).toArray, Value.int .i64 q70]) h') | _ => none) else (bif Nat.beq f 31 then (match args with | [.pointer p1] => F_dle_Machine_Full p1 h (fun q9 h' => K (Value.bool q9) h') | _ => none) else (bif Nat.beq f 32 then (match args with | [.pointer p1, .agg ⟨p2⟩, .int .u8 p3] => F_follow_Get p1 p2 p3 h (fun q30 q31 h' => K (Value.tuple #[Value.int .u8 q30, Value.int .i64 q31]) h') | _ => none) else (bif Nat.beq f 33 then (match args with | [.pointer p1, .int .u8 p2] => F_dle_Machine_Feed p1 p2 h (fun q46 h' => K (Value.int .i64 q46) h') | _ => none) else (bif Nat.beq f 34 then (match args with | [.pointer p1] => F_bitio_Reader_Left p1 h (fun q13 h' => K (Value.int .i64 q13) h') | _ => none) else (bif Nat.beq f 35 then (match args with | [.pointer p1] => F_dle_Machine_Bytes p1 h (fun q9 h' => K (Value.slice q9.a q9.n q9.c) h') | _ => none) else none)))))))
def HF_reduce_Decode : Hints := ⟨[(14, [9, 11, 12, 13, 14], [(0, [(9, .ty 54), (11, .ty 57), (13, .ty 3)])], some [(6, .ty 22), (7, .ty 3), (8, .ty 25)])], [], []⟩
noncomputable def BF_reduce_Decode : Code := match Try.f14.body with | some c => c | none => .skip
noncomputable def F_reduce_Decode_l0 (F_dle_New : Int → Int → GH → (Option Addr → Int → GH → Option β) → Option β) (F_bitio_Open : Sl → GH → (Option Addr → GH → Option β) → Option β) (F_follow_GetSets : Option Addr → GH → (List Value → Int → GH → Option β) → Option β) (F_dle_Machine_Full : Option Addr → GH → (Bool → GH → Option β) → Option β) (F_follow_Get : Option Addr → List Value → Int → GH → (Int → Int → GH → Option β) → Option β) (F_dle_Machine_Feed : Option Addr → Int → GH → (Int → GH → Option β) → Option β) (F_bitio_Reader_Left : Option Addr → GH → (Int → GH → Option β) → Option β) (F_dle_Machine_Bytes : Option Addr → GH → (Sl → GH → Option β) → Option β) (R : Nat) (n : Nat) (y15 : Option Addr) (y16 : Option Addr) (y17 : Option Addr) (y18 : Int) (y19 : Int) (h : GH) (K0 : Option Addr → Option Addr → Int → GH → Option β) (Kr : Sl → Int → Int → GH → Option β) : Option β := gloop (gcode Try.prog (CF_reduce_Decode F_dle_New F_bitio_Open F_follow_GetSets F_dle_Machine_Full F_follow_Get F_dle_Machine_Feed F_bitio_Reader_Left F_dle_Machine_Bytes) Try.f14.ntmps HF_reduce_Decode R (at_ [true, true, true, true, true, true, true, true, false, true, false, false] BF_reduce_Decode)) [9, 11, 12, 13, 14] n [(9, Value.pointer y15), (11, Value.pointer y16), (12, Value.pointer y17), (13, Value.int .i64 y18), (14, Value.int .u8 y19)] h (fun i e' h' => bif Nat.beq i 0 then (exP (some (e'.get 9)) fun u51 => exP (some (e'.get 11)) fun u52 => exI .i64 (some (e'.get 13)) fun u53 => K0 u51 u52 u53 h') else none) (fun e' h' => exS (some (e'.get 6)) fun u54 => exI .i64 (some (e'.get 7)) fun u55 => exI .i64 (some (e'.get 8)) fun u56 => Kr u54 u55 u56 h')
set_option maxRecDepth 100000 in
theorem F_reduce_Decode_l0_succ (F_dle_New : Int → Int → GH → (Option Addr → Int → GH → Option β) → Option β) (F_bitio_Open : Sl → GH → (Option Addr → GH → Option β) → Option β) (F_follow_GetSets : Option Addr → GH → (List Value → Int → GH → Option β) → Option β) (F_dle_Machine_Full : Option Addr → GH → (Bool → GH → Option β) → Option β) (F_follow_Get : Option Addr → List Value → Int → GH → (Int → Int → GH → Option β) → Option β) (F_dle_Machine_Feed : Option Addr → Int → GH → (Int → GH → Option β) → Option β) (F_bitio_Reader_Left : Option Addr → GH → (Int → GH → Option β) → Option β) (F_dle_Machine_Bytes : Option Addr → GH → (Sl → GH → Option β) → Option β) (R : Nat) (n : Nat) (y15 : Option Addr) (y16 : Option Addr) (y17 : Option Addr) (y18 : Int) (y19 : Int) (h : GH) (K0 : Option Addr → Option Addr → Int → GH → Option β) (Kr : Sl → Int → Int → GH → Option β) : F_reduce_Decode_l0 F_dle_New F_bitio_Open F_follow_GetSets F_dle_Machine_Full F_follow_Get F_dle_Machine_Feed F_bitio_Reader_Left F_dle_Machine_Bytes R (n + 1) y15 y16 y17 y18 y19 h K0 Kr =
    F_dle_Machine_Full y15 h fun r26 h27 => (bif !r26 then exA y17 fun g28 o29 => exL (nsub (rowCells (h27.look g28)) (o29) 256) fun x30 => F_follow_Get y16 x30 y19 h27 fun r31 r32 h33 => (bif r32 != 0 then Kr ⟨none, 0, 0⟩ 0 r32 h33 else F_dle_Machine_Feed y15 r31 h33 fun r34 h35 => (bif r34 != 0 then Kr ⟨none, 0, 0⟩ 0 r34 h35 else F_reduce_Decode_l0 F_dle_New F_bitio_Open F_follow_GetSets F_dle_Machine_Full F_follow_Get F_dle_Machine_Feed F_bitio_Reader_Left F_dle_Machine_Bytes R n y15 y16 y17 (IntKind.wrap .i64 (y18 + 1)) r31 h35 K0 Kr)) else K0 y15 y16 y18 h27) := by kernel_rfl
noncomputable def G_reduce_Decode (F_dle_New : Int → Int → GH → (Option Addr → Int → GH → Option β) → Option β) (F_bitio_Open : Sl → GH → (Option Addr → GH → Option β) → Option β) (F_follow_GetSets : Option Addr → GH → (List Value → Int → GH → Option β) → Option β) (F_dle_Machine_Full : Option Addr → GH → (Bool → GH → Option β) → Option β) (F_follow_Get : Option Addr → List Value → Int → GH → (Int → Int → GH → Option β) → Option β) (F_dle_Machine_Feed : Option Addr → Int → GH → (Int → GH → Option β) → Option β) (F_bitio_Reader_Left : Option Addr → GH → (Int → GH → Option β) → Option β) (F_dle_Machine_Bytes : Option Addr → GH → (Sl → GH → Option β) → Option β) (R : Nat) (a1 : Sl) (a2 : Int) (a3 : Int) (h : GH) (K : Sl → Int → Int → GH → Option β) : Option β := gfun Try.prog (CF_reduce_Decode F_dle_New F_bitio_Open F_follow_GetSets F_dle_Machine_Full F_follow_Get F_dle_Machine_Feed F_bitio_Reader_Left F_dle_Machine_Bytes) HF_reduce_Decode R Try.f14 [Value.slice a1.a a1.n a1.c, Value.int .i64 a2, Value.int .i64 a3] h (fun v h' => exTup 3 v fun vs => exV (nth vs 0) fun v0 => exS (some v0) fun u57 => exV (nth vs 1) fun v1 => exI .i64 (some v1) fun u58 => exV (nth vs 2) fun v2 => exI .i64 (some v2) fun u59 => K u57 u58 u59 h')
set_option maxRecDepth 100000 in
theorem F_reduce_Decode_gen (F_dle_New : Int → Int → GH → (Option Addr → Int → GH → Option β) → Option β) (F_bitio_Open : Sl → GH → (Option Addr → GH → Option β) → Option β) (F_follow_GetSets : Option Addr → GH → (List Value → Int → GH → Option β) → Option β) (F_dle_Machine_Full : Option Addr → GH → (Bool → GH → Option β) → Option β) (F_follow_Get : Option Addr → List Value → Int → GH → (Int → Int → GH → Option β) → Option β) (F_dle_Machine_Feed : Option Addr → Int → GH → (Int → GH → Option β) → Option β) (F_bitio_Reader_Left : Option Addr → GH → (Int → GH → Option β) → Option β) (F_dle_Machine_Bytes : Option Addr → GH → (Sl → GH → Option β) → Option β) (R : Nat) (a1 : Sl) (a2 : Int) (a3 : Int) (h : GH) (K : Sl → Int → Int → GH → Option β) : G_reduce_Decode F_dle_New F_bitio_Open F_follow_GetSets F_dle_Machine_Full F_follow_Get F_dle_Machine_Feed F_bitio_Reader_Left F_dle_Machine_Bytes R a1 a2 a3 h K =
    F_dle_New a2 a3 h fun r4 r5 h6 => (bif r5 != 0 then K ⟨none, 0, 0⟩ 0 r5 h6 else (bif a3 == 0 then (bif decide (((a1.n : Nat) : Int) > 0) then K ⟨none, 0, 0⟩ 0 5 h6 else K ⟨none, 0, 0⟩ 0 0 h6) else F_bitio_Open a1 h6 fun r7 h8 => F_follow_GetSets r7 h8 fun r9 r10 h11 => gnew Z40 0 h11 fun g12 h13 => (bif Nat.beq (r9).length 256 then gput g12 (0) r9 h13 fun h14 => (bif r10 != 0 then K ⟨none, 0, 0⟩ 0 r10 h14 else F_reduce_Decode_l0 F_dle_New F_bitio_Open F_follow_GetSets F_dle_Machine_Full F_follow_Get F_dle_Machine_Feed F_bitio_Reader_Left F_dle_Machine_Bytes R R r4 r7 (some ⟨g12, 0, none⟩) 0 0 h14 (fun w36 w37 w38 h39 => F_bitio_Reader_Left w37 h39 fun r40 h41 => (bif decide (r40 ≥ 8) then K ⟨none, 0, 0⟩ 0 5 h41 else F_dle_Machine_Bytes w36 h41 fun r42 h43 => K r42 w38 0 h43)) (fun w44 w45 w46 h47 => K w44 w45 w46 h47)) else none))) := by kernel_rfl
noncomputable def F_reduce_Decode (R : Nat) (a1 : Sl) (a2 : Int) (a3 : Int) (h : GH) (K : Sl → Int → Int → GH → Option β) : Option β := G_reduce_Decode (F_dle_New R) (F_bitio_Open R) (F_follow_GetSets R) (F_dle_Machine_Full R) (F_follow_Get R) (F_dle_Machine_Feed R) (F_bitio_Reader_Left R) (F_dle_Machine_Bytes R) R a1 a2 a3 h K
set_option maxRecDepth 100000 in
theorem CF_reduce_Decode_sim {R : Nat} : SimOrc Try.prog (CF_reduce_Decode (F_dle_New R) (F_bitio_Open R) (F_follow_GetSets R) (F_dle_Machine_Full R) (F_follow_Get R) (F_dle_Machine_Feed R) (F_bitio_Reader_Left R) (F_dle_Machine_Bytes R) (β := β)) := by
  intro f args h K r hc
  unfold CF_reduce_Decode at hc
  cases hb : Nat.beq f 28 with
  | true =>
    rw [hb] at hc
    simp only [cond_true] at hc
    obtain rfl := Nat.eq_of_beq_eq_true hb
    split at hc
    · exact any_call (F_dle_New_sim (K := K) hc)
    · cases hc
  | false =>
  rw [hb] at hc
  simp only [cond_false] at hc
  cases hb : Nat.beq f 29 with
  | true =>
    rw [hb] at hc
    simp only [cond_true] at hc
    obtain rfl := Nat.eq_of_beq_eq_true hb
    split at hc
    · exact any_call (F_bitio_Open_sim (K := K) hc)
    · cases hc
  | false =>
  rw [hb] at hc
  simp only [cond_false] at hc
  cases hb : Nat.beq f 30 with
  | true =>
    rw [hb] at hc
    simp only [cond_true] at hc
    obtain rfl := Nat.eq_of_beq_eq_true hb
    split at hc
    · exact any_call (F_follow_GetSets_sim (K := K) hc)
    · cases hc
  | false =>
  rw [hb] at hc
  simp only [cond_false] at hc
  cases hb : Nat.beq f 31 with
  | true =>
    rw [hb] at hc
    simp only [cond_true] at hc
    obtain rfl := Nat.eq_of_beq_eq_true hb
    split at hc
    · exact any_call (F_dle_Machine_Full_sim (K := K) hc)
    · cases hc
  | false =>
  rw [hb] at hc
  simp only [cond_false] at hc
  cases hb : Nat.beq f 32 with
  | true =>
    rw [hb] at hc
    simp only [cond_true] at hc
    obtain rfl := Nat.eq_of_beq_eq_true hb
    split at hc
    · exact any_call (F_follow_Get_sim (K := K) hc)
    · cases hc
  | false =>
  rw [hb] at hc
  simp only [cond_false] at hc
  cases hb : Nat.beq f 33 with
  | true =>
    rw [hb] at hc
    simp only [cond_true] at hc
    obtain rfl := Nat.eq_of_beq_eq_true hb
    split at hc
    · exact any_call (F_dle_Machine_Feed_sim (K := K) hc)
    · cases hc
  | false =>
  rw [hb] at hc
  simp only [cond_false] at hc
  cases hb : Nat.beq f 34 with
  | true =>
    rw [hb] at hc
    simp only [cond_true] at hc
    obtain rfl := Nat.eq_of_beq_eq_true hb
    split at hc
    · exact any_call (F_bitio_Reader_Left_sim (K := K) hc)
    · cases hc
  | false =>
  rw [hb] at hc
  simp only [cond_false] at hc
  cases hb : Nat.beq f 35 with
  | true =>
    rw [hb] at hc
    simp only [cond_true] at hc
    obtain rfl := Nat.eq_of_beq_eq_true hb
    split at hc
    · exact any_call (F_dle_Machine_Bytes_sim (K := K) hc)
    · cases hc
  | false =>
  rw [hb] at hc
  simp only [cond_false] at hc
  cases hc
set_option maxRecDepth 100000 in
theorem F_reduce_Decode_sim {R : Nat} {r : β} {a1 : Sl} {a2 : Int} {a3 : Int} {h : GH} {K : Value → GH → Option β} (hc : F_reduce_Decode R a1 a2 a3 h (fun q0 q1 q2 h' => K (Value.tuple #[Value.slice q0.a q0.n q0.c, Value.int .i64 q1, Value.int .i64 q2]) h') = some r) : ∃ v h', K v h' = some r ∧ CallSim Try.prog 14 [Value.slice a1.a a1.n a1.c, Value.int .i64 a2, Value.int .i64 a3] h v h' := by
  unfold F_reduce_Decode G_reduce_Decode at hc
  obtain ⟨v, h', hk, hs⟩ := gfun_sim (CF_reduce_Decode_sim (R := R)) mixed_ok (fun f h => by cases h) Try.func14 (by kernel_rfl) hc
  obtain ⟨vs, rfl, hl, hk⟩ := exTup_v hk
  obtain ⟨v0, t0, hk⟩ := exV_v hk
  obtain ⟨u0, e0, hk⟩ := exS_v hk; cases e0
  obtain ⟨v1, t1, hk⟩ := exV_v hk
  obtain ⟨u1, e1, hk⟩ := exI_v hk; cases e1
  obtain ⟨v2, t2, hk⟩ := exV_v hk
  obtain ⟨u2, e2, hk⟩ := exI_v hk; cases e2
  obtain rfl := arr3 hl t0 t1 t2
  exact ⟨_, h', hk, hs⟩
/-! F36 duffel/duffelref13.New -/
def CF_ref13_New  : Orc β := fun f args h K => none
def HF_ref13_New : Hints := ⟨[], [], []⟩
noncomputable def G_ref13_New  (R : Nat) (a1 : Int) (a2 : Int) (h : GH) (K : Option Addr → Int → GH → Option β) : Option β := gfun Try.prog (CF_ref13_New ) HF_ref13_New R Try.f36 [Value.int .i64 a1, Value.int .i64 a2] h (fun v h' => exTup 2 v fun vs => exV (nth vs 0) fun v0 => exP (some v0) fun u9 => exV (nth vs 1) fun v1 => exI .i64 (some v1) fun u10 => K u9 u10 h')
set_option maxRecDepth 100000 in
theorem F_ref13_New_gen  (R : Nat) (a1 : Int) (a2 : Int) (h : GH) (K : Option Addr → Int → GH → Option β) : G_ref13_New  R a1 a2 h K =
    (bif decide (a1 < 1) then K none 2 h else (bif decide (a1 > 4) then K none 2 h else (bif decide (a2 < 0) then K none 2 h else gnew [Value.int .i64 65536, Value.int .i64 a2, Value.bool true, Value.slice none 0 0] 0 h fun g3 h4 => gnew [Value.int .i64 a1, Value.pointer (some ⟨g3, 0, none⟩), Value.int .i64 0, Value.int .i64 0, Value.int .i64 0] 0 h4 fun g5 h6 => K (some ⟨g5, 0, none⟩) 0 h6))) := by kernel_rfl
noncomputable def F_ref13_New (R : Nat) (a1 : Int) (a2 : Int) (h : GH) (K : Option Addr → Int → GH → Option β) : Option β := G_ref13_New  R a1 a2 h K
theorem CF_ref13_New_sim : SimOrc Try.prog (CF_ref13_New (β := β)) := by
  intro f args h K r hc
  cases hc
set_option maxRecDepth 100000 in
theorem F_ref13_New_sim {R : Nat} {r : β} {a1 : Int} {a2 : Int} {h : GH} {K : Value → GH → Option β} (hc : F_ref13_New R a1 a2 h (fun q0 q1 h' => K (Value.tuple #[Value.pointer q0, Value.int .i64 q1]) h') = some r) : ∃ v h', K v h' = some r ∧ CallSim Try.prog 36 [Value.int .i64 a1, Value.int .i64 a2] h v h' := by
  unfold F_ref13_New G_ref13_New at hc
  obtain ⟨v, h', hk, hs⟩ := gfun_sim CF_ref13_New_sim mixed_ok (fun f h => by cases h) Try.func36 (by kernel_rfl) hc
  obtain ⟨vs, rfl, hl, hk⟩ := exTup_v hk
  obtain ⟨v0, t0, hk⟩ := exV_v hk
  obtain ⟨u0, e0, hk⟩ := exP_v hk; cases e0
  obtain ⟨v1, t1, hk⟩ := exV_v hk
  obtain ⟨u1, e1, hk⟩ := exI_v hk; cases e1
  obtain rfl := arr2 hl t0 t1
  exact ⟨_, h', hk, hs⟩
/-! F41 (*duffel/duffelref01.Reader).Left -/
def CF_ref01_Reader_Left  : Orc β := fun f args h K => none
def HF_ref01_Reader_Left : Hints := ⟨[], [], []⟩
noncomputable def G_ref01_Reader_Left  (R : Nat) (a1 : Option Addr) (h : GH) (K : Int → GH → Option β) : Option β := gfun Try.prog (CF_ref01_Reader_Left ) HF_ref01_Reader_Left R Try.f41 [Value.pointer a1] h (fun v h' => exI .i64 (some v) fun u12 => K u12 h')
set_option maxRecDepth 100000 in
theorem F_ref01_Reader_Left_gen  (R : Nat) (a1 : Option Addr) (h : GH) (K : Int → GH → Option β) : G_ref01_Reader_Left  R a1 h K =
    exA a1 fun g2 o3 => exI .i64 (h.cell ⟨g2, o3 + 2, none⟩) fun x4 => (bif x4 != 0 then K 0 h else exA a1 fun g5 o6 => exS (h.cell ⟨g5, o6 + 0, none⟩) fun x7 => exA a1 fun g8 o9 => exI .i64 (h.cell ⟨g8, o9 + 1, none⟩) fun x10 => K (IntKind.wrap .i64 ((IntKind.wrap .i64 (8 * ((x7.n : Nat) : Int))) - x10)) h) := by kernel_rfl
noncomputable def F_ref01_Reader_Left (R : Nat) (a1 : Option Addr) (h : GH) (K : Int → GH → Option β) : Option β := G_ref01_Reader_Left  R a1 h K
theorem CF_ref01_Reader_Left_sim : SimOrc Try.prog (CF_ref01_Reader_Left (β := β)) := by
  intro f args h K r hc
  cases hc
set_option maxRecDepth 100000 in
theorem F_ref01_Reader_Left_sim {R : Nat} {r : β} {a1 : Option Addr} {h : GH} {K : Value → GH → Option β} (hc : F_ref01_Reader_Left R a1 h (fun q0 h' => K (Value.int .i64 q0) h') = some r) : ∃ v h', K v h' = some r ∧ CallSim Try.prog 41 [Value.pointer a1] h v h' := by
  unfold F_ref01_Reader_Left G_ref01_Reader_Left at hc
  obtain ⟨v, h', hk, hs⟩ := gfun_sim CF_ref01_Reader_Left_sim mixed_ok (fun f h => by cases h) Try.func41 (by kernel_rfl) hc
  obtain ⟨u0, e0, hk⟩ := exI_v hk; cases e0
  exact ⟨_, h', hk, hs⟩
/-! F96 duffel/duffelref01.At -/
def CF_ref01_At  : Orc β := fun f args h K => none
def HF_ref01_At : Hints := ⟨[], [], []⟩
noncomputable def G_ref01_At  (R : Nat) (a1 : Sl) (a2 : Int) (h : GH) (K : Int → GH → Option β) : Option β := gfun Try.prog (CF_ref01_At ) HF_ref01_At R Try.f96 [Value.slice a1.a a1.n a1.c, Value.int .i64 a2] h (fun v h' => exI .u32 (some v) fun u7 => K u7 h')
set_option maxRecDepth 100000 in
theorem F_ref01_At_gen  (R : Nat) (a1 : Sl) (a2 : Int) (h : GH) (K : Int → GH → Option β) : G_ref01_At  R a1 a2 h K =
    (bif decide ((IntKind.wrap .i64 (Int.tdiv a2 8)) ≥ ((a1.n : Nat) : Int)) then K 0 h else exA a1.a fun g3 o4 => within (IntKind.wrap .i64 (Int.tdiv a2 8)) a1.n (exI .u8 (h.cell ⟨g3, o4 + (IntKind.wrap .i64 (Int.tdiv a2 8)).toNat * 1, none⟩) fun x5 => (bif decide ((IntKind.wrap .u64 (Int.tmod a2 8)) < 0) then none else K (Int.tmod (shrI .u32 (IntKind.wrap .u32 x5) (IntKind.wrap .u64 (Int.tmod a2 8))) 2) h))) := by kernel_rfl
noncomputable def F_ref01_At (R : Nat) (a1 : Sl) (a2 : Int) (h : GH) (K : Int → GH → Option β) : Option β := G_ref01_At  R a1 a2 h K
theorem CF_ref01_At_sim : SimOrc Try.prog (CF_ref01_At (β := β)) := by
  intro f args h K r hc
  cases hc
set_option maxRecDepth 100000 in
theorem F_ref01_At_sim {R : Nat} {r : β} {a1 : Sl} {a2 : Int} {h : GH} {K : Value → GH → Option β} (hc : F_ref01_At R a1 a2 h (fun q0 h' => K (Value.int .u32 q0) h') = some r) : ∃ v h', K v h' = some r ∧ CallSim Try.prog 96 [Value.slice a1.a a1.n a1.c, Value.int .i64 a2] h v h' := by
  unfold F_ref01_At G_ref01_At at hc
  obtain ⟨v, h', hk, hs⟩ := gfun_sim CF_ref01_At_sim mixed_ok (fun f h => by cases h) Try.func96 (by kernel_rfl) hc
  obtain ⟨u0, e0, hk⟩ := exI_v hk; cases e0
  exact ⟨_, h', hk, hs⟩
/-! F86 duffel/duffelref01.Number -/
def CF_ref01_Number (F_ref01_At : Sl → Int → GH → (Int → GH → Option β) → Option β) : Orc β := fun f args h K => bif Nat.beq f 96 then (match args with | [.slice p1a p1n p1c, .int .i64 p2] => F_ref01_At ⟨p1a, p1n, p1c⟩ p2 h (fun q6 h' => K (Value.int .u32 q6) h') | _ => none) else none
def HF_ref01_Number : Hints := ⟨[(3, [0, 1, 7, 8], [(0, [(7, .ty 99)])], none)], [], []⟩
noncomputable def BF_ref01_Number : Code := match Try.f86.body with | some c => c | none => .skip
noncomputable def F_ref01_Number_l0 (F_ref01_At : Sl → Int → GH → (Int → GH → Option β) → Option β) (R : Nat) (n : Nat) (y4 : Sl) (y5 : Int) (y6 : Int) (y7 : Int) (h : GH) (K0 : Int → GH → Option β) : Option β := gloop (gcode Try.prog (CF_ref01_Number F_ref01_At) Try.f86.ntmps HF_ref01_Number R (at_ [true, true, false, true, false, false] BF_ref01_Number)) [0, 1, 7, 8] n [(0, Value.slice y4.a y4.n y4.c), (1, Value.int .i64 y5), (7, Value.int .u32 y6), (8, Value.int .i64 y7)] h (fun i e' h' => bif Nat.beq i 0 then (exI .u32 (some (e'.get 7)) fun u14 => K0 u14 h') else none) (fun e' h' => none)
set_option maxRecDepth 100000 in
theorem F_ref01_Number_l0_succ (F_ref01_At : Sl → Int → GH → (Int → GH → Option β) → Option β) (R : Nat) (n : Nat) (y4 : Sl) (y5 : Int) (y6 : Int) (y7 : Int) (h : GH) (K0 : Int → GH → Option β) : F_ref01_Number_l0 F_ref01_At R (n + 1) y4 y5 y6 y7 h K0 =
    (bif decide (y7 ≥ 0) then F_ref01_At y4 (IntKind.wrap .i64 (y5 + y7)) h fun r9 h10 => F_ref01_Number_l0 F_ref01_At R n y4 y5 (IntKind.wrap .u32 ((IntKind.wrap .u32 (y6 * 2)) + r9)) (IntKind.wrap .i64 (y7 - 1)) h10 K0 else K0 y6 h) := by kernel_rfl
noncomputable def G_ref01_Number (F_ref01_At : Sl → Int → GH → (Int → GH → Option β) → Option β) (R : Nat) (a1 : Sl) (a2 : Int) (a3 : Int) (h : GH) (K : Int → GH → Option β) : Option β := gfun Try.prog (CF_ref01_Number F_ref01_At) HF_ref01_Number R Try.f86 [Value.slice a1.a a1.n a1.c, Value.int .i64 a2, Value.int .i64 a3] h (fun v h' => exI .u32 (some v) fun u15 => K u15 h')
set_option maxRecDepth 100000 in
theorem F_ref01_Number_gen (F_ref01_At : Sl → Int → GH → (Int → GH → Option β) → Option β) (R : Nat) (a1 : Sl) (a2 : Int) (a3 : Int) (h : GH) (K : Int → GH → Option β) : G_ref01_Number F_ref01_At R a1 a2 a3 h K =
    F_ref01_Number_l0 F_ref01_At R R a1 a2 0 (IntKind.wrap .i64 (a3 - 1)) h (fun w11 h12 => K w11 h12) := by kernel_rfl
noncomputable def F_ref01_Number (R : Nat) (a1 : Sl) (a2 : Int) (a3 : Int) (h : GH) (K : Int → GH → Option β) : Option β := G_ref01_Number (F_ref01_At R) R a1 a2 a3 h K
set_option maxRecDepth 100000 in
theorem CF_ref01_Number_sim {R : Nat} : SimOrc Try.prog (CF_ref01_Number (F_ref01_At R) (β := β)) := by
  intro f args h K r hc
  unfold CF_ref01_Number at hc
  cases hb : Nat.beq f 96 with
  | true =>
    rw [hb] at hc
    simp only [cond_true] at hc
    obtain rfl := Nat.eq_of_beq_eq_true hb
    split at hc
    · exact any_call (F_ref01_At_sim (K := K) hc)
    · cases hc
  | false =>
  rw [hb] at hc
  simp only [cond_false] at hc
  cases hc
set_option maxRecDepth 100000 in
theorem F_ref01_Number_sim {R : Nat} {r : β} {a1 : Sl} {a2 : Int} {a3 : Int} {h : GH} {K : Value → GH → Option β} (hc : F_ref01_Number R a1 a2 a3 h (fun q0 h' => K (Value.int .u32 q0) h') = some r) : ∃ v h', K v h' = some r ∧ CallSim Try.prog 86 [Value.slice a1.a a1.n a1.c, Value.int .i64 a2, Value.int .i64 a3] h v h' := by
  unfold F_ref01_Number G_ref01_Number at hc
  obtain ⟨v, h', hk, hs⟩ := gfun_sim (CF_ref01_Number_sim (R := R)) mixed_ok (fun f h => by cases h) Try.func86 (by kernel_rfl) hc
  obtain ⟨u0, e0, hk⟩ := exI_v hk; cases e0
  exact ⟨_, h', hk, hs⟩
/-! F70 (*duffel/duffelref01.Reader).Bits -/
def CF_ref01_Reader_Bits (F_ref01_Reader_Left : Option Addr → GH → (Int → GH → Option β) → Option β) (F_ref01_Number : Sl → Int → Int → GH → (Int → GH → Option β) → Option β) : Orc β := fun f args h K => bif Nat.beq f 41 then (match args with | [.pointer p1] => F_ref01_Reader_Left p1 h (fun q11 h' => K (Value.int .i64 q11) h') | _ => none) else (bif Nat.beq f 86 then (match args with | [.slice p1a p1n p1c, .int .i64 p2, .int .i64 p3] => F_ref01_Number ⟨p1a, p1n, p1c⟩ p2 p3 h (fun q13 h' => K (Value.int .u32 q13) h') | _ => none) else none)
def HF_ref01_Reader_Bits : Hints := ⟨[], [], []⟩
noncomputable def G_ref01_Reader_Bits (F_ref01_Reader_Left : Option Addr → GH → (Int → GH → Option β) → Option β) (F_ref01_Number : Sl → Int → Int → GH → (Int → GH → Option β) → Option β) (R : Nat) (a1 : Option Addr) (a2 : Int) (h : GH) (K : Int → GH → Option β) : Option β := gfun Try.prog (CF_ref01_Reader_Bits F_ref01_Reader_Left F_ref01_Number) HF_ref01_Reader_Bits R Try.f70 [Value.pointer a1, Value.int .i64 a2] h (fun v h' => exI .u32 (some v) fun u32 => K u32 h')
set_option maxRecDepth 100000 in
theorem F_ref01_Reader_Bits_gen (F_ref01_Reader_Left : Option Addr → GH → (Int → GH → Option β) → Option β) (F_ref01_Number : Sl → Int → Int → GH → (Int → GH → Option β) → Option β) (R : Nat) (a1 : Option Addr) (a2 : Int) (h : GH) (K : Int → GH → Option β) : G_ref01_Reader_Bits F_ref01_Reader_Left F_ref01_Number R a1 a2 h K =
    exA a1 fun g3 o4 => exI .i64 (h.cell ⟨g3, o4 + 2, none⟩) fun x5 => (bif x5 != 0 then K 0 h else (bif decide (a2 < 0) then exA a1 fun g6 o7 => gput g6 (o7 + 2) [Value.int .i64 2] h fun h8 => K 0 h8 else (bif decide (a2 > 32) then exA a1 fun g9 o10 => gput g9 (o10 + 2) [Value.int .i64 2] h fun h11 => K 0 h11 else F_ref01_Reader_Left a1 h fun r12 h13 => (bif decide (a2 > r12) then exA a1 fun g14 o15 => gput g14 (o15 + 2) [Value.int .i64 3] h13 fun h16 => K 0 h16 else exA a1 fun g17 o18 => exI .i64 (h13.cell ⟨g17, o18 + 1, none⟩) fun x19 => exA a1 fun g20 o21 => gput g20 (o21 + 1) [Value.int .i64 (IntKind.wrap .i64 (x19 + a2))] h13 fun h22 => exA a1 fun g23 o24 => exS (h22.cell ⟨g23, o24 + 0, none⟩) fun x25 => exA a1 fun g26 o27 => exI .i64 (h22.cell ⟨g26, o27 + 1, none⟩) fun x28 => F_ref01_Number x25 (IntKind.wrap .i64 (x28 - a2)) a2 h22 fun r29 h30 => K r29 h30)))) := by kernel_rfl
noncomputable def F_ref01_Reader_Bits (R : Nat) (a1 : Option Addr) (a2 : Int) (h : GH) (K : Int → GH → Option β) : Option β := G_ref01_Reader_Bits (F_ref01_Reader_Left R) (F_ref01_Number R) R a1 a2 h K
set_option maxRecDepth 100000 in
theorem CF_ref01_Reader_Bits_sim {R : Nat} : SimOrc Try.prog (CF_ref01_Reader_Bits (F_ref01_Reader_Left R) (F_ref01_Number R) (β := β)) := by
  intro f args h K r hc
  unfold CF_ref01_Reader_Bits at hc
  cases hb : Nat.beq f 41 with
  | true =>
    rw [hb] at hc
    simp only [cond_true] at hc
    obtain rfl := Nat.eq_of_beq_eq_true hb
    split at hc
    · exact any_call (F_ref01_Reader_Left_sim (K := K) hc)
    · cases hc
  | false =>
  rw [hb] at hc
  simp only [cond_false] at hc
  cases hb : Nat.beq f 86 with
  | true =>
    rw [hb] at hc
    simp only [cond_true] at hc
    obtain rfl := Nat.eq_of_beq_eq_true hb
    split at hc
    · exact any_call (F_ref01_Number_sim (K := K) hc)
    · cases hc
  | false =>
  rw [hb] at hc
  simp only [cond_false] at hc
  cases hc
set_option maxRecDepth 100000 in
theorem F_ref01_Reader_Bits_sim {R : Nat} {r : β} {a1 : Option Addr} {a2 : Int} {h : GH} {K : Value → GH → Option β} (hc : F_ref01_Reader_Bits R a1 a2 h (fun q0 h' => K (Value.int .u32 q0) h') = some r) : ∃ v h', K v h' = some r ∧ CallSim Try.prog 70 [Value.pointer a1, Value.int .i64 a2] h v h' := by
  unfold F_ref01_Reader_Bits G_ref01_Reader_Bits at hc
  obtain ⟨v, h', hk, hs⟩ := gfun_sim (CF_ref01_Reader_Bits_sim (R := R)) mixed_ok (fun f h => by cases h) Try.func70 (by kernel_rfl) hc
  obtain ⟨u0, e0, hk⟩ := exI_v hk; cases e0
  exact ⟨_, h', hk, hs⟩
/-! F37 duffel/duffelref12.GetSets -/
def CF_ref12_GetSets (F_ref01_Reader_Bits : Option Addr → Int → GH → (Int → GH → Option β) → Option β) : Orc β := fun f args h K => bif Nat.beq f 70 then (match args with | [.pointer p1, .int .i64 p2] => F_ref01_Reader_Bits p1 p2 h (fun q31 h' => K (Value.int .u32 q31) h') | _ => none) else none
def HF_ref12_GetSets : Hints := ⟨[(3, [0, 4, 5], [(0, [(4, .ty 47)])], some [(2, .ty 47), (3, .ty 3)]), (10, [0, 4, 5, 6, 7, 8], [(2, [(0, .ty 68), (4, .ty 47), (5, .ty 3), (7, .ty 22)])], none)], [], []⟩
noncomputable def BF_ref12_GetSets : Code := match Try.f37.body with | some c => c | none => .skip
noncomputable def F_ref12_GetSets_l0 (F_ref01_Reader_Bits : Option Addr → Int → GH → (Int → GH → Option β) → Option β) (R : Nat) (n : Nat) (y4 : Option Addr) (y5 : Option Addr) (y6 : Int) (h : GH) (K0 : Option Addr → GH → Option β) (Kr : Option Addr → Int → GH → Option β) : Option β := gloop (gcode Try.prog (CF_ref12_GetSets F_ref01_Reader_Bits) Try.f37.ntmps HF_ref12_GetSets R (at_ [true, true, false, true, false, false] BF_ref12_GetSets)) [0, 4, 5] n [(0, Value.pointer y4), (4, Value.pointer y5), (5, Value.int .i64 y6)] h (fun i e' h' => bif Nat.beq i 0 then (exP (some (e'.get 4)) fun u53 => K0 u53 h') else none) (fun e' h' => exP (some (e'.get 2)) fun u54 => exI .i64 (some (e'.get 3)) fun u55 => Kr u54 u55 h')
noncomputable def F_ref12_GetSets_l1 (F_ref01_Reader_Bits : Option Addr → Int → GH → (Int → GH → Option β) → Option β) (R : Nat) (n : Nat) (y14 : Option Addr) (y15 : Option Addr) (y16 : Int) (y17 : Int) (y18 : Sl) (y19 : Int) (h : GH) (K2 : Option Addr → Option Addr → Int → Sl → GH → Option β) : Option β := gloop (gcode Try.prog (CF_ref12_GetSets F_ref01_Reader_Bits) Try.f37.ntmps HF_ref12_GetSets R (at_ [true, true, false, true, false, false, true, false, false, true, true, true, false, true, false, false] BF_ref12_GetSets)) [0, 4, 5, 6, 7, 8] n [(0, Value.pointer y14), (4, Value.pointer y15), (5, Value.int .i64 y16), (6, Value.int .i64 y17), (7, Value.slice y18.a y18.n y18.c), (8, Value.int .i64 y19)] h (fun i e' h' => bif Nat.beq i 2 then (exP (some (e'.get 0)) fun u56 => exP (some (e'.get 4)) fun u57 => exI .i64 (some (e'.get 5)) fun u58 => exS (some (e'.get 7)) fun u59 => K2 u56 u57 u58 u59 h') else none) (fun e' h' => none)
set_option maxRecDepth 100000 in
theorem F_ref12_GetSets_l1_succ (F_ref01_Reader_Bits : Option Addr → Int → GH → (Int → GH → Option β) → Option β) (R : Nat) (n : Nat) (y14 : Option Addr) (y15 : Option Addr) (y16 : Int) (y17 : Int) (y18 : Sl) (y19 : Int) (h : GH) (K2 : Option Addr → Option Addr → Int → Sl → GH → Option β) : F_ref12_GetSets_l1 F_ref01_Reader_Bits R (n + 1) y14 y15 y16 y17 y18 y19 h K2 =
    (bif decide (y19 < y17) then F_ref01_Reader_Bits y14 8 h fun r24 h25 => gnew [Value.int .u8 (IntKind.wrap .u8 r24)] 1 h25 fun g26 h27 => gappS 1 1 y18 ⟨(some ⟨g26, 0, none⟩), 1, 1⟩ h27 fun s28 h29 => F_ref12_GetSets_l1 F_ref01_Reader_Bits R n y14 y15 y16 y17 s28 (IntKind.wrap .i64 (y19 + 1)) h29 K2 else K2 y14 y15 y16 y18 h) := by kernel_rfl
set_option maxRecDepth 100000 in
theorem F_ref12_GetSets_l0_succ (F_ref01_Reader_Bits : Option Addr → Int → GH → (Int → GH → Option β) → Option β) (R : Nat) (n : Nat) (y4 : Option Addr) (y5 : Option Addr) (y6 : Int) (h : GH) (K0 : Option Addr → GH → Option β) (Kr : Option Addr → Int → GH → Option β) : F_ref12_GetSets_l0 F_ref01_Reader_Bits R (n + 1) y4 y5 y6 h K0 Kr =
    (bif decide (y6 ≥ 0) then F_ref01_Reader_Bits y4 6 h fun r10 h11 => (bif decide ((IntKind.wrap .i64 r10) > 32) then gnew [Value.slice none 0 0, Value.slice none 0 0, Value.slice none 0 0, Value.slice none 0 0, Value.slice none 0 0, Value.slice none 0 0, Value.slice none 0 0, Value.slice none 0 0, Value.slice none 0 0, Value.slice none 0 0, Value.slice none 0 0, Value.slice none 0 0, Value.slice none 0 0, Value.slice none 0 0, Value.slice none 0 0, Value.slice none 0 0, Value.slice none 0 0, Value.slice none 0 0, Value.slice none 0 0, Value.slice none 0 0, Value.slice none 0 0, Value.slice none 0 0, Value.slice none 0 0, Value.slice none 0 0, Value.slice none 0 0, Value.slice none 0 0, Value.slice none 0 0, Value.slice none 0 0, Value.slice none 0 0, Value.slice none 0 0, Value.slice none 0 0, Value.slice none 0 0, Value.slice none 0 0, Value.slice none 0 0, Value.slice none 0 0, Value.slice none 0 0, Value.slice none 0 0, Value.slice none 0 0, Value.slice none 0 0, Value.slice none 0 0, Value.slice none 0 0, Value.slice none 0 0, Value.slice none 0 0, Value.slice none 0 0, Value.slice none 0 0, Value.slice none 0 0, Value.slice none 0 0, Value.slice none 0 0, Value.slice none 0 0, Value.slice none 0 0, Value.slice none 0 0, Value.slice none 0 0, Value.slice none 0 0, Value.slice none 0 0, Value.slice none 0 0, Value.slice none 0 0, Value.slice none 0 0, Value.slice none 0 0, Value.slice none 0 0, Value.slice none 0 0, Value.slice none 0 0, Value.slice none 0 0, Value.slice none 0 0, Value.slice none 0 0, Value.slice none 0 0, Value.slice none 0 0, Value.slice none 0 0, Value.slice none 0 0, Value.slice none 0 0, Value.slice none 0 0, Value.slice none 0 0, Value.slice none 0 0, Value.slice none 0 0, Value.slice none 0 0, Value.slice none 0 0, Value.slice none 0 0, Value.slice none 0 0, Value.slice none 0 0, Value.slice none 0 0, Value.slice none 0 0, Value.slice none 0 0, Value.slice none 0 0, Value.slice none 0 0, Value.slice none 0 0, Value.slice none 0 0, Value.slice none 0 0, Value.slice none 0 0, Value.slice none 0 0, Value.slice none 0 0, Value.slice none 0 0, Value.slice none 0 0, Value.slice none 0 0, Value.slice none 0 0, Value.slice none 0 0, Value.slice none 0 0, Value.slice none 0 0, Value.slice none 0 0, Value.slice none 0 0, Value.slice none 0 0, Value.slice none 0 0, Value.slice none 0 0, Value.slice none 0 0, Value.slice none 0 0, Value.slice none 0 0, Value.slice none 0 0, Value.slice none 0 0, Value.slice none 0 0, Value.slice none 0 0, Value.slice none 0 0, Value.slice none 0 0, Value.slice none 0 0, Value.slice none 0 0, Value.slice none 0 0, Value.slice none 0 0, Value.slice none 0 0, Value.slice none 0 0, Value.slice none 0 0, Value.slice none 0 0, Value.slice none 0 0, Value.slice none 0 0, Value.slice none 0 0, Value.slice none 0 0, Value.slice none 0 0, Value.slice none 0 0, Value.slice none 0 0, Value.slice none 0 0, Value.slice none 0 0, Value.slice none 0 0, Value.slice none 0 0, Value.slice none 0 0, Value.slice none 0 0, Value.slice none 0 0, Value.slice none 0 0, Value.slice none 0 0, Value.slice none 0 0, Value.slice none 0 0, Value.slice none 0 0, Value.slice none 0 0, Value.slice none 0 0, Value.slice none 0 0, Value.slice none 0 0, Value.slice none 0 0, Value.slice none 0 0, Value.slice none 0 0, Value.slice none 0 0, Value.slice none 0 0, Value.slice none 0 0, Value.slice none 0 0, Value.slice none 0 0, Value.slice none 0 0, Value.slice none 0 0, Value.slice none 0 0, Value.slice none 0 0, Value.slice none 0 0, Value.slice none 0 0, Value.slice none 0 0, Value.slice none 0 0, Value.slice none 0 0, Value.slice none 0 0, Value.slice none 0 0, Value.slice none 0 0, Value.slice none 0 0, Value.slice none 0 0, Value.slice none 0 0, Value.slice none 0 0, Value.slice none 0 0, Value.slice none 0 0, Value.slice none 0 0, Value.slice none 0 0, Value.slice none 0 0, Value.slice none 0 0, Value.slice none 0 0, Value.slice none 0 0, Value.slice none 0 0, Value.slice none 0 0, Value.slice none 0 0, Value.slice none 0 0, Value.slice none 0 0, Value.slice none 0 0, Value.slice none 0 0, Value.slice none 0 0, Value.slice none 0 0, Value.slice none 0 0, Value.slice none 0 0, Value.slice none 0 0, Value.slice none 0 0, Value.slice none 0 0, Value.slice none 0 0, Value.slice none 0 0, Value.slice none 0 0, Value.slice none 0 0, Value.slice none 0 0, Value.slice none 0 0, Value.slice none 0 0, Value.slice none 0 0, Value.slice none 0 0, Value.slice none 0 0, Value.slice none 0 0, Value.slice none 0 0, Value.slice none 0 0, Value.slice none 0 0, Value.slice none 0 0, Value.slice none 0 0, Value.slice none 0 0, Value.slice none 0 0, Value.slice none 0 0, Value.slice none 0 0, Value.slice none 0 0, Value.slice none 0 0, Value.slice none 0 0, Value.slice none 0 0, Value.slice none 0 0, Value.slice none 0 0, Value.slice none 0 0, Value.slice none 0 0, Value.slice none 0 0, Value.slice none 0 0, Value.slice none 0 0, Value.slice none 0 0, Value.slice none 0 0, Value.slice none 0 0, Value.slice none 0 0, Value.slice none 0 0, Value.slice none 0 0, Value.slice none 0 0, Value.slice none 0 0, Value.slice none 0 0, Value.slice none 0 0, Value.slice none 0 0, Value.slice none 0 0, Value.slice none 0 0, Value.slice none 0 0, Value.slice none 0 0, Value.slice none 0 0, Value.slice none 0 0, Value.slice none 0 0, Value.slice none 0 0, Value.slice none 0 0, Value.slice none 0 0, Value.slice none 0 0, Value.slice none 0 0, Value.slice none 0 0, Value.slice none 0 0, Value.slice none 0 0, Value.slice none 0 0, Value.slice none 0 0, Value.slice none 0 0, Value.slice none 0 0, Value.slice none 0 0, Value.slice none 0 0, Value.slice none 0 0, Value.slice none 0 0, Value.slice none 0 0, Value.slice none 0 0, Value.slice none 0 0, Value.slice none 0 0] 0 h11 fun g12 h13 => Kr (some ⟨g12, 0, none⟩) 4 h13 else F_ref12_GetSets_l1 F_ref01_Reader_Bits R R y4 y5 y6 (IntKind.wrap .i64 r10) ⟨none, 0, 0⟩ 0 h11 (fun w30 w31 w32 w33 h34 => exA w30 fun g35 o36 => exI .i64 (h34.cell ⟨g35, o36 + 2, none⟩) fun x37 => (bif x37 != 0 then gnew [Value.slice none 0 0, Value.slice none 0 0, Value.slice none 0 0, Value.slice none 0 0, Value.slice none 0 0, Value.slice none 0 0, Value.slice none 0 0, Value.slice none 0 0, Value.slice none 0 0, Value.slice none 0 0, Value.slice none 0 0, Value.slice none 0 0, Value.slice none 0 0, Value.slice none 0 0, Value.slice none 0 0, Value.slice none 0 0, Value.slice none 0 0, Value.slice none 0 0, Value.slice none 0 0, Value.slice none 0 0, Value.slice none 0 0, Value.slice none 0 0, Value.slice none 0 0, Value.slice none 0 0, Value.slice none 0 0, Value.slice none 0 0, Value.slice none 0 0, Value.slice none 0 0, Value.slice none 0 0, Value.slice none 0 0, Value.slice none 0 0, Value.slice none 0 0, Value.slice none 0 0, Value.slice none 0 0, Value.slice none 0 0, Value.slice none 0 0, Value.slice none 0 0, Value.slice none 0 0, Value.slice none 0 0, Value.slice none 0 0, Value.slice none 0 0, Value.slice none 0 0, Value.slice none 0 0, Value.slice none 0 0, Value.slice none 0 0, Value.slice none 0 0, Value.slice none 0 0, Value.slice none 0 0, Value.slice none 0 0, Value.slice none 0 0, Value.slice none 0 0, Value.slice none 0 0, Value.slice none 0 0, Value.slice none 0 0, Value.slice none 0 0, Value.slice none 0 0, Value.slice none 0 0, Value.slice none 0 0, Value.slice none 0 0, Value.slice none 0 0, Value.slice none 0 0, Value.slice none 0 0, Value.slice none 0 0, Value.slice none 0 0, Value.slice none 0 0, Value.slice none 0 0, Value.slice none 0 0, Value.slice none 0 0, Value.slice none 0 0, Value.slice none 0 0, Value.slice none 0 0, Value.slice none 0 0, Value.slice none 0 0, Value.slice none 0 0, Value.slice none 0 0, Value.slice none 0 0, Value.slice none 0 0, Value.slice none 0 0, Value.slice none 0 0, Value.slice none 0 0, Value.slice none 0 0, Value.slice none 0 0, Value.slice none 0 0, Value.slice none 0 0, Value.slice none 0 0, Value.slice none 0 0, Value.slice none 0 0, Value.slice none 0 0, Value.slice none 0 0, Value.slice none 0 0, Value.slice none 0 0, Value.slice none 0 0, Value.slice none 0 0, Value.slice none 0 0, Value.slice none 0 0, Value.slice none 0 0, Value.slice none 0 0, Value.slice none 0 0, Value.slice none 0 0, Value.slice none 0 0, Value.slice none 0 0, Value.slice none 0 0, Value.slice none 0 0, Value.slice none 0 0, Value.slice none 0 0, Value.slice none 0 0, Value.slice none 0 0, Value.slice none 0 0, Value.slice none 0 0, Value.slice none 0 0, Value.slice none 0 0, Value.slice none 0 0, Value.slice none 0 0, Value.slice none 0 0, Value.slice none 0 0, Value.slice none 0 0, Value.slice none 0 0, Value.slice none 0 0, Value.slice none 0 0, Value.slice none 0 0, Value.slice none 0 0, Value.slice none 0 0, Value.slice none 0 0, Value.slice none 0 0, Value.slice none 0 0, Value.slice none 0 0, Value.slice none 0 0, Value.slice none 0 0, Value.slice none 0 0, Value.slice none 0 0, Value.slice none 0 0, Value.slice none 0 0, Value.slice none 0 0, Value.slice none 0 0, Value.slice none 0 0, Value.slice none 0 0, Value.slice none 0 0, Value.slice none 0 0, Value.slice none 0 0, Value.slice none 0 0, Value.slice none 0 0, Value.slice none 0 0, Value.slice none 0 0, Value.slice none 0 0, Value.slice none 0 0, Value.slice none 0 0, Value.slice none 0 0, Value.slice none 0 0, Value.slice none 0 0, Value.slice none 0 0, Value.slice none 0 0, Value.slice none 0 0, Value.slice none 0 0, Value.slice none 0 0, Value.slice none 0 0, Value.slice none 0 0, Value.slice none 0 0, Value.slice none 0 0, Value.slice none 0 0, Value.slice none 0 0, Value.slice none 0 0, Value.slice none 0 0, Value.slice none 0 0, Value.slice none 0 0, Value.slice none 0 0, Value.slice none 0 0, Value.slice none 0 0, Value.slice none 0 0, Value.slice none 0 0, Value.slice none 0 0, Value.slice none 0 0, Value.slice none 0 0, Value.slice none 0 0, Value.slice none 0 0, Value.slice none 0 0, Value.slice none 0 0, Value.slice none 0 0, Value.slice none 0 0, Value.slice none 0 0, Value.slice none 0 0, Value.slice none 0 0, Value.slice none 0 0, Value.slice none 0 0, Value.slice none 0 0, Value.slice none 0 0, Value.slice none 0 0, Value.slice none 0 0, Value.slice none 0 0, Value.slice none 0 0, Value.slice none 0 0, Value.slice none 0 0, Value.slice none 0 0, Value.slice none 0 0, Value.slice none 0 0, Value.slice none 0 0, Value.slice none 0 0, Value.slice none 0 0, Value.slice none 0 0, Value.slice none 0 0, Value.slice none 0 0, Value.slice none 0 0, Value.slice none 0 0, Value.slice none 0 0, Value.slice none 0 0, Value.slice none 0 0, Value.slice none 0 0, Value.slice none 0 0, Value.slice none 0 0, Value.slice none 0 0, Value.slice none 0 0, Value.slice none 0 0, Value.slice none 0 0, Value.slice none 0 0, Value.slice none 0 0, Value.slice none 0 0, Value.slice none 0 0, Value.slice none 0 0, Value.slice none 0 0, Value.slice none 0 0, Value.slice none 0 0, Value.slice none 0 0, Value.slice none 0 0, Value.slice none 0 0, Value.slice none 0 0, Value.slice none 0 0, Value.slice none 0 0, Value.slice none 0 0, Value.slice none 0 0, Value.slice none 0 0, Value.slice none 0 0, Value.slice none 0 0, Value.slice none 0 0, Value.slice none 0 0, Value.slice none 0 0, Value.slice none 0 0, Value.slice none 0 0, Value.slice none 0 0, Value.slice none 0 0, Value.slice none 0 0, Value.slice none 0 0, Value.slice none 0 0, Value.slice none 0 0, Value.slice none 0 0, Value.slice none 0 0, Value.slice none 0 0, Value.slice none 0 0, Value.slice none 0 0, Value.slice none 0 0, Value.slice none 0 0, Value.slice none 0 0, Value.slice none 0 0, Value.slice none 0 0, Value.slice none 0 0, Value.slice none 0 0, Value.slice none 0 0, Value.slice none 0 0] 0 h34 fun g38 h39 => exA w30 fun g40 o41 => exI .i64 (h39.cell ⟨g40, o41 + 2, none⟩) fun x42 => Kr (some ⟨g38, 0, none⟩) x42 h39 else exA w31 fun g43 o44 => within w32 256 (gput g43 (o44 + w32.toNat * 1) [Value.slice w33.a w33.n w33.c] h34 fun h45 => F_ref12_GetSets_l0 F_ref01_Reader_Bits R n w30 w31 (IntKind.wrap .i64 (w32 - 1)) h45 K0 Kr)))) else K0 y5 h) := by kernel_rfl
noncomputable def G_ref12_GetSets (F_ref01_Reader_Bits : Option Addr → Int → GH → (Int → GH → Option β) → Option β) (R : Nat) (a1 : Option Addr) (h : GH) (K : Option Addr → Int → GH → Option β) : Option β := gfun Try.prog (CF_ref12_GetSets F_ref01_Reader_Bits) HF_ref12_GetSets R Try.f37 [Value.pointer a1] h (fun v h' => exTup 2 v fun vs => exV (nth vs 0) fun v0 => exP (some v0) fun u60 => exV (nth vs 1) fun v1 => exI .i64 (some v1) fun u61 => K u60 u61 h')
set_option maxRecDepth 100000 in
theorem F_ref12_GetSets_gen (F_ref01_Reader_Bits : Option Addr → Int → GH → (Int → GH → Option β) → Option β) (R : Nat) (a1 : Option Addr) (h : GH) (K : Option Addr → Int → GH → Option β) : G_ref12_GetSets F_ref01_Reader_Bits R a1 h K =
    gnew [Value.slice none 0 0, Value.slice none 0 0, Value.slice none 0 0, Value.slice none 0 0, Value.slice none 0 0, Value.slice none 0 0, Value.slice none 0 0, Value.slice none 0 0, Value.slice none 0 0, Value.slice none 0 0, Value.slice none 0 0, Value.slice none 0 0, Value.slice none 0 0, Value.slice none 0 0, Value.slice none 0 0, Value.slice none 0 0, Value.slice none 0 0, Value.slice none 0 0, Value.slice none 0 0, Value.slice none 0 0, Value.slice none 0 0, Value.slice none 0 0, Value.slice none 0 0, Value.slice none 0 0, Value.slice none 0 0, Value.slice none 0 0, Value.slice none 0 0, Value.slice none 0 0, Value.slice none 0 0, Value.slice none 0 0, Value.slice none 0 0, Value.slice none 0 0, Value.slice none 0 0, Value.slice none 0 0, Value.slice none 0 0, Value.slice none 0 0, Value.slice none 0 0, Value.slice none 0 0, Value.slice none 0 0, Value.slice none 0 0, Value.slice none 0 0, Value.slice none 0 0, Value.slice none 0 0, Value.slice none 0 0, Value.slice none 0 0, Value.slice none 0 0, Value.slice none 0 0, Value.slice none 0 0, Value.slice none 0 0, Value.slice none 0 0, Value.slice none 0 0, Value.slice none 0 0, Value.slice none 0 0, Value.slice none 0 0, Value.slice none 0 0, Value.slice none 0 0, Value.slice none 0 0, Value.slice none 0 0, Value.slice none 0 0, Value.slice none 0 0, Value.slice none 0 0, Value.slice none 0 0, Value.slice none 0 0, Value.slice none 0 0, Value.slice none 0 0, Value.slice none 0 0, Value.slice none 0 0, Value.slice none 0 0, Value.slice none 0 0, Value.slice none 0 0, Value.slice none 0 0, Value.slice none 0 0, Value.slice none 0 0, Value.slice none 0 0, Value.slice none 0 0, Value.slice none 0 0, Value.slice none 0 0, Value.slice none 0 0, Value.slice none 0 0, Value.slice none 0 0, Value.slice none 0 0, Value.slice none 0 0, Value.slice none 0 0, Value.slice none 0 0, Value.slice none 0 0, Value.slice none 0 0, Value.slice none 0 0, Value.slice none 0 0, Value.slice none 0 0, Value.slice none 0 0, Value.slice none 0 0, Value.slice none 0 0, Value.slice none 0 0, Value.slice none 0 0, Value.slice none 0 0, Value.slice none 0 0, Value.slice none 0 0, Value.slice none 0 0, Value.slice none 0 0, Value.slice none 0 0, Value.slice none 0 0, Value.slice none 0 0, Value.slice none 0 0, Value.slice none 0 0, Value.slice none 0 0, Value.slice none 0 0, Value.slice none 0 0, Value.slice none 0 0, Value.slice none 0 0, Value.slice none 0 0, Value.slice none 0 0, Value.slice none 0 0, Value.slice none 0 0, Value.slice none 0 0, Value.slice none 0 0, Value.slice none 0 0, Value.slice none 0 0, Value.slice none 0 0, Value.slice none 0 0, Value.slice none 0 0, Value.slice none 0 0, Value.slice none 0 0, Value.slice none 0 0, Value.slice none 0 0, Value.slice none 0 0, Value.slice none 0 0, Value.slice none 0 0, Value.slice none 0 0, Value.slice none 0 0, Value.slice none 0 0, Value.slice none 0 0, Value.slice none 0 0, Value.slice none 0 0, Value.slice none 0 0, Value.slice none 0 0, Value.slice none 0 0, Value.slice none 0 0, Value.slice none 0 0, Value.slice none 0 0, Value.slice none 0 0, Value.slice none 0 0, Value.slice none 0 0, Value.slice none 0 0, Value.slice none 0 0, Value.slice none 0 0, Value.slice none 0 0, Value.slice none 0 0, Value.slice none 0 0, Value.slice none 0 0, Value.slice none 0 0, Value.slice none 0 0, Value.slice none 0 0, Value.slice none 0 0, Value.slice none 0 0, Value.slice none 0 0, Value.slice none 0 0, Value.slice none 0 0, Value.slice none 0 0, Value.slice none 0 0, Value.slice none 0 0, Value.slice none 0 0, Value.slice none 0 0, Value.slice none 0 0, Value.slice none 0 0, Value.slice none 0 0, Value.slice none 0 0, Value.slice none 0 0, Value.slice none 0 0, Value.slice none 0 0, Value.slice none 0 0, Value.slice none 0 0, Value.slice none 0 0, Value.slice none 0 0, Value.slice none 0 0, Value.slice none 0 0, Value.slice none 0 0, Value.slice none 0 0, Value.slice none 0 0, Value.slice none 0 0, Value.slice none 0 0, Value.slice none 0 0, Value.slice none 0 0, Value.slice none 0 0, Value.slice none 0 0, Value.slice none 0 0, Value.slice none 0 0, Value.slice none 0 0, Value.slice none 0 0, Value.slice none 0 0, Value.slice none 0 0, Value.slice none 0 0, Value.slice none 0 0, Value.slice none 0 0, Value.slice none 0 0, Value.slice none 0 0, Value.slice none 0 0, Value.slice none 0 0, Value.slice none 0 0, Value.slice none 0 0, Value.slice none 0 0, Value.slice none 0 0, Value.slice none 0 0, Value.slice none 0 0, Value.slice none 0 0, Value.slice none 0 0, Value.slice none 0 0, Value.slice none 0 0, Value.slice none 0 0, Value.slice none 0 0, Value.slice none 0 0, Value.slice none 0 0, Value.slice none 0 0, Value.slice none 0 0, Value.slice none 0 0, Value.slice none 0 0, Value.slice none 0 0, Value.slice none 0 0, Value.slice none 0 0, Value.slice none 0 0, Value.slice none 0 0, Value.slice none 0 0, Value.slice none 0 0, Value.slice none 0 0, Value.slice none 0 0, Value.slice none 0 0, Value.slice none 0 0, Value.slice none 0 0, Value.slice none 0 0, Value.slice none 0 0, Value.slice none 0 0, Value.slice none 0 0, Value.slice none 0 0, Value.slice none 0 0, Value.slice none 0 0, Value.slice none 0 0, Value.slice none 0 0, Value.slice none 0 0, Value.slice none 0 0, Value.slice none 0 0, Value.slice none 0 0, Value.slice none 0 0, Value.slice none 0 0, Value.slice none 0 0, Value.slice none 0 0, Value.slice none 0 0, Value.slice none 0 0, Value.slice none 0 0, Value.slice none 0 0, Value.slice none 0 0, Value.slice none 0 0, Value.slice none 0 0, Value.slice none 0 0, Value.slice none 0 0, Value.slice none 0 0, Value.slice none 0 0, Value.slice none 0 0] 0 h fun g2 h3 => F_ref12_GetSets_l0 F_ref01_Reader_Bits R R a1 (some ⟨g2, 0, none⟩) 255 h3 (fun w46 h47 => K w46 0 h47) (fun w48 w49 h50 => K w48 w49 h50) := by kernel_rfl
noncomputable def F_ref12_GetSets (R : Nat) (a1 : Option Addr) (h : GH) (K : Option Addr → Int → GH → Option β) : Option β := G_ref12_GetSets (F_ref01_Reader_Bits R) R a1 h K
set_option maxRecDepth 100000 in
theorem CF_ref12_GetSets_sim {R : Nat} : SimOrc Try.prog (CF_ref12_GetSets (F_ref01_Reader_Bits R) (β := β)) := by
  intro f args h K r hc
  unfold CF_ref12_GetSets at hc
  cases hb : Nat.beq f 70 with
  | true =>
    rw [hb] at hc
    simp only [cond_true] at hc
    obtain rfl := Nat.eq_of_beq_eq_true hb
    split at hc
    · exact any_call (F_ref01_Reader_Bits_sim (K := K) hc)
    · cases hc
  | false =>
  rw [hb] at hc
  simp only [cond_false] at hc
  cases hc
set_option maxRecDepth 100000 in
theorem F_ref12_GetSets_sim {R : Nat} {r : β} {a1 : Option Addr} {h : GH} {K : Value → GH → Option β} (hc : F_ref12_GetSets R a1 h (fun q0 q1 h' => K (Value.tuple #[Value.pointer q0, Value.int .i64 q1]) h') = some r) : ∃ v h', K v h' = some r ∧ CallSim Try.prog 37 [Value.pointer a1] h v h' := by
  unfold F_ref12_GetSets G_ref12_GetSets at hc
  obtain ⟨v, h', hk, hs⟩ := gfun_sim (CF_ref12_GetSets_sim (R := R)) mixed_ok (fun f h => by cases h) Try.func37 (by kernel_rfl) hc
  obtain ⟨vs, rfl, hl, hk⟩ := exTup_v hk
  obtain ⟨v0, t0, hk⟩ := exV_v hk
  obtain ⟨u0, e0, hk⟩ := exP_v hk; cases e0
  obtain ⟨v1, t1, hk⟩ := exV_v hk
  obtain ⟨u1, e1, hk⟩ := exI_v hk; cases e1
  obtain rfl := arr2 hl t0 t1
  exact ⟨_, h', hk, hs⟩
/-! F38 (*duffel/duffelref13.Machine).Full -/
def CF_ref13_Machine_Full  : Orc β := fun f args h K => none
def HF_ref13_Machine_Full : Hints := ⟨[], [], []⟩
noncomputable def G_ref13_Machine_Full  (R : Nat) (a1 : Option Addr) (h : GH) (K : Bool → GH → Option β) : Option β := gfun Try.prog (CF_ref13_Machine_Full ) HF_ref13_Machine_Full R Try.f38 [Value.pointer a1] h (fun v h' => exB (some v) fun u18 => K u18 h')
set_option maxRecDepth 100000 in
theorem F_ref13_Machine_Full_gen  (R : Nat) (a1 : Option Addr) (h : GH) (K : Bool → GH → Option β) : G_ref13_Machine_Full  R a1 h K =
    exA a1 fun g2 o3 => exI .i64 (h.cell ⟨g2, o3 + 2, none⟩) fun x4 => (bif x4 == 0 then exA a1 fun g5 o6 => exP (h.cell ⟨g5, o6 + 1, none⟩) fun x7 => exA x7 fun g8 o9 => exS (h.cell ⟨g8, o9 + 3, none⟩) fun x10 => exA a1 fun g11 o12 => exP (h.cell ⟨g11, o12 + 1, none⟩) fun x13 => exA x13 fun g14 o15 => exI .i64 (h.cell ⟨g14, o15 + 1, none⟩) fun x16 => K (((x10.n : Nat) : Int) == x16) h else K false h) := by kernel_rfl
noncomputable def F_ref13_Machine_Full (R : Nat) (a1 : Option Addr) (h : GH) (K : Bool → GH → Option β) : Option β := G_ref13_Machine_Full  R a1 h K
theorem CF_ref13_Machine_Full_sim : SimOrc Try.prog (CF_ref13_Machine_Full (β := β)) := by
  intro f args h K r hc
  cases hc
set_option maxRecDepth 100000 in
theorem F_ref13_Machine_Full_sim {R : Nat} {r : β} {a1 : Option Addr} {h : GH} {K : Value → GH → Option β} (hc : F_ref13_Machine_Full R a1 h (fun q0 h' => K (Value.bool q0) h') = some r) : ∃ v h', K v h' = some r ∧ CallSim Try.prog 38 [Value.pointer a1] h v h' := by
  unfold F_ref13_Machine_Full G_ref13_Machine_Full at hc
  obtain ⟨v, h', hk, hs⟩ := gfun_sim CF_ref13_Machine_Full_sim mixed_ok (fun f h => by cases h) Try.func38 (by kernel_rfl) hc
  obtain ⟨u0, e0, hk⟩ := exB_v hk; cases e0
  exact ⟨_, h', hk, hs⟩
/-! F55 duffel/duffelref12.Cut -/
def CF_ref12_Cut (F_ref01_Cut : Sl → Int → GH → (Sl → GH → Option β) → Option β) : Orc β := fun f args h K => bif Nat.beq f 8 then (match args with | [.slice p1a p1n p1c, .int .i64 p2] => F_ref01_Cut ⟨p1a, p1n, p1c⟩ p2 h (fun q4 h' => K (Value.slice q4.a q4.n q4.c) h') | _ => none) else none
def HF_ref12_Cut : Hints := ⟨[], [], []⟩
noncomputable def G_ref12_Cut (F_ref01_Cut : Sl → Int → GH → (Sl → GH → Option β) → Option β) (R : Nat) (a1 : Sl) (h : GH) (K : Sl → GH → Option β) : Option β := gfun Try.prog (CF_ref12_Cut F_ref01_Cut) HF_ref12_Cut R Try.f55 [Value.slice a1.a a1.n a1.c] h (fun v h' => exS (some v) fun u5 => K u5 h')
set_option maxRecDepth 100000 in
theorem F_ref12_Cut_gen (F_ref01_Cut : Sl → Int → GH → (Sl → GH → Option β) → Option β) (R : Nat) (a1 : Sl) (h : GH) (K : Sl → GH → Option β) : G_ref12_Cut F_ref01_Cut R a1 h K =
    F_ref01_Cut a1 32 h fun r2 h3 => K r2 h3 := by kernel_rfl
noncomputable def F_ref12_Cut (R : Nat) (a1 : Sl) (h : GH) (K : Sl → GH → Option β) : Option β := G_ref12_Cut (F_ref01_Cut R) R a1 h K
set_option maxRecDepth 100000 in
theorem CF_ref12_Cut_sim {R : Nat} : SimOrc Try.prog (CF_ref12_Cut (F_ref01_Cut R) (β := β)) := by
  intro f args h K r hc
  unfold CF_ref12_Cut at hc
  cases hb : Nat.beq f 8 with
  | true =>
    rw [hb] at hc
    simp only [cond_true] at hc
    obtain rfl := Nat.eq_of_beq_eq_true hb
    split at hc
    · exact any_call (F_ref01_Cut_sim (K := K) hc)
    · cases hc
  | false =>
  rw [hb] at hc
  simp only [cond_false] at hc
  cases hc
set_option maxRecDepth 100000 in
theorem F_ref12_Cut_sim {R : Nat} {r : β} {a1 : Sl} {h : GH} {K : Value → GH → Option β} (hc : F_ref12_Cut R a1 h (fun q0 h' => K (Value.slice q0.a q0.n q0.c) h') = some r) : ∃ v h', K v h' = some r ∧ CallSim Try.prog 55 [Value.slice a1.a a1.n a1.c] h v h' := by
  unfold F_ref12_Cut G_ref12_Cut at hc
  obtain ⟨v, h', hk, hs⟩ := gfun_sim (CF_ref12_Cut_sim (R := R)) mixed_ok (fun f h => by cases h) Try.func55 (by kernel_rfl) hc
  obtain ⟨u0, e0, hk⟩ := exS_v hk; cases e0
  exact ⟨_, h', hk, hs⟩
/-! F58 duffel/duffelref12.Width -/
def CF_ref12_Width  : Orc β := fun f args h K => none
def HF_ref12_Width : Hints := ⟨[(4, [0, 3, 4], [(0, [(3, .ty 3)])], none)], [], []⟩
noncomputable def BF_ref12_Width : Code := match Try.f58.body with | some c => c | none => .skip
noncomputable def F_ref12_Width_l0  (R : Nat) (n : Nat) (y2 : Int) (y3 : Int) (y4 : Int) (h : GH) (K0 : Int → GH → Option β) : Option β := gloop (gcode Try.prog (CF_ref12_Width ) Try.f58.ntmps HF_ref12_Width R (at_ [true, true, true, false, false, false] BF_ref12_Width)) [0, 3, 4] n [(0, Value.int .i64 y2), (3, Value.int .i64 y3), (4, Value.int .i64 y4)] h (fun i e' h' => bif Nat.beq i 0 then (exI .i64 (some (e'.get 3)) fun u9 => K0 u9 h') else none) (fun e' h' => none)
set_option maxRecDepth 100000 in
theorem F_ref12_Width_l0_succ  (R : Nat) (n : Nat) (y2 : Int) (y3 : Int) (y4 : Int) (h : GH) (K0 : Int → GH → Option β) : F_ref12_Width_l0  R (n + 1) y2 y3 y4 h K0 =
    (bif decide (y4 < y2) then F_ref12_Width_l0 R n y2 (IntKind.wrap .i64 (y3 + 1)) (IntKind.wrap .i64 (y4 * 2)) h K0 else K0 y3 h) := by kernel_rfl
noncomputable def G_ref12_Width  (R : Nat) (a1 : Int) (h : GH) (K : Int → GH → Option β) : Option β := gfun Try.prog (CF_ref12_Width ) HF_ref12_Width R Try.f58 [Value.int .i64 a1] h (fun v h' => exI .i64 (some v) fun u10 => K u10 h')
set_option maxRecDepth 100000 in
theorem F_ref12_Width_gen  (R : Nat) (a1 : Int) (h : GH) (K : Int → GH → Option β) : G_ref12_Width  R a1 h K =
    (bif decide (a1 < 1) then K 0 h else (bif decide (a1 > 32) then K 0 h else F_ref12_Width_l0 R R a1 1 2 h (fun w6 h7 => K w6 h7))) := by kernel_rfl
noncomputable def F_ref12_Width (R : Nat) (a1 : Int) (h : GH) (K : Int → GH → Option β) : Option β := G_ref12_Width  R a1 h K
theorem CF_ref12_Width_sim : SimOrc Try.prog (CF_ref12_Width (β := β)) := by
  intro f args h K r hc
  cases hc
set_option maxRecDepth 100000 in
theorem F_ref12_Width_sim {R : Nat} {r : β} {a1 : Int} {h : GH} {K : Value → GH → Option β} (hc : F_ref12_Width R a1 h (fun q0 h' => K (Value.int .i64 q0) h') = some r) : ∃ v h', K v h' = some r ∧ CallSim Try.prog 58 [Value.int .i64 a1] h v h' := by
  unfold F_ref12_Width G_ref12_Width at hc
  obtain ⟨v, h', hk, hs⟩ := gfun_sim CF_ref12_Width_sim mixed_ok (fun f h => by cases h) Try.func58 (by kernel_rfl) hc
  obtain ⟨u0, e0, hk⟩ := exI_v hk; cases e0
  exact ⟨_, h', hk, hs⟩
/-! F39 duffel/duffelref12.Get -/
def CF_ref12_Get (F_ref12_Cut : Sl → GH → (Sl → GH → Option β) → Option β) (F_ref01_Reader_Bits : Option Addr → Int → GH → (Int → GH → Option β) → Option β) (F_ref12_Width : Int → GH → (Int → GH → Option β) → Option β) : Orc β := fun f args h K => bif Nat.beq f 55 then (match args with | [.slice p1a p1n p1c] => F_ref12_Cut ⟨p1a, p1n, p1c⟩ h (fun q4 h' => K (Value.slice q4.a q4.n q4.c) h') | _ => none) else (bif Nat.beq f 70 then (match args with | [.pointer p1, .int .i64 p2] => F_ref01_Reader_Bits p1 p2 h (fun q31 h' => K (Value.int .u32 q31) h') | _ => none) else (bif Nat.beq f 58 then (match args with | [.int .i64 p1] => F_ref12_Width p1 h (fun q8 h' => K (Value.int .i64 q8) h') | _ => none) else none))
def HF_ref12_Get : Hints := ⟨[], [], []⟩
noncomputable def G_ref12_Get (F_ref12_Cut : Sl → GH → (Sl → GH → Option β) → Option β) (F_ref01_Reader_Bits : Option Addr → Int → GH → (Int → GH → Option β) → Option β) (F_ref12_Width : Int → GH → (Int → GH → Option β) → Option β) (R : Nat) (a1 : Option Addr) (a2 : Option Addr) (a3 : Int) (h : GH) (K : Int → Int → GH → Option β) : Option β := gfun Try.prog (CF_ref12_Get F_ref12_Cut F_ref01_Reader_Bits F_ref12_Width) HF_ref12_Get R Try.f39 [Value.pointer a1, Value.pointer a2, Value.int .u8 a3] h (fun v h' => exTup 2 v fun vs => exV (nth vs 0) fun v0 => exI .u8 (some v0) fun u36 => exV (nth vs 1) fun v1 => exI .i64 (some v1) fun u37 => K u36 u37 h')
set_option maxRecDepth 100000 in
theorem F_ref12_Get_gen (F_ref12_Cut : Sl → GH → (Sl → GH → Option β) → Option β) (F_ref01_Reader_Bits : Option Addr → Int → GH → (Int → GH → Option β) → Option β) (F_ref12_Width : Int → GH → (Int → GH → Option β) → Option β) (R : Nat) (a1 : Option Addr) (a2 : Option Addr) (a3 : Int) (h : GH) (K : Int → Int → GH → Option β) : G_ref12_Get F_ref12_Cut F_ref01_Reader_Bits F_ref12_Width R a1 a2 a3 h K =
    exA a2 fun g4 o5 => within a3 256 (exS (h.cell ⟨g4, o5 + a3.toNat * 1, none⟩) fun x6 => F_ref12_Cut x6 h fun r7 h8 => (bif decide (((r7.n : Nat) : Int) > 0) then F_ref01_Reader_Bits a1 1 h8 fun r9 h10 => (bif r9 == 0 then F_ref12_Width ((r7.n : Nat) : Int) h10 fun r11 h12 => F_ref01_Reader_Bits a1 r11 h12 fun r13 h14 => exA a1 fun g15 o16 => exI .i64 (h14.cell ⟨g15, o16 + 2, none⟩) fun x17 => (bif x17 != 0 then exA a1 fun g18 o19 => exI .i64 (h14.cell ⟨g18, o19 + 2, none⟩) fun x20 => K 0 x20 h14 else (bif decide ((IntKind.wrap .i64 r13) ≥ ((r7.n : Nat) : Int)) then K 0 7 h14 else exA r7.a fun g21 o22 => within (IntKind.wrap .i64 r13) r7.n (exI .u8 (h14.cell ⟨g21, o22 + (IntKind.wrap .i64 r13).toNat * 1, none⟩) fun x23 => K x23 0 h14))) else F_ref01_Reader_Bits a1 8 h10 fun r24 h25 => exA a1 fun g26 o27 => exI .i64 (h25.cell ⟨g26, o27 + 2, none⟩) fun x28 => K (IntKind.wrap .u8 r24) x28 h25) else F_ref01_Reader_Bits a1 8 h8 fun r29 h30 => exA a1 fun g31 o32 => exI .i64 (h30.cell ⟨g31, o32 + 2, none⟩) fun x33 => K (IntKind.wrap .u8 r29) x33 h30)) := by kernel_rfl
noncomputable def F_ref12_Get (R : Nat) (a1 : Option Addr) (a2 : Option Addr) (a3 : Int) (h : GH) (K : Int → Int → GH → Option β) : Option β := G_ref12_Get (F_ref12_Cut R) (F_ref01_Reader_Bits R) (F_ref12_Width R) R a1 a2 a3 h K
set_option maxRecDepth 100000 in
theorem CF_ref12_Get_sim {R : Nat} : SimOrc Try.prog (CF_ref12_Get (F_ref12_Cut R) (F_ref01_Reader_Bits R) (F_ref12_Width R) (β := β)) := by
  intro f args h K r hc
  unfold CF_ref12_Get at hc
  cases hb : Nat.beq f 55 with
  | true =>
    rw [hb] at hc
    simp only [cond_true] at hc
    obtain rfl := Nat.eq_of_beq_eq_true hb
    split at hc
    · exact any_call (F_ref12_Cut_sim (K := K) hc)
    · cases hc
  | false =>
  rw [hb] at hc
  simp only [cond_false] at hc
  cases hb : Nat.beq f 70 with
  | true =>
    rw [hb] at hc
    simp only [cond_true] at hc
    obtain rfl := Nat.eq_of_beq_eq_true hb
    split at hc
    · exact any_call (F_ref01_Reader_Bits_sim (K := K) hc)
    · cases hc
  | false =>
  rw [hb] at hc
  simp only [cond_false] at hc
  cases hb : Nat.beq f 58 with
  | true =>
    rw [hb] at hc
    simp only [cond_true] at hc
    obtain rfl := Nat.eq_of_beq_eq_true hb
    split at hc
    · exact any_call (F_ref12_Width_sim (K := K) hc)
    · cases hc
  | false =>
  rw [hb] at hc
  simp only [cond_false] at hc
  cases hc
set_option maxRecDepth 100000 in
theorem F_ref12_Get_sim {R : Nat} {r : β} {a1 : Option Addr} {a2 : Option Addr} {a3 : Int} {h : GH} {K : Value → GH → Option β} (hc : F_ref12_Get R a1 a2 a3 h (fun q0 q1 h' => K (Value.tuple #[Value.int .u8 q0, Value.int .i64 q1]) h') = some r) : ∃ v h', K v h' = some r ∧ CallSim Try.prog 39 [Value.pointer a1, Value.pointer a2, Value.int .u8 a3] h v h' := by
  unfold F_ref12_Get G_ref12_Get at hc
  obtain ⟨v, h', hk, hs⟩ := gfun_sim (CF_ref12_Get_sim (R := R)) mixed_ok (fun f h => by cases h) Try.func39 (by kernel_rfl) hc
  obtain ⟨vs, rfl, hl, hk⟩ := exTup_v hk
  obtain ⟨v0, t0, hk⟩ := exV_v hk
  obtain ⟨u0, e0, hk⟩ := exI_v hk; cases e0
  obtain ⟨v1, t1, hk⟩ := exV_v hk
  obtain ⟨u1, e1, hk⟩ := exI_v hk; cases e1
  obtain rfl := arr2 hl t0 t1
  exact ⟨_, h', hk, hs⟩
/-! F52 duffel/duffelref13.two -/
def CF_ref13_two  : Orc β := fun f args h K => none
def HF_ref13_two : Hints := ⟨[(3, [0, 3, 4], [(0, [(3, .ty 3)])], none)], [], []⟩
noncomputable def BF_ref13_two : Code := match Try.f52.body with | some c => c | none => .skip
noncomputable def F_ref13_two_l0  (R : Nat) (n : Nat) (y2 : Int) (y3 : Int) (y4 : Int) (h : GH) (K0 : Int → GH → Option β) : Option β := gloop (gcode Try.prog (CF_ref13_two ) Try.f52.ntmps HF_ref13_two R (at_ [true, true, false, true, false, false] BF_ref13_two)) [0, 3, 4] n [(0, Value.int .i64 y2), (3, Value.int .i64 y3), (4, Value.int .i64 y4)] h (fun i e' h' => bif Nat.beq i 0 then (exI .i64 (some (e'.get 3)) fun u9 => K0 u9 h') else none) (fun e' h' => none)
set_option maxRecDepth 100000 in
theorem F_ref13_two_l0_succ  (R : Nat) (n : Nat) (y2 : Int) (y3 : Int) (y4 : Int) (h : GH) (K0 : Int → GH → Option β) : F_ref13_two_l0  R (n + 1) y2 y3 y4 h K0 =
    (bif decide (y4 < y2) then F_ref13_two_l0 R n y2 (IntKind.wrap .i64 (y3 * 2)) (IntKind.wrap .i64 (y4 + 1)) h K0 else K0 y3 h) := by kernel_rfl
noncomputable def G_ref13_two  (R : Nat) (a1 : Int) (h : GH) (K : Int → GH → Option β) : Option β := gfun Try.prog (CF_ref13_two ) HF_ref13_two R Try.f52 [Value.int .i64 a1] h (fun v h' => exI .i64 (some v) fun u10 => K u10 h')
set_option maxRecDepth 100000 in
theorem F_ref13_two_gen  (R : Nat) (a1 : Int) (h : GH) (K : Int → GH → Option β) : G_ref13_two  R a1 h K =
    F_ref13_two_l0 R R a1 1 0 h (fun w6 h7 => K w6 h7) := by kernel_rfl
noncomputable def F_ref13_two (R : Nat) (a1 : Int) (h : GH) (K : Int → GH → Option β) : Option β := G_ref13_two  R a1 h K
theorem CF_ref13_two_sim : SimOrc Try.prog (CF_ref13_two (β := β)) := by
  intro f args h K r hc
  cases hc
set_option maxRecDepth 100000 in
theorem F_ref13_two_sim {R : Nat} {r : β} {a1 : Int} {h : GH} {K : Value → GH → Option β} (hc : F_ref13_two R a1 h (fun q0 h' => K (Value.int .i64 q0) h') = some r) : ∃ v h', K v h' = some r ∧ CallSim Try.prog 52 [Value.int .i64 a1] h v h' := by
  unfold F_ref13_two G_ref13_two at hc
  obtain ⟨v, h', hk, hs⟩ := gfun_sim CF_ref13_two_sim mixed_ok (fun f h => by cases h) Try.func52 (by kernel_rfl) hc
  obtain ⟨u0, e0, hk⟩ := exI_v hk; cases e0
  exact ⟨_, h', hk, hs⟩
/-! F71 (*duffel/duffelref07.Out).Lit -/
def CF_ref07_Out_Lit  : Orc β := fun f args h K => none
def HF_ref07_Out_Lit : Hints := ⟨[], [], []⟩
noncomputable def G_ref07_Out_Lit  (R : Nat) (a1 : Option Addr) (a2 : Int) (h : GH) (K : Int → GH → Option β) : Option β := gfun Try.prog (CF_ref07_Out_Lit ) HF_ref07_Out_Lit R Try.f71 [Value.pointer a1, Value.int .u8 a2] h (fun v h' => exI .i64 (some v) fun u20 => K u20 h')
set_option maxRecDepth 100000 in
theorem F_ref07_Out_Lit_gen  (R : Nat) (a1 : Option Addr) (a2 : Int) (h : GH) (K : Int → GH → Option β) : G_ref07_Out_Lit  R a1 a2 h K =
    exA a1 fun g3 o4 => exS (h.cell ⟨g3, o4 + 3, none⟩) fun x5 => exA a1 fun g6 o7 => exI .i64 (h.cell ⟨g6, o7 + 1, none⟩) fun x8 => (bif decide (((x5.n : Nat) : Int) ≥ x8) then K 9 h else exA a1 fun g9 o10 => exS (h.cell ⟨g9, o10 + 3, none⟩) fun x11 => gnew [Value.int .u8 a2] 1 h fun g12 h13 => gappS 1 1 x11 ⟨(some ⟨g12, 0, none⟩), 1, 1⟩ h13 fun s14 h15 => exA a1 fun g16 o17 => gput g16 (o17 + 3) [Value.slice s14.a s14.n s14.c] h15 fun h18 => K 0 h18) := by kernel_rfl
noncomputable def F_ref07_Out_Lit (R : Nat) (a1 : Option Addr) (a2 : Int) (h : GH) (K : Int → GH → Option β) : Option β := G_ref07_Out_Lit  R a1 a2 h K
theorem CF_ref07_Out_Lit_sim : SimOrc Try.prog (CF_ref07_Out_Lit (β := β)) := by
  intro f args h K r hc
  cases hc
set_option maxRecDepth 100000 in
theorem F_ref07_Out_Lit_sim {R : Nat} {r : β} {a1 : Option Addr} {a2 : Int} {h : GH} {K : Value → GH → Option β} (hc : F_ref07_Out_Lit R a1 a2 h (fun q0 h' => K (Value.int .i64 q0) h') = some r) : ∃ v h', K v h' = some r ∧ CallSim Try.prog 71 [Value.pointer a1, Value.int .u8 a2] h v h' := by
  unfold F_ref07_Out_Lit G_ref07_Out_Lit at hc
  obtain ⟨v, h', hk, hs⟩ := gfun_sim CF_ref07_Out_Lit_sim mixed_ok (fun f h => by cases h) Try.func71 (by kernel_rfl) hc
  obtain ⟨u0, e0, hk⟩ := exI_v hk; cases e0
  exact ⟨_, h', hk, hs⟩
/-! F72 (*duffel/duffelref07.Out).Copy -/
def CF_ref07_Out_Copy  : Orc β := fun f args h K => none
def HF_ref07_Out_Copy : Hints := ⟨[(8, [0, 1, 2, 7], [(0, [])], none)], [], []⟩
noncomputable def BF_ref07_Out_Copy : Code := match Try.f72.body with | some c => c | none => .skip
noncomputable def F_ref07_Out_Copy_l0  (R : Nat) (n : Nat) (y19 : Option Addr) (y20 : Int) (y21 : Int) (y22 : Int) (h : GH) (K0 : GH → Option β) : Option β := gloop (gcode Try.prog (CF_ref07_Out_Copy ) Try.f72.ntmps HF_ref07_Out_Copy R (at_ [true, true, true, true, false, true, false, false] BF_ref07_Out_Copy)) [0, 1, 2, 7] n [(0, Value.pointer y19), (1, Value.int .i64 y20), (2, Value.int .i64 y21), (7, Value.int .i64 y22)] h (fun i e' h' => bif Nat.beq i 0 then (K0 h') else none) (fun e' h' => none)
set_option maxRecDepth 100000 in
theorem F_ref07_Out_Copy_l0_succ  (R : Nat) (n : Nat) (y19 : Option Addr) (y20 : Int) (y21 : Int) (y22 : Int) (h : GH) (K0 : GH → Option β) : F_ref07_Out_Copy_l0  R (n + 1) y19 y20 y21 y22 h K0 =
    (bif decide (y22 < y21) then exA y19 fun g23 o24 => exS (h.cell ⟨g23, o24 + 3, none⟩) fun x25 => (bif decide (y20 ≤ ((x25.n : Nat) : Int)) then exA y19 fun g26 o27 => exS (h.cell ⟨g26, o27 + 3, none⟩) fun x28 => exA y19 fun g29 o30 => exS (h.cell ⟨g29, o30 + 3, none⟩) fun x31 => exA x28.a fun g32 o33 => within (IntKind.wrap .i64 (((x31.n : Nat) : Int) - y20)) x28.n (exI .u8 (h.cell ⟨g32, o33 + (IntKind.wrap .i64 (((x31.n : Nat) : Int) - y20)).toNat * 1, none⟩) fun x34 => exA y19 fun g35 o36 => exS (h.cell ⟨g35, o36 + 3, none⟩) fun x37 => gnew [Value.int .u8 x34] 1 h fun g38 h39 => gappS 1 1 x37 ⟨(some ⟨g38, 0, none⟩), 1, 1⟩ h39 fun s40 h41 => exA y19 fun g42 o43 => gput g42 (o43 + 3) [Value.slice s40.a s40.n s40.c] h41 fun h44 => F_ref07_Out_Copy_l0 R n y19 y20 y21 (IntKind.wrap .i64 (y22 + 1)) h44 K0) else exA y19 fun g45 o46 => exS (h.cell ⟨g45, o46 + 3, none⟩) fun x47 => gnew [Value.int .u8 0] 1 h fun g48 h49 => gappS 1 1 x47 ⟨(some ⟨g48, 0, none⟩), 1, 1⟩ h49 fun s50 h51 => exA y19 fun g52 o53 => gput g52 (o53 + 3) [Value.slice s50.a s50.n s50.c] h51 fun h54 => F_ref07_Out_Copy_l0 R n y19 y20 y21 (IntKind.wrap .i64 (y22 + 1)) h54 K0) else K0 h) := by kernel_rfl
noncomputable def G_ref07_Out_Copy  (R : Nat) (a1 : Option Addr) (a2 : Int) (a3 : Int) (h : GH) (K : Int → GH → Option β) : Option β := gfun Try.prog (CF_ref07_Out_Copy ) HF_ref07_Out_Copy R Try.f72 [Value.pointer a1, Value.int .i64 a2, Value.int .i64 a3] h (fun v h' => exI .i64 (some v) fun u64 => K u64 h')
set_option maxRecDepth 100000 in
theorem F_ref07_Out_Copy_gen  (R : Nat) (a1 : Option Addr) (a2 : Int) (a3 : Int) (h : GH) (K : Int → GH → Option β) : G_ref07_Out_Copy  R a1 a2 a3 h K =
    (bif decide (a2 < 1) then K 2 h else (bif decide (a3 < 0) then K 2 h else exA a1 fun g4 o5 => exI .i64 (h.cell ⟨g4, o5 + 0, none⟩) fun x6 => (bif decide (a2 > x6) then K 8 h else exA a1 fun g7 o8 => exS (h.cell ⟨g7, o8 + 3, none⟩) fun x9 => (bif decide (a2 > ((x9.n : Nat) : Int)) then exA a1 fun g10 o11 => exB (h.cell ⟨g10, o11 + 2, none⟩) fun x12 => (bif !x12 then K 8 h else exA a1 fun g13 o14 => exI .i64 (h.cell ⟨g13, o14 + 1, none⟩) fun x15 => exA a1 fun g16 o17 => exS (h.cell ⟨g16, o17 + 3, none⟩) fun x18 => (bif decide (a3 > (IntKind.wrap .i64 (x15 - ((x18.n : Nat) : Int)))) then K 9 h else F_ref07_Out_Copy_l0 R R a1 a2 a3 0 h (fun h55 => K 0 h55))) else exA a1 fun g56 o57 => exI .i64 (h.cell ⟨g56, o57 + 1, none⟩) fun x58 => exA a1 fun g59 o60 => exS (h.cell ⟨g59, o60 + 3, none⟩) fun x61 => (bif decide (a3 > (IntKind.wrap .i64 (x58 - ((x61.n : Nat) : Int)))) then K 9 h else F_ref07_Out_Copy_l0 R R a1 a2 a3 0 h (fun h62 => K 0 h62)))))) := by kernel_rfl
noncomputable def F_ref07_Out_Copy (R : Nat) (a1 : Option Addr) (a2 : Int) (a3 : Int) (h : GH) (K : Int → GH → Option β) : Option β := G_ref07_Out_Copy  R a1 a2 a3 h K
theorem CF_ref07_Out_Copy_sim : SimOrc Try.prog (CF_ref07_Out_Copy (β := β)) := by
  intro f args h K r hc
  cases hc
set_option maxRecDepth 100000 in
theorem F_ref07_Out_Copy_sim {R : Nat} {r : β} {a1 : Option Addr} {a2 : Int} {a3 : Int} {h : GH} {K : Value → GH → Option β} (hc : F_ref07_Out_Copy R a1 a2 a3 h (fun q0 h' => K (Value.int .i64 q0) h') = some r) : ∃ v h', K v h' = some r ∧ CallSim Try.prog 72 [Value.pointer a1, Value.int .i64 a2, Value.int .i64 a3] h v h' := by
  unfold F_ref07_Out_Copy G_ref07_Out_Copy at hc
  obtain ⟨v, h', hk, hs⟩ := gfun_sim CF_ref07_Out_Copy_sim mixed_ok (fun f h => by cases h) Try.func72 (by kernel_rfl) hc
  obtain ⟨u0, e0, hk⟩ := exI_v hk; cases e0
  exact ⟨_, h', hk, hs⟩
/-! F40 (*duffel/duffelref13.Machine).Feed -/
def CF_ref13_Machine_Feed (F_ref13_Machine_Full : Option Addr → GH → (Bool → GH → Option β) → Option β) (F_ref13_two : Int → GH → (Int → GH → Option β) → Option β) (F_ref07_Out_Lit : Option Addr → Int → GH → (Int → GH → Option β) → Option β) (F_ref07_Out_Copy : Option Addr → Int → Int → GH → (Int → GH → Option β) → Option β) : Orc β := fun f args h K => bif Nat.beq f 38 then (match args with | [.pointer p1] => F_ref13_Machine_Full p1 h (fun q17 h' => K (Value.bool q17) h') | _ => none) else (bif Nat.beq f 52 then (match args with | [.int .i64 p1] => F_ref13_two p1 h (fun q8 h' => K (Value.int .i64 q8) h') | _ => none) else (bif Nat.beq f 71 then (match args with | [.pointer p1, .int .u8 p2] => F_ref07_Out_Lit p1 p2 h (fun q19 h' => K (Value.int .i64 q19) h') | _ => none) else (bif Nat.beq f 72 then (match args with | [.pointer p1, .int .i64 p2, .int .i64 p3] => F_ref07_Out_Copy p1 p2 p3 h (fun q63 h' => K (Value.int .i64 q63) h') | _ => none) else none)))
def HF_ref13_Machine_Feed : Hints := ⟨[], [], []⟩
noncomputable def G_ref13_Machine_Feed (F_ref13_Machine_Full : Option Addr → GH → (Bool → GH → Option β) → Option β) (F_ref13_two : Int → GH → (Int → GH → Option β) → Option β) (F_ref07_Out_Lit : Option Addr → Int → GH → (Int → GH → Option β) → Option β) (F_ref07_Out_Copy : Option Addr → Int → Int → GH → (Int → GH → Option β) → Option β) (R : Nat) (a1 : Option Addr) (a2 : Int) (h : GH) (K : Int → GH → Option β) : Option β := gfun Try.prog (CF_ref13_Machine_Feed F_ref13_Machine_Full F_ref13_two F_ref07_Out_Lit F_ref07_Out_Copy) HF_ref13_Machine_Feed R Try.f40 [Value.pointer a1, Value.int .u8 a2] h (fun v h' => exI .i64 (some v) fun u68 => K u68 h')
set_option maxRecDepth 100000 in
theorem F_ref13_Machine_Feed_gen (F_ref13_Machine_Full : Option Addr → GH → (Bool → GH → Option β) → Option β) (F_ref13_two : Int → GH → (Int → GH → Option β) → Option β) (F_ref07_Out_Lit : Option Addr → Int → GH → (Int → GH → Option β) → Option β) (F_ref07_Out_Copy : Option Addr → Int → Int → GH → (Int → GH → Option β) → Option β) (R : Nat) (a1 : Option Addr) (a2 : Int) (h : GH) (K : Int → GH → Option β) : G_ref13_Machine_Feed F_ref13_Machine_Full F_ref13_two F_ref07_Out_Lit F_ref07_Out_Copy R a1 a2 h K =
    F_ref13_Machine_Full a1 h fun r3 h4 => (bif r3 then K 9 h4 else exA a1 fun g5 o6 => exI .i64 (h4.cell ⟨g5, o6 + 0, none⟩) fun x7 => F_ref13_two (IntKind.wrap .i64 (8 - x7)) h4 fun r8 h9 => exA a1 fun g10 o11 => exI .i64 (h9.cell ⟨g10, o11 + 2, none⟩) fun x12 => (bif x12 == 0 then (bif a2 == 144 then exA a1 fun g13 o14 => gput g13 (o14 + 2) [Value.int .i64 1] h9 fun h15 => K 0 h15 else exA a1 fun g16 o17 => exP (h9.cell ⟨g16, o17 + 1, none⟩) fun x18 => F_ref07_Out_Lit x18 a2 h9 fun r19 h20 => K r19 h20) else (bif x12 == 1 then (bif a2 == 0 then exA a1 fun g21 o22 => exP (h9.cell ⟨g21, o22 + 1, none⟩) fun x23 => F_ref07_Out_Lit x23 144 h9 fun r24 h25 => (bif r24 == 0 then exA a1 fun g26 o27 => gput g26 (o27 + 2) [Value.int .i64 0] h25 fun h28 => K r24 h28 else K r24 h25) else (bif decide (r8 = 0) then none else exA a1 fun g29 o30 => gput g29 (o30 + 3) [Value.int .i64 (IntKind.wrap .i64 a2)] h9 fun h31 => exA a1 fun g32 o33 => gput g32 (o33 + 4) [Value.int .i64 (Int.tmod (IntKind.wrap .i64 a2) r8)] h31 fun h34 => exA a1 fun g35 o36 => gput g35 (o36 + 2) [Value.int .i64 3] h34 fun h37 => exA a1 fun g38 o39 => exI .i64 (h37.cell ⟨g38, o39 + 4, none⟩) fun x40 => (bif x40 == (IntKind.wrap .i64 (r8 - 1)) then exA a1 fun g41 o42 => gput g41 (o42 + 2) [Value.int .i64 2] h37 fun h43 => K 0 h43 else K 0 h37))) else (bif x12 == 2 then exA a1 fun g44 o45 => exI .i64 (h9.cell ⟨g44, o45 + 4, none⟩) fun x46 => exA a1 fun g47 o48 => gput g47 (o48 + 4) [Value.int .i64 (IntKind.wrap .i64 (x46 + (IntKind.wrap .i64 a2)))] h9 fun h49 => exA a1 fun g50 o51 => gput g50 (o51 + 2) [Value.int .i64 3] h49 fun h52 => K 0 h52 else exA a1 fun g53 o54 => exP (h9.cell ⟨g53, o54 + 1, none⟩) fun x55 => exA a1 fun g56 o57 => exI .i64 (h9.cell ⟨g56, o57 + 3, none⟩) fun x58 => (bif decide (r8 = 0) then none else exA a1 fun g59 o60 => exI .i64 (h9.cell ⟨g59, o60 + 4, none⟩) fun x61 => F_ref07_Out_Copy x55 (IntKind.wrap .i64 ((IntKind.wrap .i64 ((IntKind.wrap .i64 (256 * (IntKind.wrap .i64 (Int.tdiv x58 r8)))) + (IntKind.wrap .i64 a2))) + 1)) (IntKind.wrap .i64 (x61 + 3)) h9 fun r62 h63 => (bif r62 != 0 then K r62 h63 else exA a1 fun g64 o65 => gput g64 (o65 + 2) [Value.int .i64 0] h63 fun h66 => K 0 h66)))))) := by kernel_rfl
noncomputable def F_ref13_Machine_Feed (R : Nat) (a1 : Option Addr) (a2 : Int) (h : GH) (K : Int → GH → Option β) : Option β := G_ref13_Machine_Feed (F_ref13_Machine_Full R) (F_ref13_two R) (F_ref07_Out_Lit R) (F_ref07_Out_Copy R) R a1 a2 h K
set_option maxRecDepth 100000 in
theorem CF_ref13_Machine_Feed_sim {R : Nat} : SimOrc Try.prog (CF_ref13_Machine_Feed (F_ref13_Machine_Full R) (F_ref13_two R) (F_ref07_Out_Lit R) (F_ref07_Out_Copy R) (β := β)) := by
  intro f args h K r hc
  unfold CF_ref13_Machine_Feed at hc
  cases hb : Nat.beq f 38 with
  | true =>
    rw [hb] at hc
    simp only [cond_true] at hc
    obtain rfl := Nat.eq_of_beq_eq_true hb
    split at hc
    · exact any_call (F_ref13_Machine_Full_sim (K := K) hc)
    · cases hc
  | false =>
  rw [hb] at hc
  simp only [cond_false] at hc
  cases hb : Nat.beq f 52 with
  | true =>
    rw [hb] at hc
    simp only [cond_true] at hc
    obtain rfl := Nat.eq_of_beq_eq_true hb
    split at hc
    · exact any_call (F_ref13_two_sim (K := K) hc)
    · cases hc
  | false =>
  rw [hb] at hc
  simp only [cond_false] at hc
  cases hb : Nat.beq f 71 with
  | true =>
    rw [hb] at hc
    simp only [cond_true] at hc
    obtain rfl := Nat.eq_of_beq_eq_true hb
    split at hc
    · exact any_call (F_ref07_Out_Lit_sim (K := K) hc)
    · cases hc
  | false =>
  rw [hb] at hc
  simp only [cond_false] at hc
  cases hb : Nat.beq f 72 with
  | true =>
    rw [hb] at hc
    simp only [cond_true] at hc
    obtain rfl := Nat.eq_of_beq_eq_true hb
    split at hc
    · exact any_call (F_ref07_Out_Copy_sim (K := K) hc)
    · cases hc
  | false =>
  rw [hb] at hc
  simp only [cond_false] at hc
  cases hc
set_option maxRecDepth 100000 in
theorem F_ref13_Machine_Feed_sim {R : Nat} {r : β} {a1 : Option Addr} {a2 : Int} {h : GH} {K : Value → GH → Option β} (hc : F_ref13_Machine_Feed R a1 a2 h (fun q0 h' => K (Value.int .i64 q0) h') = some r) : ∃ v h', K v h' = some r ∧ CallSim Try.prog 40 [Value.pointer a1, Value.int .u8 a2] h v h' := by
  unfold F_ref13_Machine_Feed G_ref13_Machine_Feed at hc
  obtain ⟨v, h', hk, hs⟩ := gfun_sim (CF_ref13_Machine_Feed_sim (R := R)) mixed_ok (fun f h => by cases h) Try.func40 (by kernel_rfl) hc
  obtain ⟨u0, e0, hk⟩ := exI_v hk; cases e0
  exact ⟨_, h', hk, hs⟩
/-! F15 duffel/duffelref14.Decode -/
def CF_ref14_Decode (F_ref13_New : Int → Int → GH → (Option Addr → Int → GH → Option β) → Option β) (F_ref12_GetSets : Option Addr → GH → (Option Addr → Int → GH → Option β) → Option β) (F_ref13_Machine_Full : Option Addr → GH → (Bool → GH → Option β) → Option β) (F_ref12_Get : Option Addr → Option Addr → Int → GH → (Int → Int → GH → Option β) → Option β) (F_ref13_Machine_Feed : Option Addr → Int → GH → (Int → GH → Option β) → Option β) (F_ref01_Reader_Left : Option Addr → GH → (Int → GH → Option β) → Option β) : Orc β := fun f args h K => bif Nat.beq f 36 then (match args with | [.int .i64 p1, .int .i64 p2] => F_ref13_New p1 p2 h (fun q7 q8 h' => K (Value.tuple #[Value.pointer q7, Value.int .i64 q8]) h') | _ => none) else (bif Nat.beq f 37 then (match args with | [.pointer p1] => F_ref12_GetSets p1 h (fun q51 q52 h' => K (Value.tuple #[Value.pointer q51, Value.int .i64 q52]) h') | _ => none) else (bif Nat.beq f 38 then (match args with | [.pointer p1] => F_ref13_Machine_Full p1 h (fun q17 h' => K (Value.bool q17) h') | _ => none) else (bif Nat.beq f 39 then (match args with | [.pointer p1, .pointer p2, .int .u8 p3] => F_ref12_Get p1 p2 p3 h (fun q34 q35 h' => K (Value.tuple #[Value.int .u8 q34, Value.int .i64 q35]) h') | _ => none) else (bif Nat.beq f 40 then (match args with | [.pointer p1, .int .u8 p2] => F_ref13_Machine_Feed p1 p2 h (fun q67 h' => K (Value.int .i64 q67) h') | _ => none) else (bif Nat.beq f 41 then (match args with | [.pointer p1] => F_ref01_Reader_Left p1 h (fun q11 h' => K (Value.int .i64 q11) h') | _ => none) else none)))))
def HF_ref14_Decode : Hints := ⟨[(14, [9, 11, 12, 14, 15], [(0, [(9, .ty 65), (11, .ty 68), (15, .ty 3)])], some [(6, .ty 22), (7, .ty 3), (8, .ty 3)])], [], []⟩
noncomputable def BF_ref14_Decode : Code := match Try.f15.body with | some c => c | none => .skip
noncomputable def F_ref14_Decode_l0 (F_ref13_New : Int → Int → GH → (Option Addr → Int → GH → Option β) → Option β) (F_ref12_GetSets : Option Addr → GH → (Option Addr → Int → GH → Option β) → Option β) (F_ref13_Machine_Full : Option Addr → GH → (Bool → GH → Option β) → Option β) (F_ref12_Get : Option Addr → Option Addr → Int → GH → (Int → Int → GH → Option β) → Option β) (F_ref13_Machine_Feed : Option Addr → Int → GH → (Int → GH → Option β) → Option β) (F_ref01_Reader_Left : Option Addr → GH → (Int → GH → Option β) → Option β) (R : Nat) (n : Nat) (y12 : Option Addr) (y13 : Option Addr) (y14 : Option Addr) (y15 : Int) (y16 : Int) (h : GH) (K0 : Option Addr → Option Addr → Int → GH → Option β) (Kr : Sl → Int → Int → GH → Option β) : Option β := gloop (gcode Try.prog (CF_ref14_Decode F_ref13_New F_ref12_GetSets F_ref13_Machine_Full F_ref12_Get F_ref13_Machine_Feed F_ref01_Reader_Left) Try.f15.ntmps HF_ref14_Decode R (at_ [true, true, true, true, true, true, true, true, true, true, false, false, false] BF_ref14_Decode)) [9, 11, 12, 14, 15] n [(9, Value.pointer y12), (11, Value.pointer y13), (12, Value.pointer y14), (14, Value.int .u8 y15), (15, Value.int .i64 y16)] h (fun i e' h' => bif Nat.beq i 0 then (exP (some (e'.get 9)) fun u70 => exP (some (e'.get 11)) fun u71 => exI .i64 (some (e'.get 15)) fun u72 => K0 u70 u71 u72 h') else none) (fun e' h' => exS (some (e'.get 6)) fun u73 => exI .i64 (some (e'.get 7)) fun u74 => exI .i64 (some (e'.get 8)) fun u75 => Kr u73 u74 u75 h')
set_option maxRecDepth 100000 in
theorem F_ref14_Decode_l0_succ (F_ref13_New : Int → Int → GH → (Option Addr → Int → GH → Option β) → Option β) (F_ref12_GetSets : Option Addr → GH → (Option Addr → Int → GH → Option β) → Option β) (F_ref13_Machine_Full : Option Addr → GH → (Bool → GH → Option β) → Option β) (F_ref12_Get : Option Addr → Option Addr → Int → GH → (Int → Int → GH → Option β) → Option β) (F_ref13_Machine_Feed : Option Addr → Int → GH → (Int → GH → Option β) → Option β) (F_ref01_Reader_Left : Option Addr → GH → (Int → GH → Option β) → Option β) (R : Nat) (n : Nat) (y12 : Option Addr) (y13 : Option Addr) (y14 : Option Addr) (y15 : Int) (y16 : Int) (h : GH) (K0 : Option Addr → Option Addr → Int → GH → Option β) (Kr : Sl → Int → Int → GH → Option β) : F_ref14_Decode_l0 F_ref13_New F_ref12_GetSets F_ref13_Machine_Full F_ref12_Get F_ref13_Machine_Feed F_ref01_Reader_Left R (n + 1) y12 y13 y14 y15 y16 h K0 Kr =
    F_ref13_Machine_Full y12 h fun r23 h24 => (bif !r23 then F_ref12_Get y13 y14 y15 h24 fun r25 r26 h27 => (bif r26 != 0 then Kr ⟨none, 0, 0⟩ 0 r26 h27 else F_ref13_Machine_Feed y12 r25 h27 fun r28 h29 => (bif r28 != 0 then Kr ⟨none, 0, 0⟩ 0 r28 h29 else F_ref14_Decode_l0 F_ref13_New F_ref12_GetSets F_ref13_Machine_Full F_ref12_Get F_ref13_Machine_Feed F_ref01_Reader_Left R n y12 y13 y14 r25 (IntKind.wrap .i64 (y16 + 1)) h29 K0 Kr)) else K0 y12 y13 y16 h24) := by kernel_rfl
noncomputable def G_ref14_Decode (F_ref13_New : Int → Int → GH → (Option Addr → Int → GH → Option β) → Option β) (F_ref12_GetSets : Option Addr → GH → (Option Addr → Int → GH → Option β) → Option β) (F_ref13_Machine_Full : Option Addr → GH → (Bool → GH → Option β) → Option β) (F_ref12_Get : Option Addr → Option Addr → Int → GH → (Int → Int → GH → Option β) → Option β) (F_ref13_Machine_Feed : Option Addr → Int → GH → (Int → GH → Option β) → Option β) (F_ref01_Reader_Left : Option Addr → GH → (Int → GH → Option β) → Option β) (R : Nat) (a1 : Sl) (a2 : Int) (a3 : Int) (h : GH) (K : Sl → Int → Int → GH → Option β) : Option β := gfun Try.prog (CF_ref14_Decode F_ref13_New F_ref12_GetSets F_ref13_Machine_Full F_ref12_Get F_ref13_Machine_Feed F_ref01_Reader_Left) HF_ref14_Decode R Try.f15 [Value.slice a1.a a1.n a1.c, Value.int .i64 a2, Value.int .i64 a3] h (fun v h' => exTup 3 v fun vs => exV (nth vs 0) fun v0 => exS (some v0) fun u76 => exV (nth vs 1) fun v1 => exI .i64 (some v1) fun u77 => exV (nth vs 2) fun v2 => exI .i64 (some v2) fun u78 => K u76 u77 u78 h')
set_option maxRecDepth 100000 in
theorem F_ref14_Decode_gen (F_ref13_New : Int → Int → GH → (Option Addr → Int → GH → Option β) → Option β) (F_ref12_GetSets : Option Addr → GH → (Option Addr → Int → GH → Option β) → Option β) (F_ref13_Machine_Full : Option Addr → GH → (Bool → GH → Option β) → Option β) (F_ref12_Get : Option Addr → Option Addr → Int → GH → (Int → Int → GH → Option β) → Option β) (F_ref13_Machine_Feed : Option Addr → Int → GH → (Int → GH → Option β) → Option β) (F_ref01_Reader_Left : Option Addr → GH → (Int → GH → Option β) → Option β) (R : Nat) (a1 : Sl) (a2 : Int) (a3 : Int) (h : GH) (K : Sl → Int → Int → GH → Option β) : G_ref14_Decode F_ref13_New F_ref12_GetSets F_ref13_Machine_Full F_ref12_Get F_ref13_Machine_Feed F_ref01_Reader_Left R a1 a2 a3 h K =
    F_ref13_New a2 a3 h fun r4 r5 h6 => (bif r5 != 0 then K ⟨none, 0, 0⟩ 0 r5 h6 else (bif a3 == 0 then (bif decide (((a1.n : Nat) : Int) > 0) then K ⟨none, 0, 0⟩ 0 5 h6 else (bif a3 == 0 then K ⟨none, 0, 0⟩ 0 0 h6 else gnew [Value.slice a1.a a1.n a1.c, Value.int .i64 0, Value.int .i64 0] 0 h6 fun g7 h8 => F_ref12_GetSets (some ⟨g7, 0, none⟩) h8 fun r9 r10 h11 => (bif r10 != 0 then K ⟨none, 0, 0⟩ 0 r10 h11 else F_ref14_Decode_l0 F_ref13_New F_ref12_GetSets F_ref13_Machine_Full F_ref12_Get F_ref13_Machine_Feed F_ref01_Reader_Left R R r4 (some ⟨g7, 0, none⟩) r9 0 0 h11 (fun w30 w31 w32 h33 => F_ref01_Reader_Left w31 h33 fun r34 h35 => (bif decide (r34 ≥ 8) then K ⟨none, 0, 0⟩ 0 5 h35 else exA w30 fun g36 o37 => exP (h35.cell ⟨g36, o37 + 1, none⟩) fun x38 => exA x38 fun g39 o40 => exS (h35.cell ⟨g39, o40 + 3, none⟩) fun x41 => K x41 w32 0 h35)) (fun w42 w43 w44 h45 => K w42 w43 w44 h45)))) else (bif a3 == 0 then K ⟨none, 0, 0⟩ 0 0 h6 else gnew [Value.slice a1.a a1.n a1.c, Value.int .i64 0, Value.int .i64 0] 0 h6 fun g46 h47 => F_ref12_GetSets (some ⟨g46, 0, none⟩) h47 fun r48 r49 h50 => (bif r49 != 0 then K ⟨none, 0, 0⟩ 0 r49 h50 else F_ref14_Decode_l0 F_ref13_New F_ref12_GetSets F_ref13_Machine_Full F_ref12_Get F_ref13_Machine_Feed F_ref01_Reader_Left R R r4 (some ⟨g46, 0, none⟩) r48 0 0 h50 (fun w51 w52 w53 h54 => F_ref01_Reader_Left w52 h54 fun r55 h56 => (bif decide (r55 ≥ 8) then K ⟨none, 0, 0⟩ 0 5 h56 else exA w51 fun g57 o58 => exP (h56.cell ⟨g57, o58 + 1, none⟩) fun x59 => exA x59 fun g60 o61 => exS (h56.cell ⟨g60, o61 + 3, none⟩) fun x62 => K x62 w53 0 h56)) (fun w63 w64 w65 h66 => K w63 w64 w65 h66))))) := by kernel_rfl
noncomputable def F_ref14_Decode (R : Nat) (a1 : Sl) (a2 : Int) (a3 : Int) (h : GH) (K : Sl → Int → Int → GH → Option β) : Option β := G_ref14_Decode (F_ref13_New R) (F_ref12_GetSets R) (F_ref13_Machine_Full R) (F_ref12_Get R) (F_ref13_Machine_Feed R) (F_ref01_Reader_Left R) R a1 a2 a3 h K
set_option maxRecDepth 100000 in
theorem CF_ref14_Decode_sim {R : Nat} : SimOrc Try.prog (CF_ref14_Decode (F_ref13_New R) (F_ref12_GetSets R) (F_ref13_Machine_Full R) (F_ref12_Get R) (F_ref13_Machine_Feed R) (F_ref01_Reader_Left R) (β := β)) := by
  intro f args h K r hc
  unfold CF_ref14_Decode at hc
  cases hb : Nat.beq f 36 with
  | true =>
    rw [hb] at hc
    simp only [cond_true] at hc
    obtain rfl := Nat.eq_of_beq_eq_true hb
    split at hc
    · exact any_call (F_ref13_New_sim (K := K) hc)
    · cases hc
  | false =>
  rw [hb] at hc
  simp only [cond_false] at hc
  cases hb : Nat.beq f 37 with
  | true =>
    rw [hb] at hc
    simp only [cond_true] at hc
    obtain rfl := Nat.eq_of_beq_eq_true hb
    split at hc
    · exact any_call (F_ref12_GetSets_sim (K := K) hc)
    · cases hc
  | false =>
  rw [hb] at hc
  simp only [cond_false] at hc
  cases hb : Nat.beq f 38 with
  | true =>
    rw [hb] at hc
    simp only [cond_true] at hc
    obtain rfl := Nat.eq_of_beq_eq_true hb
    split at hc
    · exact any_call (F_ref13_Machine_Full_sim (K := K) hc)
    · cases hc
  | false =>
  rw [hb] at hc
  simp only [cond_false] at hc
  cases hb : Nat.beq f 39 with
  | true =>
    rw [hb] at hc
    simp only [cond_true] at hc
    obtain rfl := Nat.eq_of_beq_eq_true hb
    split at hc
    · exact any_call (F_ref12_Get_sim (K := K) hc)
    · cases hc
  | false =>
  rw [hb] at hc
  simp only [cond_false] at hc
  cases hb : Nat.beq f 40 with
  | true =>
    rw [hb] at hc
    simp only [cond_true] at hc
    obtain rfl := Nat.eq_of_beq_eq_true hb
    split at hc
    · exact any_call (F_ref13_Machine_Feed_sim (K := K) hc)
    · cases hc
  | false =>
  rw [hb] at hc
  simp only [cond_false] at hc
  cases hb : Nat.beq f 41 with
  | true =>
    rw [hb] at hc
    simp only [cond_true] at hc
    obtain rfl := Nat.eq_of_beq_eq_true hb
    split at hc
    · exact any_call (F_ref01_Reader_Left_sim (K := K) hc)
    · cases hc
  | false =>
  rw [hb] at hc
  simp only [cond_false] at hc
  cases hc
set_option maxRecDepth 100000 in
theorem F_ref14_Decode_sim {R : Nat} {r : β} {a1 : Sl} {a2 : Int} {a3 : Int} {h : GH} {K : Value → GH → Option β} (hc : F_ref14_Decode R a1 a2 a3 h (fun q0 q1 q2 h' => K (Value.tuple #[Value.slice q0.a q0.n q0.c, Value.int .i64 q1, Value.int .i64 q2]) h') = some r) : ∃ v h', K v h' = some r ∧ CallSim Try.prog 15 [Value.slice a1.a a1.n a1.c, Value.int .i64 a2, Value.int .i64 a3] h v h' := by
  unfold F_ref14_Decode G_ref14_Decode at hc
  obtain ⟨v, h', hk, hs⟩ := gfun_sim (CF_ref14_Decode_sim (R := R)) mixed_ok (fun f h => by cases h) Try.func15 (by kernel_rfl) hc
  obtain ⟨vs, rfl, hl, hk⟩ := exTup_v hk
  obtain ⟨v0, t0, hk⟩ := exV_v hk
  obtain ⟨u0, e0, hk⟩ := exS_v hk; cases e0
  obtain ⟨v1, t1, hk⟩ := exV_v hk
  obtain ⟨u1, e1, hk⟩ := exI_v hk; cases e1
  obtain ⟨v2, t2, hk⟩ := exV_v hk
  obtain ⟨u2, e2, hk⟩ := exI_v hk; cases e2
  obtain rfl := arr3 hl t0 t1 t2
  exact ⟨_, h', hk, hs⟩
/-! F12 duffel/duffelref01.Same -/
def CF_ref01_Same  : Orc β := fun f args h K => none
def HF_ref01_Same : Hints := ⟨[(4, [0, 1, 5], [(0, [])], some [(4, .ty 4)])], [], []⟩
noncomputable def BF_ref01_Same : Code := match Try.f12.body with | some c => c | none => .skip
noncomputable def F_ref01_Same_l0  (R : Nat) (n : Nat) (y3 : Sl) (y4 : Sl) (y5 : Int) (h : GH) (K0 : GH → Option β) (Kr : Bool → GH → Option β) : Option β := gloop (gcode Try.prog (CF_ref01_Same ) Try.f12.ntmps HF_ref01_Same R (at_ [true, true, false, true, false, false] BF_ref01_Same)) [0, 1, 5] n [(0, Value.slice y3.a y3.n y3.c), (1, Value.slice y4.a y4.n y4.c), (5, Value.int .i64 y5)] h (fun i e' h' => bif Nat.beq i 0 then (K0 h') else none) (fun e' h' => exB (some (e'.get 4)) fun u17 => Kr u17 h')
set_option maxRecDepth 100000 in
theorem F_ref01_Same_l0_succ  (R : Nat) (n : Nat) (y3 : Sl) (y4 : Sl) (y5 : Int) (h : GH) (K0 : GH → Option β) (Kr : Bool → GH → Option β) : F_ref01_Same_l0  R (n + 1) y3 y4 y5 h K0 Kr =
    (bif decide (y5 < ((y3.n : Nat) : Int)) then exA y3.a fun g7 o8 => within y5 y3.n (exI .u8 (h.cell ⟨g7, o8 + y5.toNat * 1, none⟩) fun x9 => exA y4.a fun g10 o11 => within y5 y4.n (exI .u8 (h.cell ⟨g10, o11 + y5.toNat * 1, none⟩) fun x12 => (bif x9 != x12 then Kr false h else F_ref01_Same_l0 R n y3 y4 (IntKind.wrap .i64 (y5 + 1)) h K0 Kr))) else K0 h) := by kernel_rfl
noncomputable def G_ref01_Same  (R : Nat) (a1 : Sl) (a2 : Sl) (h : GH) (K : Bool → GH → Option β) : Option β := gfun Try.prog (CF_ref01_Same ) HF_ref01_Same R Try.f12 [Value.slice a1.a a1.n a1.c, Value.slice a2.a a2.n a2.c] h (fun v h' => exB (some v) fun u18 => K u18 h')
set_option maxRecDepth 100000 in
theorem F_ref01_Same_gen  (R : Nat) (a1 : Sl) (a2 : Sl) (h : GH) (K : Bool → GH → Option β) : G_ref01_Same  R a1 a2 h K =
    (bif ((a1.n : Nat) : Int) != ((a2.n : Nat) : Int) then K false h else F_ref01_Same_l0 R R a1 a2 0 h (fun h13 => K true h13) (fun w14 h15 => K w14 h15)) := by kernel_rfl
noncomputable def F_ref01_Same (R : Nat) (a1 : Sl) (a2 : Sl) (h : GH) (K : Bool → GH → Option β) : Option β := G_ref01_Same  R a1 a2 h K
theorem CF_ref01_Same_sim : SimOrc Try.prog (CF_ref01_Same (β := β)) := by
  intro f args h K r hc
  cases hc
set_option maxRecDepth 100000 in
theorem F_ref01_Same_sim {R : Nat} {r : β} {a1 : Sl} {a2 : Sl} {h : GH} {K : Value → GH → Option β} (hc : F_ref01_Same R a1 a2 h (fun q0 h' => K (Value.bool q0) h') = some r) : ∃ v h', K v h' = some r ∧ CallSim Try.prog 12 [Value.slice a1.a a1.n a1.c, Value.slice a2.a a2.n a2.c] h v h' := by
  unfold F_ref01_Same G_ref01_Same at hc
  obtain ⟨v, h', hk, hs⟩ := gfun_sim CF_ref01_Same_sim mixed_ok (fun f h => by cases h) Try.func12 (by kernel_rfl) hc
  obtain ⟨u0, e0, hk⟩ := exB_v hk; cases e0
  exact ⟨_, h', hk, hs⟩

end
end Go.Proofs.Ytdmemmpkkibckaa.Gx
