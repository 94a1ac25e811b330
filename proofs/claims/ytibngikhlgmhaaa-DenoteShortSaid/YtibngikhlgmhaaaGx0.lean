/- Functions of the program as the plain machine has them, each with its equation. Printed by a program of this place (wip/gx/gx.py) out of the translation. No condition. -/
import Derived.Test.YtibngikhlgmhaaaGxQ
import Derived.Test.YtibngikhlgmhaaaProg
import Derived.Test.YtibngikhlgmhaaaLv
namespace Go.Proofs.Ytibngikhlgmhaaa.Gx
open Go
set_option linter.unusedVariables false
theorem mixed_ok : Try.prog.follows .mixedOrders = true := by kernel_rfl
section
variable {β : Type}
/-! F12 duffel/duffelref01.Cut -/
def CF_ref01_Cut  : Orc β := fun f args h K => none
def HF_ref01_Cut : Hints := ⟨[], [], []⟩
noncomputable def G_ref01_Cut  (R : Nat) (a1 : Sl) (a2 : Int) (h : GH) (K : Sl → GH → Option β) : Option β := gfun Try.prog (CF_ref01_Cut ) HF_ref01_Cut R Try.f12 [Value.slice a1.a a1.n a1.c, Value.int .i64 a2] h (fun v h' => exS (some v) fun u5 => K u5 h')
set_option maxRecDepth 100000 in
theorem F_ref01_Cut_gen  (R : Nat) (a1 : Sl) (a2 : Int) (h : GH) (K : Sl → GH → Option β) : G_ref01_Cut  R a1 a2 h K =
    (bif decide (((a1.n : Nat) : Int) > a2) then bnd a2 a1.c fun m3 => K ⟨addO a1.a (0 * 1), m3 - 0, a1.c - 0⟩ h else K a1 h) := by kernel_rfl
noncomputable def F_ref01_Cut (R : Nat) (a1 : Sl) (a2 : Int) (h : GH) (K : Sl → GH → Option β) : Option β := G_ref01_Cut  R a1 a2 h K
theorem CF_ref01_Cut_sim : SimOrc Try.prog (CF_ref01_Cut (β := β)) := by
  intro f args h K r hc
  cases hc
set_option maxRecDepth 100000 in
theorem F_ref01_Cut_sim {R : Nat} {r : β} {a1 : Sl} {a2 : Int} {h : GH} {K : Value → GH → Option β} (hc : F_ref01_Cut R a1 a2 h (fun q0 h' => K (Value.slice q0.a q0.n q0.c) h') = some r) : ∃ v h', K v h' = some r ∧ CallSim Try.prog 12 [Value.slice a1.a a1.n a1.c, Value.int .i64 a2] h v h' := by
  unfold F_ref01_Cut G_ref01_Cut at hc
  obtain ⟨v, h', hk, hs⟩ := gfun_sim CF_ref01_Cut_sim mixed_ok (fun f h => by cases h) Try.func12 (by kernel_rfl) hc
  obtain ⟨u0, e0, hk⟩ := exS_v hk; cases e0
  exact ⟨_, h', hk, hs⟩
/-! F13 duffel/duffelref01.Copy -/
def CF_ref01_Copy  : Orc β := fun f args h K => none
def HF_ref01_Copy : Hints := ⟨[], [], []⟩
noncomputable def G_ref01_Copy  (R : Nat) (a1 : Sl) (h : GH) (K : Sl → GH → Option β) : Option β := gfun Try.prog (CF_ref01_Copy ) HF_ref01_Copy R Try.f13 [Value.slice a1.a a1.n a1.c] h (fun v h' => exS (some v) fun u5 => K u5 h')
set_option maxRecDepth 100000 in
theorem F_ref01_Copy_gen  (R : Nat) (a1 : Sl) (h : GH) (K : Sl → GH → Option β) : G_ref01_Copy  R a1 h K =
    gappS 1 1 ⟨none, 0, 0⟩ a1 h fun s2 h3 => K s2 h3 := by kernel_rfl
noncomputable def F_ref01_Copy (R : Nat) (a1 : Sl) (h : GH) (K : Sl → GH → Option β) : Option β := G_ref01_Copy  R a1 h K
theorem CF_ref01_Copy_sim : SimOrc Try.prog (CF_ref01_Copy (β := β)) := by
  intro f args h K r hc
  cases hc
set_option maxRecDepth 100000 in
theorem F_ref01_Copy_sim {R : Nat} {r : β} {a1 : Sl} {h : GH} {K : Value → GH → Option β} (hc : F_ref01_Copy R a1 h (fun q0 h' => K (Value.slice q0.a q0.n q0.c) h') = some r) : ∃ v h', K v h' = some r ∧ CallSim Try.prog 13 [Value.slice a1.a a1.n a1.c] h v h' := by
  unfold F_ref01_Copy G_ref01_Copy at hc
  obtain ⟨v, h', hk, hs⟩ := gfun_sim CF_ref01_Copy_sim mixed_ok (fun f h => by cases h) Try.func13 (by kernel_rfl) hc
  obtain ⟨u0, e0, hk⟩ := exS_v hk; cases e0
  exact ⟨_, h', hk, hs⟩
/-! F8 duffel/duffelref24.CutHead -/
def CF_ref24_CutHead (F_ref01_Cut : Sl → Int → GH → (Sl → GH → Option β) → Option β) (F_ref01_Copy : Sl → GH → (Sl → GH → Option β) → Option β) : Orc β := fun f args h K => bif Nat.beq f 12 then (match args with | [.slice p1a p1n p1c, .int .i64 p2] => F_ref01_Cut ⟨p1a, p1n, p1c⟩ p2 h (fun q4 h' => K (Value.slice q4.a q4.n q4.c) h') | _ => none) else (bif Nat.beq f 13 then (match args with | [.slice p1a p1n p1c] => F_ref01_Copy ⟨p1a, p1n, p1c⟩ h (fun q4 h' => K (Value.slice q4.a q4.n q4.c) h') | _ => none) else none)
def HF_ref24_CutHead : Hints := ⟨[], [], []⟩
noncomputable def G_ref24_CutHead (F_ref01_Cut : Sl → Int → GH → (Sl → GH → Option β) → Option β) (F_ref01_Copy : Sl → GH → (Sl → GH → Option β) → Option β) (R : Nat) (a1 : Int) (a2 : Int) (a3 : Int) (a4 : Int) (a5 : Int) (a6 : Int) (a7 : Int) (a8 : Int) (a9 : Sl) (a10 : Sl) (a11 : Int) (h : GH) (K : Int → Int → Int → Int → Int → Int → Int → Int → Sl → Sl → GH → Option β) : Option β := gfun Try.prog (CF_ref24_CutHead F_ref01_Cut F_ref01_Copy) HF_ref24_CutHead R Try.f8 [Value.agg #[Value.int .i64 a1, Value.int .i64 a2, Value.int .i64 a3, Value.int .i64 a4, Value.int .i64 a5, Value.int .u32 a6, Value.int .u32 a7, Value.int .u32 a8, Value.slice a9.a a9.n a9.c, Value.slice a10.a a10.n a10.c], Value.int .i64 a11] h (fun v h' => exAg v fun c59 => (bif Nat.beq c59.length 10 then exI .i64 (nth c59 (0)) fun u60 => exI .i64 (nth c59 (0 + 1)) fun u61 => exI .i64 (nth c59 (0 + 1 + 1)) fun u62 => exI .i64 (nth c59 (0 + 1 + 1 + 1)) fun u63 => exI .i64 (nth c59 (0 + 1 + 1 + 1 + 1)) fun u64 => exI .u32 (nth c59 (0 + 1 + 1 + 1 + 1 + 1)) fun u65 => exI .u32 (nth c59 (0 + 1 + 1 + 1 + 1 + 1 + 1)) fun u66 => exI .u32 (nth c59 (0 + 1 + 1 + 1 + 1 + 1 + 1 + 1)) fun u67 => exS (nth c59 (0 + 1 + 1 + 1 + 1 + 1 + 1 + 1 + 1)) fun u68 => exS (nth c59 (0 + 1 + 1 + 1 + 1 + 1 + 1 + 1 + 1 + 1)) fun u69 => K u60 u61 u62 u63 u64 u65 u66 u67 u68 u69 h' else none))
set_option maxRecDepth 100000 in
theorem F_ref24_CutHead_gen (F_ref01_Cut : Sl → Int → GH → (Sl → GH → Option β) → Option β) (F_ref01_Copy : Sl → GH → (Sl → GH → Option β) → Option β) (R : Nat) (a1 : Int) (a2 : Int) (a3 : Int) (a4 : Int) (a5 : Int) (a6 : Int) (a7 : Int) (a8 : Int) (a9 : Sl) (a10 : Sl) (a11 : Int) (h : GH) (K : Int → Int → Int → Int → Int → Int → Int → Int → Sl → Sl → GH → Option β) : G_ref24_CutHead F_ref01_Cut F_ref01_Copy R a1 a2 a3 a4 a5 a6 a7 a8 a9 a10 a11 h K =
    gnew [Value.int .i64 a1, Value.int .i64 a2, Value.int .i64 a3, Value.int .i64 a4, Value.int .i64 a5, Value.int .u32 a6, Value.int .u32 a7, Value.int .u32 a8, Value.slice a9.a a9.n a9.c, Value.slice a10.a a10.n a10.c] 0 h fun g12 h13 => gnew [Value.int .i64 0, Value.int .i64 0, Value.int .i64 0, Value.int .i64 0, Value.int .i64 0, Value.int .u32 0, Value.int .u32 0, Value.int .u32 0, Value.slice none 0 0, Value.slice none 0 0] 0 h13 fun g14 h15 => exS (h15.cell ⟨g12, 0 + 8, none⟩) fun x16 => F_ref01_Cut x16 a11 h15 fun r17 h18 => F_ref01_Copy r17 h18 fun r19 h20 => exS (h20.cell ⟨g12, 0 + 9, none⟩) fun x21 => F_ref01_Cut x21 a11 h20 fun r22 h23 => F_ref01_Copy r22 h23 fun r24 h25 => gput g12 (0 + 8) [Value.slice r19.a r19.n r19.c] h25 fun h26 => gput g12 (0 + 9) [Value.slice r24.a r24.n r24.c] h26 fun h27 => (bif sameAt g12 (0 + 9) 1 h18 h20 then (bif sameAt g12 (0 + 9) 1 h15 h18 then exI .i64 (h27.cell ⟨g12, 0, none⟩) fun x28 => exI .i64 (h27.cell ⟨g12, 0 + 1, none⟩) fun x29 => exI .i64 (h27.cell ⟨g12, 0 + 1 + 1, none⟩) fun x30 => exI .i64 (h27.cell ⟨g12, 0 + 1 + 1 + 1, none⟩) fun x31 => exI .i64 (h27.cell ⟨g12, 0 + 1 + 1 + 1 + 1, none⟩) fun x32 => exI .u32 (h27.cell ⟨g12, 0 + 1 + 1 + 1 + 1 + 1, none⟩) fun x33 => exI .u32 (h27.cell ⟨g12, 0 + 1 + 1 + 1 + 1 + 1 + 1, none⟩) fun x34 => exI .u32 (h27.cell ⟨g12, 0 + 1 + 1 + 1 + 1 + 1 + 1 + 1, none⟩) fun x35 => exS (h27.cell ⟨g12, 0 + 1 + 1 + 1 + 1 + 1 + 1 + 1 + 1, none⟩) fun x36 => exS (h27.cell ⟨g12, 0 + 1 + 1 + 1 + 1 + 1 + 1 + 1 + 1 + 1, none⟩) fun x37 => gput g14 (0) [Value.int .i64 x28, Value.int .i64 x29, Value.int .i64 x30, Value.int .i64 x31, Value.int .i64 x32, Value.int .u32 x33, Value.int .u32 x34, Value.int .u32 x35, Value.slice x36.a x36.n x36.c, Value.slice x37.a x37.n x37.c] h27 fun h38 => exI .i64 (h38.cell ⟨g14, 0, none⟩) fun x39 => exI .i64 (h38.cell ⟨g14, 0 + 1, none⟩) fun x40 => exI .i64 (h38.cell ⟨g14, 0 + 1 + 1, none⟩) fun x41 => exI .i64 (h38.cell ⟨g14, 0 + 1 + 1 + 1, none⟩) fun x42 => exI .i64 (h38.cell ⟨g14, 0 + 1 + 1 + 1 + 1, none⟩) fun x43 => exI .u32 (h38.cell ⟨g14, 0 + 1 + 1 + 1 + 1 + 1, none⟩) fun x44 => exI .u32 (h38.cell ⟨g14, 0 + 1 + 1 + 1 + 1 + 1 + 1, none⟩) fun x45 => exI .u32 (h38.cell ⟨g14, 0 + 1 + 1 + 1 + 1 + 1 + 1 + 1, none⟩) fun x46 => exS (h38.cell ⟨g14, 0 + 1 + 1 + 1 + 1 + 1 + 1 + 1 + 1, none⟩) fun x47 => exS (h38.cell ⟨g14, 0 + 1 + 1 + 1 + 1 + 1 + 1 + 1 + 1 + 1, none⟩) fun x48 => K x39 x40 x41 x42 x43 x44 x45 x46 x47 x48 h38 else none) else none) := by kernel_rfl
noncomputable def F_ref24_CutHead (R : Nat) (a1 : Int) (a2 : Int) (a3 : Int) (a4 : Int) (a5 : Int) (a6 : Int) (a7 : Int) (a8 : Int) (a9 : Sl) (a10 : Sl) (a11 : Int) (h : GH) (K : Int → Int → Int → Int → Int → Int → Int → Int → Sl → Sl → GH → Option β) : Option β := G_ref24_CutHead (F_ref01_Cut R) (F_ref01_Copy R) R a1 a2 a3 a4 a5 a6 a7 a8 a9 a10 a11 h K
set_option maxRecDepth 100000 in
theorem CF_ref24_CutHead_sim {R : Nat} : SimOrc Try.prog (CF_ref24_CutHead (F_ref01_Cut R) (F_ref01_Copy R) (β := β)) := by
  intro f args h K r hc
  unfold CF_ref24_CutHead at hc
  cases hb : Nat.beq f 12 with
  | true =>
    rw [hb] at hc
    simp only [cond_true] at hc
    obtain rfl := Nat.eq_of_beq_eq_true hb
    split at hc
    · exact any_call (F_ref01_Cut_sim (K := K) hc)
    · cases hc
  | false =>
  rw [hb] at hc
  simp only [cond_false] at hc
  cases hb : Nat.beq f 13 with
  | true =>
    rw [hb] at hc
    simp only [cond_true] at hc
    obtain rfl := Nat.eq_of_beq_eq_true hb
    split at hc
    · exact any_call (F_ref01_Copy_sim (K := K) hc)
    · cases hc
  | false =>
  rw [hb] at hc
  simp only [cond_false] at hc
  cases hc
set_option maxRecDepth 100000 in
theorem F_ref24_CutHead_sim {R : Nat} {r : β} {a1 : Int} {a2 : Int} {a3 : Int} {a4 : Int} {a5 : Int} {a6 : Int} {a7 : Int} {a8 : Int} {a9 : Sl} {a10 : Sl} {a11 : Int} {h : GH} {K : Value → GH → Option β} (hc : F_ref24_CutHead R a1 a2 a3 a4 a5 a6 a7 a8 a9 a10 a11 h (fun q0 q1 q2 q3 q4 q5 q6 q7 q8 q9 h' => K (Value.agg #[Value.int .i64 q0, Value.int .i64 q1, Value.int .i64 q2, Value.int .i64 q3, Value.int .i64 q4, Value.int .u32 q5, Value.int .u32 q6, Value.int .u32 q7, Value.slice q8.a q8.n q8.c, Value.slice q9.a q9.n q9.c]) h') = some r) : ∃ v h', K v h' = some r ∧ CallSim Try.prog 8 [Value.agg #[Value.int .i64 a1, Value.int .i64 a2, Value.int .i64 a3, Value.int .i64 a4, Value.int .i64 a5, Value.int .u32 a6, Value.int .u32 a7, Value.int .u32 a8, Value.slice a9.a a9.n a9.c, Value.slice a10.a a10.n a10.c], Value.int .i64 a11] h v h' := by
  unfold F_ref24_CutHead G_ref24_CutHead at hc
  obtain ⟨v, h', hk, hs⟩ := gfun_sim (CF_ref24_CutHead_sim (R := R)) mixed_ok (fun f h => by cases h) Try.func8 (by kernel_rfl) hc
  obtain ⟨cs0, f0, hk⟩ := exAg_v hk; cases f0; obtain ⟨hl0, hk⟩ := beq_v hk
  obtain ⟨u1, e1, hk⟩ := exI_v hk
  obtain ⟨u2, e2, hk⟩ := exI_v hk
  obtain ⟨u3, e3, hk⟩ := exI_v hk
  obtain ⟨u4, e4, hk⟩ := exI_v hk
  obtain ⟨u5, e5, hk⟩ := exI_v hk
  obtain ⟨u6, e6, hk⟩ := exI_v hk
  obtain ⟨u7, e7, hk⟩ := exI_v hk
  obtain ⟨u8, e8, hk⟩ := exI_v hk
  obtain ⟨u9, e9, hk⟩ := exS_v hk
  obtain ⟨u10, e10, hk⟩ := exS_v hk
  obtain rfl := arr10 hl0 e1 e2 e3 e4 e5 e6 e7 e8 e9 e10
  exact ⟨_, h', hk, hs⟩
/-! F44 duffel/duffelref26.Cut -/
def CF_ref26_Cut (F_ref24_CutHead : Int → Int → Int → Int → Int → Int → Int → Int → Sl → Sl → Int → GH → (Int → Int → Int → Int → Int → Int → Int → Int → Sl → Sl → GH → Option β) → Option β) (F_ref01_Cut : Sl → Int → GH → (Sl → GH → Option β) → Option β) (F_ref01_Copy : Sl → GH → (Sl → GH → Option β) → Option β) : Orc β := fun f args h K => bif Nat.beq f 8 then (match args with | [.agg ⟨[.int .i64 p1, .int .i64 p2, .int .i64 p3, .int .i64 p4, .int .i64 p5, .int .u32 p6, .int .u32 p7, .int .u32 p8, .slice p9a p9n p9c, .slice p10a p10n p10c]⟩, .int .i64 p11] => F_ref24_CutHead p1 p2 p3 p4 p5 p6 p7 p8 ⟨p9a, p9n, p9c⟩ ⟨p10a, p10n, p10c⟩ p11 h (fun q49 q50 q51 q52 q53 q54 q55 q56 q57 q58 h' => K (Value.agg #[Value.int .i64 q49, Value.int .i64 q50, Value.int .i64 q51, Value.int .i64 q52, Value.int .i64 q53, Value.int .u32 q54, Value.int .u32 q55, Value.int .u32 q56, Value.slice q57.a q57.n q57.c, Value.slice q58.a q58.n q58.c]) h') | _ => none) else (bif Nat.beq f 12 then (match args with | [.slice p1a p1n p1c, .int .i64 p2] => F_ref01_Cut ⟨p1a, p1n, p1c⟩ p2 h (fun q4 h' => K (Value.slice q4.a q4.n q4.c) h') | _ => none) else (bif Nat.beq f 13 then (match args with | [.slice p1a p1n p1c] => F_ref01_Copy ⟨p1a, p1n, p1c⟩ h (fun q4 h' => K (Value.slice q4.a q4.n q4.c) h') | _ => none) else none))
def HF_ref26_Cut : Hints := ⟨[], [], []⟩
noncomputable def G_ref26_Cut (F_ref24_CutHead : Int → Int → Int → Int → Int → Int → Int → Int → Sl → Sl → Int → GH → (Int → Int → Int → Int → Int → Int → Int → Int → Sl → Sl → GH → Option β) → Option β) (F_ref01_Cut : Sl → Int → GH → (Sl → GH → Option β) → Option β) (F_ref01_Copy : Sl → GH → (Sl → GH → Option β) → Option β) (R : Nat) (a1 : Int) (a2 : Int) (a3 : Int) (a4 : Int) (a5 : Int) (a6 : Int) (a7 : Int) (a8 : Int) (a9 : Sl) (a10 : Sl) (a11 : Int) (a12 : Int) (a13 : Int) (a14 : Int) (a15 : Int) (a16 : Sl) (a17 : Sl) (a18 : Sl) (h : GH) (K : Int → Int → Int → Int → Int → Int → Int → Int → Sl → Sl → Int → Int → Int → Int → Int → Sl → Sl → Sl → GH → Option β) : Option β := gfun Try.prog (CF_ref26_Cut F_ref24_CutHead F_ref01_Cut F_ref01_Copy) HF_ref26_Cut R Try.f44 [Value.agg #[Value.int .i64 a1, Value.int .i64 a2, Value.int .i64 a3, Value.int .i64 a4, Value.int .i64 a5, Value.int .u32 a6, Value.int .u32 a7, Value.int .u32 a8, Value.slice a9.a a9.n a9.c, Value.slice a10.a a10.n a10.c, Value.int .i64 a11, Value.int .i64 a12, Value.int .i64 a13, Value.int .u32 a14, Value.int .u32 a15, Value.slice a16.a a16.n a16.c, Value.slice a17.a a17.n a17.c, Value.slice a18.a a18.n a18.c]] h (fun v h' => exAg v fun c118 => (bif Nat.beq c118.length 18 then exI .i64 (nth c118 (0)) fun u119 => exI .i64 (nth c118 (0 + 1)) fun u120 => exI .i64 (nth c118 (0 + 1 + 1)) fun u121 => exI .i64 (nth c118 (0 + 1 + 1 + 1)) fun u122 => exI .i64 (nth c118 (0 + 1 + 1 + 1 + 1)) fun u123 => exI .u32 (nth c118 (0 + 1 + 1 + 1 + 1 + 1)) fun u124 => exI .u32 (nth c118 (0 + 1 + 1 + 1 + 1 + 1 + 1)) fun u125 => exI .u32 (nth c118 (0 + 1 + 1 + 1 + 1 + 1 + 1 + 1)) fun u126 => exS (nth c118 (0 + 1 + 1 + 1 + 1 + 1 + 1 + 1 + 1)) fun u127 => exS (nth c118 (0 + 1 + 1 + 1 + 1 + 1 + 1 + 1 + 1 + 1)) fun u128 => exI .i64 (nth c118 (0 + 1 + 1 + 1 + 1 + 1 + 1 + 1 + 1 + 1 + 1)) fun u129 => exI .i64 (nth c118 (0 + 1 + 1 + 1 + 1 + 1 + 1 + 1 + 1 + 1 + 1 + 1)) fun u130 => exI .i64 (nth c118 (0 + 1 + 1 + 1 + 1 + 1 + 1 + 1 + 1 + 1 + 1 + 1 + 1)) fun u131 => exI .u32 (nth c118 (0 + 1 + 1 + 1 + 1 + 1 + 1 + 1 + 1 + 1 + 1 + 1 + 1 + 1)) fun u132 => exI .u32 (nth c118 (0 + 1 + 1 + 1 + 1 + 1 + 1 + 1 + 1 + 1 + 1 + 1 + 1 + 1 + 1)) fun u133 => exS (nth c118 (0 + 1 + 1 + 1 + 1 + 1 + 1 + 1 + 1 + 1 + 1 + 1 + 1 + 1 + 1 + 1)) fun u134 => exS (nth c118 (0 + 1 + 1 + 1 + 1 + 1 + 1 + 1 + 1 + 1 + 1 + 1 + 1 + 1 + 1 + 1 + 1)) fun u135 => exS (nth c118 (0 + 1 + 1 + 1 + 1 + 1 + 1 + 1 + 1 + 1 + 1 + 1 + 1 + 1 + 1 + 1 + 1 + 1)) fun u136 => K u119 u120 u121 u122 u123 u124 u125 u126 u127 u128 u129 u130 u131 u132 u133 u134 u135 u136 h' else none))
set_option maxRecDepth 100000 in
theorem F_ref26_Cut_gen (F_ref24_CutHead : Int → Int → Int → Int → Int → Int → Int → Int → Sl → Sl → Int → GH → (Int → Int → Int → Int → Int → Int → Int → Int → Sl → Sl → GH → Option β) → Option β) (F_ref01_Cut : Sl → Int → GH → (Sl → GH → Option β) → Option β) (F_ref01_Copy : Sl → GH → (Sl → GH → Option β) → Option β) (R : Nat) (a1 : Int) (a2 : Int) (a3 : Int) (a4 : Int) (a5 : Int) (a6 : Int) (a7 : Int) (a8 : Int) (a9 : Sl) (a10 : Sl) (a11 : Int) (a12 : Int) (a13 : Int) (a14 : Int) (a15 : Int) (a16 : Sl) (a17 : Sl) (a18 : Sl) (h : GH) (K : Int → Int → Int → Int → Int → Int → Int → Int → Sl → Sl → Int → Int → Int → Int → Int → Sl → Sl → Sl → GH → Option β) : G_ref26_Cut F_ref24_CutHead F_ref01_Cut F_ref01_Copy R a1 a2 a3 a4 a5 a6 a7 a8 a9 a10 a11 a12 a13 a14 a15 a16 a17 a18 h K =
    gnew [Value.int .i64 a1, Value.int .i64 a2, Value.int .i64 a3, Value.int .i64 a4, Value.int .i64 a5, Value.int .u32 a6, Value.int .u32 a7, Value.int .u32 a8, Value.slice a9.a a9.n a9.c, Value.slice a10.a a10.n a10.c, Value.int .i64 a11, Value.int .i64 a12, Value.int .i64 a13, Value.int .u32 a14, Value.int .u32 a15, Value.slice a16.a a16.n a16.c, Value.slice a17.a a17.n a17.c, Value.slice a18.a a18.n a18.c] 0 h fun g19 h20 => gnew [Value.int .i64 0, Value.int .i64 0, Value.int .i64 0, Value.int .i64 0, Value.int .i64 0, Value.int .u32 0, Value.int .u32 0, Value.int .u32 0, Value.slice none 0 0, Value.slice none 0 0, Value.int .i64 0, Value.int .i64 0, Value.int .i64 0, Value.int .u32 0, Value.int .u32 0, Value.slice none 0 0, Value.slice none 0 0, Value.slice none 0 0] 0 h20 fun g21 h22 => exI .i64 (h22.cell ⟨g19, 0 + 0 + 0, none⟩) fun x23 => exI .i64 (h22.cell ⟨g19, 0 + 0 + 0 + 1, none⟩) fun x24 => exI .i64 (h22.cell ⟨g19, 0 + 0 + 0 + 1 + 1, none⟩) fun x25 => exI .i64 (h22.cell ⟨g19, 0 + 0 + 0 + 1 + 1 + 1, none⟩) fun x26 => exI .i64 (h22.cell ⟨g19, 0 + 0 + 0 + 1 + 1 + 1 + 1, none⟩) fun x27 => exI .u32 (h22.cell ⟨g19, 0 + 0 + 0 + 1 + 1 + 1 + 1 + 1, none⟩) fun x28 => exI .u32 (h22.cell ⟨g19, 0 + 0 + 0 + 1 + 1 + 1 + 1 + 1 + 1, none⟩) fun x29 => exI .u32 (h22.cell ⟨g19, 0 + 0 + 0 + 1 + 1 + 1 + 1 + 1 + 1 + 1, none⟩) fun x30 => exS (h22.cell ⟨g19, 0 + 0 + 0 + 1 + 1 + 1 + 1 + 1 + 1 + 1 + 1, none⟩) fun x31 => exS (h22.cell ⟨g19, 0 + 0 + 0 + 1 + 1 + 1 + 1 + 1 + 1 + 1 + 1 + 1, none⟩) fun x32 => F_ref24_CutHead x23 x24 x25 x26 x27 x28 x29 x30 x31 x32 60 h22 fun r33 r34 r35 r36 r37 r38 r39 r40 r41 r42 h43 => gput g19 (0 + 0 + 0) [Value.int .i64 r33, Value.int .i64 r34, Value.int .i64 r35, Value.int .i64 r36, Value.int .i64 r37, Value.int .u32 r38, Value.int .u32 r39, Value.int .u32 r40, Value.slice r41.a r41.n r41.c, Value.slice r42.a r42.n r42.c] h43 fun h44 => exS (h44.cell ⟨g19, 0 + 0 + 15, none⟩) fun x45 => F_ref01_Cut x45 60 h44 fun r46 h47 => F_ref01_Copy r46 h47 fun r48 h49 => gput g19 (0 + 0 + 15) [Value.slice r48.a r48.n r48.c] h49 fun h50 => exS (h50.cell ⟨g19, 0 + 16, none⟩) fun x51 => F_ref01_Cut x51 60 h50 fun r52 h53 => F_ref01_Copy r52 h53 fun r54 h55 => exS (h55.cell ⟨g19, 0 + 17, none⟩) fun x56 => F_ref01_Cut x56 300 h55 fun r57 h58 => F_ref01_Copy r57 h58 fun r59 h60 => gput g19 (0 + 16) [Value.slice r54.a r54.n r54.c] h60 fun h61 => gput g19 (0 + 17) [Value.slice r59.a r59.n r59.c] h61 fun h62 => (bif sameAt g19 (0 + 17) 1 h53 h55 then (bif sameAt g19 (0 + 17) 1 h50 h53 then exI .i64 (h62.cell ⟨g19, 0, none⟩) fun x63 => exI .i64 (h62.cell ⟨g19, 0 + 1, none⟩) fun x64 => exI .i64 (h62.cell ⟨g19, 0 + 1 + 1, none⟩) fun x65 => exI .i64 (h62.cell ⟨g19, 0 + 1 + 1 + 1, none⟩) fun x66 => exI .i64 (h62.cell ⟨g19, 0 + 1 + 1 + 1 + 1, none⟩) fun x67 => exI .u32 (h62.cell ⟨g19, 0 + 1 + 1 + 1 + 1 + 1, none⟩) fun x68 => exI .u32 (h62.cell ⟨g19, 0 + 1 + 1 + 1 + 1 + 1 + 1, none⟩) fun x69 => exI .u32 (h62.cell ⟨g19, 0 + 1 + 1 + 1 + 1 + 1 + 1 + 1, none⟩) fun x70 => exS (h62.cell ⟨g19, 0 + 1 + 1 + 1 + 1 + 1 + 1 + 1 + 1, none⟩) fun x71 => exS (h62.cell ⟨g19, 0 + 1 + 1 + 1 + 1 + 1 + 1 + 1 + 1 + 1, none⟩) fun x72 => exI .i64 (h62.cell ⟨g19, 0 + 1 + 1 + 1 + 1 + 1 + 1 + 1 + 1 + 1 + 1, none⟩) fun x73 => exI .i64 (h62.cell ⟨g19, 0 + 1 + 1 + 1 + 1 + 1 + 1 + 1 + 1 + 1 + 1 + 1, none⟩) fun x74 => exI .i64 (h62.cell ⟨g19, 0 + 1 + 1 + 1 + 1 + 1 + 1 + 1 + 1 + 1 + 1 + 1 + 1, none⟩) fun x75 => exI .u32 (h62.cell ⟨g19, 0 + 1 + 1 + 1 + 1 + 1 + 1 + 1 + 1 + 1 + 1 + 1 + 1 + 1, none⟩) fun x76 => exI .u32 (h62.cell ⟨g19, 0 + 1 + 1 + 1 + 1 + 1 + 1 + 1 + 1 + 1 + 1 + 1 + 1 + 1 + 1, none⟩) fun x77 => exS (h62.cell ⟨g19, 0 + 1 + 1 + 1 + 1 + 1 + 1 + 1 + 1 + 1 + 1 + 1 + 1 + 1 + 1 + 1, none⟩) fun x78 => exS (h62.cell ⟨g19, 0 + 1 + 1 + 1 + 1 + 1 + 1 + 1 + 1 + 1 + 1 + 1 + 1 + 1 + 1 + 1 + 1, none⟩) fun x79 => exS (h62.cell ⟨g19, 0 + 1 + 1 + 1 + 1 + 1 + 1 + 1 + 1 + 1 + 1 + 1 + 1 + 1 + 1 + 1 + 1 + 1, none⟩) fun x80 => gput g21 (0) [Value.int .i64 x63, Value.int .i64 x64, Value.int .i64 x65, Value.int .i64 x66, Value.int .i64 x67, Value.int .u32 x68, Value.int .u32 x69, Value.int .u32 x70, Value.slice x71.a x71.n x71.c, Value.slice x72.a x72.n x72.c, Value.int .i64 x73, Value.int .i64 x74, Value.int .i64 x75, Value.int .u32 x76, Value.int .u32 x77, Value.slice x78.a x78.n x78.c, Value.slice x79.a x79.n x79.c, Value.slice x80.a x80.n x80.c] h62 fun h81 => exI .i64 (h81.cell ⟨g21, 0, none⟩) fun x82 => exI .i64 (h81.cell ⟨g21, 0 + 1, none⟩) fun x83 => exI .i64 (h81.cell ⟨g21, 0 + 1 + 1, none⟩) fun x84 => exI .i64 (h81.cell ⟨g21, 0 + 1 + 1 + 1, none⟩) fun x85 => exI .i64 (h81.cell ⟨g21, 0 + 1 + 1 + 1 + 1, none⟩) fun x86 => exI .u32 (h81.cell ⟨g21, 0 + 1 + 1 + 1 + 1 + 1, none⟩) fun x87 => exI .u32 (h81.cell ⟨g21, 0 + 1 + 1 + 1 + 1 + 1 + 1, none⟩) fun x88 => exI .u32 (h81.cell ⟨g21, 0 + 1 + 1 + 1 + 1 + 1 + 1 + 1, none⟩) fun x89 => exS (h81.cell ⟨g21, 0 + 1 + 1 + 1 + 1 + 1 + 1 + 1 + 1, none⟩) fun x90 => exS (h81.cell ⟨g21, 0 + 1 + 1 + 1 + 1 + 1 + 1 + 1 + 1 + 1, none⟩) fun x91 => exI .i64 (h81.cell ⟨g21, 0 + 1 + 1 + 1 + 1 + 1 + 1 + 1 + 1 + 1 + 1, none⟩) fun x92 => exI .i64 (h81.cell ⟨g21, 0 + 1 + 1 + 1 + 1 + 1 + 1 + 1 + 1 + 1 + 1 + 1, none⟩) fun x93 => exI .i64 (h81.cell ⟨g21, 0 + 1 + 1 + 1 + 1 + 1 + 1 + 1 + 1 + 1 + 1 + 1 + 1, none⟩) fun x94 => exI .u32 (h81.cell ⟨g21, 0 + 1 + 1 + 1 + 1 + 1 + 1 + 1 + 1 + 1 + 1 + 1 + 1 + 1, none⟩) fun x95 => exI .u32 (h81.cell ⟨g21, 0 + 1 + 1 + 1 + 1 + 1 + 1 + 1 + 1 + 1 + 1 + 1 + 1 + 1 + 1, none⟩) fun x96 => exS (h81.cell ⟨g21, 0 + 1 + 1 + 1 + 1 + 1 + 1 + 1 + 1 + 1 + 1 + 1 + 1 + 1 + 1 + 1, none⟩) fun x97 => exS (h81.cell ⟨g21, 0 + 1 + 1 + 1 + 1 + 1 + 1 + 1 + 1 + 1 + 1 + 1 + 1 + 1 + 1 + 1 + 1, none⟩) fun x98 => exS (h81.cell ⟨g21, 0 + 1 + 1 + 1 + 1 + 1 + 1 + 1 + 1 + 1 + 1 + 1 + 1 + 1 + 1 + 1 + 1 + 1, none⟩) fun x99 => K x82 x83 x84 x85 x86 x87 x88 x89 x90 x91 x92 x93 x94 x95 x96 x97 x98 x99 h81 else none) else none) := by kernel_rfl
noncomputable def F_ref26_Cut (R : Nat) (a1 : Int) (a2 : Int) (a3 : Int) (a4 : Int) (a5 : Int) (a6 : Int) (a7 : Int) (a8 : Int) (a9 : Sl) (a10 : Sl) (a11 : Int) (a12 : Int) (a13 : Int) (a14 : Int) (a15 : Int) (a16 : Sl) (a17 : Sl) (a18 : Sl) (h : GH) (K : Int → Int → Int → Int → Int → Int → Int → Int → Sl → Sl → Int → Int → Int → Int → Int → Sl → Sl → Sl → GH → Option β) : Option β := G_ref26_Cut (F_ref24_CutHead R) (F_ref01_Cut R) (F_ref01_Copy R) R a1 a2 a3 a4 a5 a6 a7 a8 a9 a10 a11 a12 a13 a14 a15 a16 a17 a18 h K
set_option maxRecDepth 100000 in
theorem CF_ref26_Cut_sim {R : Nat} : SimOrc Try.prog (CF_ref26_Cut (F_ref24_CutHead R) (F_ref01_Cut R) (F_ref01_Copy R) (β := β)) := by
  intro f args h K r hc
  unfold CF_ref26_Cut at hc
  cases hb : Nat.beq f 8 with
  | true =>
    rw [hb] at hc
    simp only [cond_true] at hc
    obtain rfl := Nat.eq_of_beq_eq_true hb
    split at hc
    · exact any_call (F_ref24_CutHead_sim (K := K) hc)
    · cases hc
  | false =>
  rw [hb] at hc
  simp only [cond_false] at hc
  cases hb : Nat.beq f 12 with
  | true =>
    rw [hb] at hc
    simp only [cond_true] at hc
    obtain rfl := Nat.eq_of_beq_eq_true hb
    split at hc
    · exact any_call (F_ref01_Cut_sim (K := K) hc)
    · cases hc
  | false =>
  rw [hb] at hc
  simp only [cond_false] at hc
  cases hb : Nat.beq f 13 with
  | true =>
    rw [hb] at hc
    simp only [cond_true] at hc
    obtain rfl := Nat.eq_of_beq_eq_true hb
    split at hc
    · exact any_call (F_ref01_Copy_sim (K := K) hc)
    · cases hc
  | false =>
  rw [hb] at hc
  simp only [cond_false] at hc
  cases hc
set_option maxRecDepth 100000 in
theorem F_ref26_Cut_sim {R : Nat} {r : β} {a1 : Int} {a2 : Int} {a3 : Int} {a4 : Int} {a5 : Int} {a6 : Int} {a7 : Int} {a8 : Int} {a9 : Sl} {a10 : Sl} {a11 : Int} {a12 : Int} {a13 : Int} {a14 : Int} {a15 : Int} {a16 : Sl} {a17 : Sl} {a18 : Sl} {h : GH} {K : Value → GH → Option β} (hc : F_ref26_Cut R a1 a2 a3 a4 a5 a6 a7 a8 a9 a10 a11 a12 a13 a14 a15 a16 a17 a18 h (fun q0 q1 q2 q3 q4 q5 q6 q7 q8 q9 q10 q11 q12 q13 q14 q15 q16 q17 h' => K (Value.agg #[Value.int .i64 q0, Value.int .i64 q1, Value.int .i64 q2, Value.int .i64 q3, Value.int .i64 q4, Value.int .u32 q5, Value.int .u32 q6, Value.int .u32 q7, Value.slice q8.a q8.n q8.c, Value.slice q9.a q9.n q9.c, Value.int .i64 q10, Value.int .i64 q11, Value.int .i64 q12, Value.int .u32 q13, Value.int .u32 q14, Value.slice q15.a q15.n q15.c, Value.slice q16.a q16.n q16.c, Value.slice q17.a q17.n q17.c]) h') = some r) : ∃ v h', K v h' = some r ∧ CallSim Try.prog 44 [Value.agg #[Value.int .i64 a1, Value.int .i64 a2, Value.int .i64 a3, Value.int .i64 a4, Value.int .i64 a5, Value.int .u32 a6, Value.int .u32 a7, Value.int .u32 a8, Value.slice a9.a a9.n a9.c, Value.slice a10.a a10.n a10.c, Value.int .i64 a11, Value.int .i64 a12, Value.int .i64 a13, Value.int .u32 a14, Value.int .u32 a15, Value.slice a16.a a16.n a16.c, Value.slice a17.a a17.n a17.c, Value.slice a18.a a18.n a18.c]] h v h' := by
  unfold F_ref26_Cut G_ref26_Cut at hc
  obtain ⟨v, h', hk, hs⟩ := gfun_sim (CF_ref26_Cut_sim (R := R)) mixed_ok (fun f h => by cases h) Try.func44 (by kernel_rfl) hc
  obtain ⟨cs0, f0, hk⟩ := exAg_v hk; cases f0; obtain ⟨hl0, hk⟩ := beq_v hk
  obtain ⟨u1, e1, hk⟩ := exI_v hk
  obtain ⟨u2, e2, hk⟩ := exI_v hk
  obtain ⟨u3, e3, hk⟩ := exI_v hk
  obtain ⟨u4, e4, hk⟩ := exI_v hk
  obtain ⟨u5, e5, hk⟩ := exI_v hk
  obtain ⟨u6, e6, hk⟩ := exI_v hk
  obtain ⟨u7, e7, hk⟩ := exI_v hk
  obtain ⟨u8, e8, hk⟩ := exI_v hk
  obtain ⟨u9, e9, hk⟩ := exS_v hk
  obtain ⟨u10, e10, hk⟩ := exS_v hk
  obtain ⟨u11, e11, hk⟩ := exI_v hk
  obtain ⟨u12, e12, hk⟩ := exI_v hk
  obtain ⟨u13, e13, hk⟩ := exI_v hk
  obtain ⟨u14, e14, hk⟩ := exI_v hk
  obtain ⟨u15, e15, hk⟩ := exI_v hk
  obtain ⟨u16, e16, hk⟩ := exS_v hk
  obtain ⟨u17, e17, hk⟩ := exS_v hk
  obtain ⟨u18, e18, hk⟩ := exS_v hk
  obtain rfl := arr18 hl0 e1 e2 e3 e4 e5 e6 e7 e8 e9 e10 e11 e12 e13 e14 e15 e16 e17 e18
  exact ⟨_, h', hk, hs⟩
/-! F19 duffel/duffelref26.Few -/
def CF_ref26_Few (F_ref26_Cut : Int → Int → Int → Int → Int → Int → Int → Int → Sl → Sl → Int → Int → Int → Int → Int → Sl → Sl → Sl → GH → (Int → Int → Int → Int → Int → Int → Int → Int → Sl → Sl → Int → Int → Int → Int → Int → Sl → Sl → Sl → GH → Option β) → Option β) : Orc β := fun f args h K => bif Nat.beq f 44 then (match args with | [.agg ⟨[.int .i64 p1, .int .i64 p2, .int .i64 p3, .int .i64 p4, .int .i64 p5, .int .u32 p6, .int .u32 p7, .int .u32 p8, .slice p9a p9n p9c, .slice p10a p10n p10c, .int .i64 p11, .int .i64 p12, .int .i64 p13, .int .u32 p14, .int .u32 p15, .slice p16a p16n p16c, .slice p17a p17n p17c, .slice p18a p18n p18c]⟩] => F_ref26_Cut p1 p2 p3 p4 p5 p6 p7 p8 ⟨p9a, p9n, p9c⟩ ⟨p10a, p10n, p10c⟩ p11 p12 p13 p14 p15 ⟨p16a, p16n, p16c⟩ ⟨p17a, p17n, p17c⟩ ⟨p18a, p18n, p18c⟩ h (fun q100 q101 q102 q103 q104 q105 q106 q107 q108 q109 q110 q111 q112 q113 q114 q115 q116 q117 h' => K (Value.agg #[Value.int .i64 q100, Value.int .i64 q101, Value.int .i64 q102, Value.int .i64 q103, Value.int .i64 q104, Value.int .u32 q105, Value.int .u32 q106, Value.int .u32 q107, Value.slice q108.a q108.n q108.c, Value.slice q109.a q109.n q109.c, Value.int .i64 q110, Value.int .i64 q111, Value.int .i64 q112, Value.int .u32 q113, Value.int .u32 q114, Value.slice q115.a q115.n q115.c, Value.slice q116.a q116.n q116.c, Value.slice q117.a q117.n q117.c]) h') | _ => none) else none
def HF_ref26_Few : Hints := ⟨[(3, [0, 1, 5, 6], [(0, [(5, .ty 39)])], none)], [], []⟩
noncomputable def BF_ref26_Few : Code := match Try.f19.body with | some c => c | none => .skip
noncomputable def F_ref26_Few_l0 (F_ref26_Cut : Int → Int → Int → Int → Int → Int → Int → Int → Sl → Sl → Int → Int → Int → Int → Int → Sl → Sl → Sl → GH → (Int → Int → Int → Int → Int → Int → Int → Int → Sl → Sl → Int → Int → Int → Int → Int → Sl → Sl → Sl → GH → Option β) → Option β) (R : Nat) (n : Nat) (y3 : Sl) (y4 : Int) (y5 : Sl) (y6 : Int) (h : GH) (K0 : Sl → GH → Option β) : Option β := gloop (gcode Try.prog (CF_ref26_Few F_ref26_Cut) Try.f19.ntmps HF_ref26_Few R (at_ [true, true, false, true, false, false] BF_ref26_Few)) [0, 1, 5, 6] n [(0, Value.slice y3.a y3.n y3.c), (1, Value.int .i64 y4), (5, Value.slice y5.a y5.n y5.c), (6, Value.int .i64 y6)] h (fun i e' h' => bif Nat.beq i 0 then (exS (some (e'.get 5)) fun u54 => K0 u54 h') else none) (fun e' h' => none)
set_option maxRecDepth 100000 in
theorem F_ref26_Few_l0_succ (F_ref26_Cut : Int → Int → Int → Int → Int → Int → Int → Int → Sl → Sl → Int → Int → Int → Int → Int → Sl → Sl → Sl → GH → (Int → Int → Int → Int → Int → Int → Int → Int → Sl → Sl → Int → Int → Int → Int → Int → Sl → Sl → Sl → GH → Option β) → Option β) (R : Nat) (n : Nat) (y3 : Sl) (y4 : Int) (y5 : Sl) (y6 : Int) (h : GH) (K0 : Sl → GH → Option β) : F_ref26_Few_l0 F_ref26_Cut R (n + 1) y3 y4 y5 y6 h K0 =
    (bif decide (y6 < ((y3.n : Nat) : Int)) then (bif decide (y6 < y4) then exA y3.a fun g8 o9 => within y6 y3.n (exI .i64 (h.cell ⟨g8, o9 + y6.toNat * 18, none⟩) fun x10 => exI .i64 (h.cell ⟨g8, o9 + y6.toNat * 18 + 1, none⟩) fun x11 => exI .i64 (h.cell ⟨g8, o9 + y6.toNat * 18 + 1 + 1, none⟩) fun x12 => exI .i64 (h.cell ⟨g8, o9 + y6.toNat * 18 + 1 + 1 + 1, none⟩) fun x13 => exI .i64 (h.cell ⟨g8, o9 + y6.toNat * 18 + 1 + 1 + 1 + 1, none⟩) fun x14 => exI .u32 (h.cell ⟨g8, o9 + y6.toNat * 18 + 1 + 1 + 1 + 1 + 1, none⟩) fun x15 => exI .u32 (h.cell ⟨g8, o9 + y6.toNat * 18 + 1 + 1 + 1 + 1 + 1 + 1, none⟩) fun x16 => exI .u32 (h.cell ⟨g8, o9 + y6.toNat * 18 + 1 + 1 + 1 + 1 + 1 + 1 + 1, none⟩) fun x17 => exS (h.cell ⟨g8, o9 + y6.toNat * 18 + 1 + 1 + 1 + 1 + 1 + 1 + 1 + 1, none⟩) fun x18 => exS (h.cell ⟨g8, o9 + y6.toNat * 18 + 1 + 1 + 1 + 1 + 1 + 1 + 1 + 1 + 1, none⟩) fun x19 => exI .i64 (h.cell ⟨g8, o9 + y6.toNat * 18 + 1 + 1 + 1 + 1 + 1 + 1 + 1 + 1 + 1 + 1, none⟩) fun x20 => exI .i64 (h.cell ⟨g8, o9 + y6.toNat * 18 + 1 + 1 + 1 + 1 + 1 + 1 + 1 + 1 + 1 + 1 + 1, none⟩) fun x21 => exI .i64 (h.cell ⟨g8, o9 + y6.toNat * 18 + 1 + 1 + 1 + 1 + 1 + 1 + 1 + 1 + 1 + 1 + 1 + 1, none⟩) fun x22 => exI .u32 (h.cell ⟨g8, o9 + y6.toNat * 18 + 1 + 1 + 1 + 1 + 1 + 1 + 1 + 1 + 1 + 1 + 1 + 1 + 1, none⟩) fun x23 => exI .u32 (h.cell ⟨g8, o9 + y6.toNat * 18 + 1 + 1 + 1 + 1 + 1 + 1 + 1 + 1 + 1 + 1 + 1 + 1 + 1 + 1, none⟩) fun x24 => exS (h.cell ⟨g8, o9 + y6.toNat * 18 + 1 + 1 + 1 + 1 + 1 + 1 + 1 + 1 + 1 + 1 + 1 + 1 + 1 + 1 + 1, none⟩) fun x25 => exS (h.cell ⟨g8, o9 + y6.toNat * 18 + 1 + 1 + 1 + 1 + 1 + 1 + 1 + 1 + 1 + 1 + 1 + 1 + 1 + 1 + 1 + 1, none⟩) fun x26 => exS (h.cell ⟨g8, o9 + y6.toNat * 18 + 1 + 1 + 1 + 1 + 1 + 1 + 1 + 1 + 1 + 1 + 1 + 1 + 1 + 1 + 1 + 1 + 1, none⟩) fun x27 => F_ref26_Cut x10 x11 x12 x13 x14 x15 x16 x17 x18 x19 x20 x21 x22 x23 x24 x25 x26 x27 h fun r28 r29 r30 r31 r32 r33 r34 r35 r36 r37 r38 r39 r40 r41 r42 r43 r44 r45 h46 => gnew [Value.int .i64 r28, Value.int .i64 r29, Value.int .i64 r30, Value.int .i64 r31, Value.int .i64 r32, Value.int .u32 r33, Value.int .u32 r34, Value.int .u32 r35, Value.slice r36.a r36.n r36.c, Value.slice r37.a r37.n r37.c, Value.int .i64 r38, Value.int .i64 r39, Value.int .i64 r40, Value.int .u32 r41, Value.int .u32 r42, Value.slice r43.a r43.n r43.c, Value.slice r44.a r44.n r44.c, Value.slice r45.a r45.n r45.c] 18 h46 fun g47 h48 => gappS 18 208 y5 ⟨(some ⟨g47, 0, none⟩), 1, 1⟩ h48 fun s49 h50 => F_ref26_Few_l0 F_ref26_Cut R n y3 y4 s49 (IntKind.wrap .i64 (y6 + 1)) h50 K0) else K0 y5 h) else K0 y5 h) := by kernel_rfl
noncomputable def G_ref26_Few (F_ref26_Cut : Int → Int → Int → Int → Int → Int → Int → Int → Sl → Sl → Int → Int → Int → Int → Int → Sl → Sl → Sl → GH → (Int → Int → Int → Int → Int → Int → Int → Int → Sl → Sl → Int → Int → Int → Int → Int → Sl → Sl → Sl → GH → Option β) → Option β) (R : Nat) (a1 : Sl) (a2 : Int) (h : GH) (K : Sl → GH → Option β) : Option β := gfun Try.prog (CF_ref26_Few F_ref26_Cut) HF_ref26_Few R Try.f19 [Value.slice a1.a a1.n a1.c, Value.int .i64 a2] h (fun v h' => exS (some v) fun u55 => K u55 h')
set_option maxRecDepth 100000 in
theorem F_ref26_Few_gen (F_ref26_Cut : Int → Int → Int → Int → Int → Int → Int → Int → Sl → Sl → Int → Int → Int → Int → Int → Sl → Sl → Sl → GH → (Int → Int → Int → Int → Int → Int → Int → Int → Sl → Sl → Int → Int → Int → Int → Int → Sl → Sl → Sl → GH → Option β) → Option β) (R : Nat) (a1 : Sl) (a2 : Int) (h : GH) (K : Sl → GH → Option β) : G_ref26_Few F_ref26_Cut R a1 a2 h K =
    F_ref26_Few_l0 F_ref26_Cut R R a1 a2 ⟨none, 0, 0⟩ 0 h (fun w51 h52 => K w51 h52) := by kernel_rfl
noncomputable def F_ref26_Few (R : Nat) (a1 : Sl) (a2 : Int) (h : GH) (K : Sl → GH → Option β) : Option β := G_ref26_Few (F_ref26_Cut R) R a1 a2 h K
set_option maxRecDepth 100000 in
theorem CF_ref26_Few_sim {R : Nat} : SimOrc Try.prog (CF_ref26_Few (F_ref26_Cut R) (β := β)) := by
  intro f args h K r hc
  unfold CF_ref26_Few at hc
  cases hb : Nat.beq f 44 with
  | true =>
    rw [hb] at hc
    simp only [cond_true] at hc
    obtain rfl := Nat.eq_of_beq_eq_true hb
    split at hc
    · exact any_call (F_ref26_Cut_sim (K := K) hc)
    · cases hc
  | false =>
  rw [hb] at hc
  simp only [cond_false] at hc
  cases hc
set_option maxRecDepth 100000 in
theorem F_ref26_Few_sim {R : Nat} {r : β} {a1 : Sl} {a2 : Int} {h : GH} {K : Value → GH → Option β} (hc : F_ref26_Few R a1 a2 h (fun q0 h' => K (Value.slice q0.a q0.n q0.c) h') = some r) : ∃ v h', K v h' = some r ∧ CallSim Try.prog 19 [Value.slice a1.a a1.n a1.c, Value.int .i64 a2] h v h' := by
  unfold F_ref26_Few G_ref26_Few at hc
  obtain ⟨v, h', hk, hs⟩ := gfun_sim (CF_ref26_Few_sim (R := R)) mixed_ok (fun f h => by cases h) Try.func19 (by kernel_rfl) hc
  obtain ⟨u0, e0, hk⟩ := exS_v hk; cases e0
  exact ⟨_, h', hk, hs⟩
/-! F21 duffel/duffellaw26.mine -/
def CF_law26_mine  : Orc β := fun f args h K => none
def HF_law26_mine : Hints := ⟨[(3, [0, 3, 4], [(0, [(3, .ty 36)])], none)], [], []⟩
noncomputable def BF_law26_mine : Code := match Try.f21.body with | some c => c | none => .skip
noncomputable def F_law26_mine_l0  (R : Nat) (n : Nat) (y2 : Sl) (y3 : Sl) (y4 : Int) (h : GH) (K0 : Sl → GH → Option β) : Option β := gloop (gcode Try.prog (CF_law26_mine ) Try.f21.ntmps HF_law26_mine R (at_ [true, true, false, true, false, false] BF_law26_mine)) [0, 3, 4] n [(0, Value.slice y2.a y2.n y2.c), (3, Value.slice y3.a y3.n y3.c), (4, Value.int .i64 y4)] h (fun i e' h' => bif Nat.beq i 0 then (exS (some (e'.get 3)) fun u37 => K0 u37 h') else none) (fun e' h' => none)
set_option maxRecDepth 100000 in
theorem F_law26_mine_l0_succ  (R : Nat) (n : Nat) (y2 : Sl) (y3 : Sl) (y4 : Int) (h : GH) (K0 : Sl → GH → Option β) : F_law26_mine_l0  R (n + 1) y2 y3 y4 h K0 =
    (bif decide (y4 < ((y2.n : Nat) : Int)) then exA y2.a fun g6 o7 => within y4 y2.n (exI .i64 (h.cell ⟨g6, o7 + y4.toNat * 18 + 0, none⟩) fun x8 => exI .i64 (h.cell ⟨g6, o7 + y4.toNat * 18 + 0 + 1, none⟩) fun x9 => exI .i64 (h.cell ⟨g6, o7 + y4.toNat * 18 + 0 + 1 + 1, none⟩) fun x10 => exI .i64 (h.cell ⟨g6, o7 + y4.toNat * 18 + 0 + 1 + 1 + 1, none⟩) fun x11 => exI .i64 (h.cell ⟨g6, o7 + y4.toNat * 18 + 0 + 1 + 1 + 1 + 1, none⟩) fun x12 => exI .u32 (h.cell ⟨g6, o7 + y4.toNat * 18 + 0 + 1 + 1 + 1 + 1 + 1, none⟩) fun x13 => exI .u32 (h.cell ⟨g6, o7 + y4.toNat * 18 + 0 + 1 + 1 + 1 + 1 + 1 + 1, none⟩) fun x14 => exI .u32 (h.cell ⟨g6, o7 + y4.toNat * 18 + 0 + 1 + 1 + 1 + 1 + 1 + 1 + 1, none⟩) fun x15 => exS (h.cell ⟨g6, o7 + y4.toNat * 18 + 0 + 1 + 1 + 1 + 1 + 1 + 1 + 1 + 1, none⟩) fun x16 => exS (h.cell ⟨g6, o7 + y4.toNat * 18 + 0 + 1 + 1 + 1 + 1 + 1 + 1 + 1 + 1 + 1, none⟩) fun x17 => exI .i64 (h.cell ⟨g6, o7 + y4.toNat * 18 + 0 + 1 + 1 + 1 + 1 + 1 + 1 + 1 + 1 + 1 + 1, none⟩) fun x18 => exI .i64 (h.cell ⟨g6, o7 + y4.toNat * 18 + 0 + 1 + 1 + 1 + 1 + 1 + 1 + 1 + 1 + 1 + 1 + 1, none⟩) fun x19 => exI .i64 (h.cell ⟨g6, o7 + y4.toNat * 18 + 0 + 1 + 1 + 1 + 1 + 1 + 1 + 1 + 1 + 1 + 1 + 1 + 1, none⟩) fun x20 => exI .u32 (h.cell ⟨g6, o7 + y4.toNat * 18 + 0 + 1 + 1 + 1 + 1 + 1 + 1 + 1 + 1 + 1 + 1 + 1 + 1 + 1, none⟩) fun x21 => exI .u32 (h.cell ⟨g6, o7 + y4.toNat * 18 + 0 + 1 + 1 + 1 + 1 + 1 + 1 + 1 + 1 + 1 + 1 + 1 + 1 + 1 + 1, none⟩) fun x22 => exS (h.cell ⟨g6, o7 + y4.toNat * 18 + 0 + 1 + 1 + 1 + 1 + 1 + 1 + 1 + 1 + 1 + 1 + 1 + 1 + 1 + 1 + 1, none⟩) fun x23 => exA y2.a fun g24 o25 => within y4 y2.n (exS (h.cell ⟨g24, o25 + y4.toNat * 18 + 16, none⟩) fun x26 => exA y2.a fun g27 o28 => within y4 y2.n (exS (h.cell ⟨g27, o28 + y4.toNat * 18 + 17, none⟩) fun x29 => gnew [Value.int .i64 x8, Value.int .i64 x9, Value.int .i64 x10, Value.int .i64 x11, Value.int .i64 x12, Value.int .u32 x13, Value.int .u32 x14, Value.int .u32 x15, Value.slice x16.a x16.n x16.c, Value.slice x17.a x17.n x17.c, Value.int .i64 x18, Value.int .i64 x19, Value.int .i64 x20, Value.int .u32 x21, Value.int .u32 x22, Value.slice x23.a x23.n x23.c, Value.slice x26.a x26.n x26.c, Value.slice x29.a x29.n x29.c] 18 h fun g30 h31 => gappS 18 208 y3 ⟨(some ⟨g30, 0, none⟩), 1, 1⟩ h31 fun s32 h33 => F_law26_mine_l0 R n y2 s32 (IntKind.wrap .i64 (y4 + 1)) h33 K0))) else K0 y3 h) := by kernel_rfl
noncomputable def G_law26_mine  (R : Nat) (a1 : Sl) (h : GH) (K : Sl → GH → Option β) : Option β := gfun Try.prog (CF_law26_mine ) HF_law26_mine R Try.f21 [Value.slice a1.a a1.n a1.c] h (fun v h' => exS (some v) fun u38 => K u38 h')
set_option maxRecDepth 100000 in
theorem F_law26_mine_gen  (R : Nat) (a1 : Sl) (h : GH) (K : Sl → GH → Option β) : G_law26_mine  R a1 h K =
    F_law26_mine_l0 R R a1 ⟨none, 0, 0⟩ 0 h (fun w34 h35 => K w34 h35) := by kernel_rfl
noncomputable def F_law26_mine (R : Nat) (a1 : Sl) (h : GH) (K : Sl → GH → Option β) : Option β := G_law26_mine  R a1 h K
theorem CF_law26_mine_sim : SimOrc Try.prog (CF_law26_mine (β := β)) := by
  intro f args h K r hc
  cases hc
set_option maxRecDepth 100000 in
theorem F_law26_mine_sim {R : Nat} {r : β} {a1 : Sl} {h : GH} {K : Value → GH → Option β} (hc : F_law26_mine R a1 h (fun q0 h' => K (Value.slice q0.a q0.n q0.c) h') = some r) : ∃ v h', K v h' = some r ∧ CallSim Try.prog 21 [Value.slice a1.a a1.n a1.c] h v h' := by
  unfold F_law26_mine G_law26_mine at hc
  obtain ⟨v, h', hk, hs⟩ := gfun_sim CF_law26_mine_sim mixed_ok (fun f h => by cases h) Try.func21 (by kernel_rfl) hc
  obtain ⟨u0, e0, hk⟩ := exS_v hk; cases e0
  exact ⟨_, h', hk, hs⟩
/-! F73 duffel/field.New -/
def CF_field_New  : Orc β := fun f args h K => none
def HF_field_New : Hints := ⟨[], [], []⟩
noncomputable def G_field_New  (R : Nat)  (h : GH) (K : Option Addr → GH → Option β) : Option β := gfun Try.prog (CF_field_New ) HF_field_New R Try.f73 [] h (fun v h' => exP (some v) fun u4 => K u4 h')
set_option maxRecDepth 100000 in
theorem F_field_New_gen  (R : Nat)  (h : GH) (K : Option Addr → GH → Option β) : G_field_New  R  h K =
    gnew [Value.slice none 0 0, Value.int .i64 0] 0 h fun g1 h2 => K (some ⟨g1, 0, none⟩) h2 := by kernel_rfl
noncomputable def F_field_New (R : Nat)  (h : GH) (K : Option Addr → GH → Option β) : Option β := G_field_New  R  h K
theorem CF_field_New_sim : SimOrc Try.prog (CF_field_New (β := β)) := by
  intro f args h K r hc
  cases hc
set_option maxRecDepth 100000 in
theorem F_field_New_sim {R : Nat} {r : β}  {h : GH} {K : Value → GH → Option β} (hc : F_field_New R  h (fun q0 h' => K (Value.pointer q0) h') = some r) : ∃ v h', K v h' = some r ∧ CallSim Try.prog 73 [] h v h' := by
  unfold F_field_New G_field_New at hc
  obtain ⟨v, h', hk, hs⟩ := gfun_sim CF_field_New_sim mixed_ok (fun f h => by cases h) Try.func73 (by kernel_rfl) hc
  obtain ⟨u0, e0, hk⟩ := exP_v hk; cases e0
  exact ⟨_, h', hk, hs⟩
/-! F98 (*duffel/field.Row).Err -/
def CF_field_Row_Err  : Orc β := fun f args h K => none
def HF_field_Row_Err : Hints := ⟨[], [], []⟩
noncomputable def G_field_Row_Err  (R : Nat) (a1 : Option Addr) (h : GH) (K : Int → GH → Option β) : Option β := gfun Try.prog (CF_field_Row_Err ) HF_field_Row_Err R Try.f98 [Value.pointer a1] h (fun v h' => exI .i64 (some v) fun u6 => K u6 h')
set_option maxRecDepth 100000 in
theorem F_field_Row_Err_gen  (R : Nat) (a1 : Option Addr) (h : GH) (K : Int → GH → Option β) : G_field_Row_Err  R a1 h K =
    (bif a1.isNone then K 1 h else exA a1 fun g2 o3 => exI .i64 (h.cell ⟨g2, o3 + 1, none⟩) fun x4 => K x4 h) := by kernel_rfl
noncomputable def F_field_Row_Err (R : Nat) (a1 : Option Addr) (h : GH) (K : Int → GH → Option β) : Option β := G_field_Row_Err  R a1 h K
theorem CF_field_Row_Err_sim : SimOrc Try.prog (CF_field_Row_Err (β := β)) := by
  intro f args h K r hc
  cases hc
set_option maxRecDepth 100000 in
theorem F_field_Row_Err_sim {R : Nat} {r : β} {a1 : Option Addr} {h : GH} {K : Value → GH → Option β} (hc : F_field_Row_Err R a1 h (fun q0 h' => K (Value.int .i64 q0) h') = some r) : ∃ v h', K v h' = some r ∧ CallSim Try.prog 98 [Value.pointer a1] h v h' := by
  unfold F_field_Row_Err G_field_Row_Err at hc
  obtain ⟨v, h', hk, hs⟩ := gfun_sim CF_field_Row_Err_sim mixed_ok (fun f h => by cases h) Try.func98 (by kernel_rfl) hc
  obtain ⟨u0, e0, hk⟩ := exI_v hk; cases e0
  exact ⟨_, h', hk, hs⟩
/-! F97 (*duffel/field.Row).number -/
def CF_field_Row_number (F_field_Row_Err : Option Addr → GH → (Int → GH → Option β) → Option β) : Orc β := fun f args h K => bif Nat.beq f 98 then (match args with | [.pointer p1] => F_field_Row_Err p1 h (fun q5 h' => K (Value.int .i64 q5) h') | _ => none) else none
def HF_field_Row_number : Hints := ⟨[(3, [0, 1, 11, 12], [(0, [(0, .ty 130)])], none)], [], []⟩
noncomputable def BF_field_Row_number : Code := match Try.f97.body with | some c => c | none => .skip
noncomputable def F_field_Row_number_l0 (F_field_Row_Err : Option Addr → GH → (Int → GH → Option β) → Option β) (R : Nat) (n : Nat) (y6 : Option Addr) (y7 : Int) (y8 : Int) (y9 : Int) (h : GH) (K0 : Option Addr → GH → Option β) : Option β := gloop (gcode Try.prog (CF_field_Row_number F_field_Row_Err) Try.f97.ntmps HF_field_Row_number R (at_ [true, false, true, false, true, false, false] BF_field_Row_number)) [0, 1, 11, 12] n [(0, Value.pointer y6), (1, Value.int .u32 y7), (11, Value.int .i64 y8), (12, Value.int .i64 y9)] h (fun i e' h' => bif Nat.beq i 0 then (exP (some (e'.get 0)) fun u24 => K0 u24 h') else none) (fun e' h' => none)
set_option maxRecDepth 100000 in
theorem F_field_Row_number_l0_succ (F_field_Row_Err : Option Addr → GH → (Int → GH → Option β) → Option β) (R : Nat) (n : Nat) (y6 : Option Addr) (y7 : Int) (y8 : Int) (y9 : Int) (h : GH) (K0 : Option Addr → GH → Option β) : F_field_Row_number_l0 F_field_Row_Err R (n + 1) y6 y7 y8 y9 h K0 =
    (bif decide (y9 < y8) then exA y6 fun g11 o12 => exS (h.cell ⟨g11, o12 + 0, none⟩) fun x13 => (bif decide ((IntKind.wrap .i64 (8 * y9)) < 0) then none else gnew [Value.int .u8 (IntKind.wrap .u8 (shrI .u32 y7 (IntKind.wrap .i64 (8 * y9))))] 1 h fun g14 h15 => gappS 1 1 x13 ⟨(some ⟨g14, 0, none⟩), 1, 1⟩ h15 fun s16 h17 => exA y6 fun g18 o19 => gput g18 (o19 + 0) [Value.slice s16.a s16.n s16.c] h17 fun h20 => F_field_Row_number_l0 F_field_Row_Err R n y6 y7 y8 (IntKind.wrap .i64 (y9 + 1)) h20 K0) else K0 y6 h) := by kernel_rfl
noncomputable def G_field_Row_number (F_field_Row_Err : Option Addr → GH → (Int → GH → Option β) → Option β) (R : Nat) (a1 : Option Addr) (a2 : Int) (a3 : Int) (h : GH) (K : Option Addr → GH → Option β) : Option β := gfun Try.prog (CF_field_Row_number F_field_Row_Err) HF_field_Row_number R Try.f97 [Value.pointer a1, Value.int .u32 a2, Value.int .i64 a3] h (fun v h' => exP (some v) fun u25 => K u25 h')
set_option maxRecDepth 100000 in
theorem F_field_Row_number_gen (F_field_Row_Err : Option Addr → GH → (Int → GH → Option β) → Option β) (R : Nat) (a1 : Option Addr) (a2 : Int) (a3 : Int) (h : GH) (K : Option Addr → GH → Option β) : G_field_Row_number F_field_Row_Err R a1 a2 a3 h K =
    F_field_Row_Err a1 h fun r4 h5 => (bif r4 == 0 then F_field_Row_number_l0 F_field_Row_Err R R a1 a2 a3 0 h5 (fun w21 h22 => K w21 h22) else K a1 h5) := by kernel_rfl
noncomputable def F_field_Row_number (R : Nat) (a1 : Option Addr) (a2 : Int) (a3 : Int) (h : GH) (K : Option Addr → GH → Option β) : Option β := G_field_Row_number (F_field_Row_Err R) R a1 a2 a3 h K
set_option maxRecDepth 100000 in
theorem CF_field_Row_number_sim {R : Nat} : SimOrc Try.prog (CF_field_Row_number (F_field_Row_Err R) (β := β)) := by
  intro f args h K r hc
  unfold CF_field_Row_number at hc
  cases hb : Nat.beq f 98 with
  | true =>
    rw [hb] at hc
    simp only [cond_true] at hc
    obtain rfl := Nat.eq_of_beq_eq_true hb
    split at hc
    · exact any_call (F_field_Row_Err_sim (K := K) hc)
    · cases hc
  | false =>
  rw [hb] at hc
  simp only [cond_false] at hc
  cases hc
set_option maxRecDepth 100000 in
theorem F_field_Row_number_sim {R : Nat} {r : β} {a1 : Option Addr} {a2 : Int} {a3 : Int} {h : GH} {K : Value → GH → Option β} (hc : F_field_Row_number R a1 a2 a3 h (fun q0 h' => K (Value.pointer q0) h') = some r) : ∃ v h', K v h' = some r ∧ CallSim Try.prog 97 [Value.pointer a1, Value.int .u32 a2, Value.int .i64 a3] h v h' := by
  unfold F_field_Row_number G_field_Row_number at hc
  obtain ⟨v, h', hk, hs⟩ := gfun_sim (CF_field_Row_number_sim (R := R)) mixed_ok (fun f h => by cases h) Try.func97 (by kernel_rfl) hc
  obtain ⟨u0, e0, hk⟩ := exP_v hk; cases e0
  exact ⟨_, h', hk, hs⟩
/-! F74 (*duffel/field.Row).U32 -/
def CF_field_Row_U32 (F_field_Row_number : Option Addr → Int → Int → GH → (Option Addr → GH → Option β) → Option β) : Orc β := fun f args h K => bif Nat.beq f 97 then (match args with | [.pointer p1, .int .u32 p2, .int .i64 p3] => F_field_Row_number p1 p2 p3 h (fun q23 h' => K (Value.pointer q23) h') | _ => none) else none
def HF_field_Row_U32 : Hints := ⟨[], [], []⟩
noncomputable def G_field_Row_U32 (F_field_Row_number : Option Addr → Int → Int → GH → (Option Addr → GH → Option β) → Option β) (R : Nat) (a1 : Option Addr) (a2 : Int) (h : GH) (K : Option Addr → GH → Option β) : Option β := gfun Try.prog (CF_field_Row_U32 F_field_Row_number) HF_field_Row_U32 R Try.f74 [Value.pointer a1, Value.int .u32 a2] h (fun v h' => exP (some v) fun u6 => K u6 h')
set_option maxRecDepth 100000 in
theorem F_field_Row_U32_gen (F_field_Row_number : Option Addr → Int → Int → GH → (Option Addr → GH → Option β) → Option β) (R : Nat) (a1 : Option Addr) (a2 : Int) (h : GH) (K : Option Addr → GH → Option β) : G_field_Row_U32 F_field_Row_number R a1 a2 h K =
    F_field_Row_number a1 a2 4 h fun r3 h4 => K r3 h4 := by kernel_rfl
noncomputable def F_field_Row_U32 (R : Nat) (a1 : Option Addr) (a2 : Int) (h : GH) (K : Option Addr → GH → Option β) : Option β := G_field_Row_U32 (F_field_Row_number R) R a1 a2 h K
set_option maxRecDepth 100000 in
theorem CF_field_Row_U32_sim {R : Nat} : SimOrc Try.prog (CF_field_Row_U32 (F_field_Row_number R) (β := β)) := by
  intro f args h K r hc
  unfold CF_field_Row_U32 at hc
  cases hb : Nat.beq f 97 with
  | true =>
    rw [hb] at hc
    simp only [cond_true] at hc
    obtain rfl := Nat.eq_of_beq_eq_true hb
    split at hc
    · exact any_call (F_field_Row_number_sim (K := K) hc)
    · cases hc
  | false =>
  rw [hb] at hc
  simp only [cond_false] at hc
  cases hc
set_option maxRecDepth 100000 in
theorem F_field_Row_U32_sim {R : Nat} {r : β} {a1 : Option Addr} {a2 : Int} {h : GH} {K : Value → GH → Option β} (hc : F_field_Row_U32 R a1 a2 h (fun q0 h' => K (Value.pointer q0) h') = some r) : ∃ v h', K v h' = some r ∧ CallSim Try.prog 74 [Value.pointer a1, Value.int .u32 a2] h v h' := by
  unfold F_field_Row_U32 G_field_Row_U32 at hc
  obtain ⟨v, h', hk, hs⟩ := gfun_sim (CF_field_Row_U32_sim (R := R)) mixed_ok (fun f h => by cases h) Try.func74 (by kernel_rfl) hc
  obtain ⟨u0, e0, hk⟩ := exP_v hk; cases e0
  exact ⟨_, h', hk, hs⟩
/-! F78 (*duffel/field.Row).U16 -/
def CF_field_Row_U16 (F_field_Row_Err : Option Addr → GH → (Int → GH → Option β) → Option β) (F_field_Row_number : Option Addr → Int → Int → GH → (Option Addr → GH → Option β) → Option β) : Orc β := fun f args h K => bif Nat.beq f 98 then (match args with | [.pointer p1] => F_field_Row_Err p1 h (fun q5 h' => K (Value.int .i64 q5) h') | _ => none) else (bif Nat.beq f 97 then (match args with | [.pointer p1, .int .u32 p2, .int .i64 p3] => F_field_Row_number p1 p2 p3 h (fun q23 h' => K (Value.pointer q23) h') | _ => none) else none)
def HF_field_Row_U16 : Hints := ⟨[], [], []⟩
noncomputable def G_field_Row_U16 (F_field_Row_Err : Option Addr → GH → (Int → GH → Option β) → Option β) (F_field_Row_number : Option Addr → Int → Int → GH → (Option Addr → GH → Option β) → Option β) (R : Nat) (a1 : Option Addr) (a2 : Int) (h : GH) (K : Option Addr → GH → Option β) : Option β := gfun Try.prog (CF_field_Row_U16 F_field_Row_Err F_field_Row_number) HF_field_Row_U16 R Try.f78 [Value.pointer a1, Value.int .i64 a2] h (fun v h' => exP (some v) fun u20 => K u20 h')
set_option maxRecDepth 100000 in
theorem F_field_Row_U16_gen (F_field_Row_Err : Option Addr → GH → (Int → GH → Option β) → Option β) (F_field_Row_number : Option Addr → Int → Int → GH → (Option Addr → GH → Option β) → Option β) (R : Nat) (a1 : Option Addr) (a2 : Int) (h : GH) (K : Option Addr → GH → Option β) : G_field_Row_U16 F_field_Row_Err F_field_Row_number R a1 a2 h K =
    F_field_Row_Err a1 h fun r3 h4 => (bif r3 == 0 then (bif decide (a2 < 0) then exA a1 fun g5 o6 => gput g5 (o6 + 1) [Value.int .i64 18] h4 fun h7 => F_field_Row_number a1 (IntKind.wrap .u32 a2) 2 h7 fun r8 h9 => K r8 h9 else (bif decide (a2 > 65535) then exA a1 fun g10 o11 => gput g10 (o11 + 1) [Value.int .i64 18] h4 fun h12 => F_field_Row_number a1 (IntKind.wrap .u32 a2) 2 h12 fun r13 h14 => K r13 h14 else F_field_Row_number a1 (IntKind.wrap .u32 a2) 2 h4 fun r15 h16 => K r15 h16)) else F_field_Row_number a1 (IntKind.wrap .u32 a2) 2 h4 fun r17 h18 => K r17 h18) := by kernel_rfl
noncomputable def F_field_Row_U16 (R : Nat) (a1 : Option Addr) (a2 : Int) (h : GH) (K : Option Addr → GH → Option β) : Option β := G_field_Row_U16 (F_field_Row_Err R) (F_field_Row_number R) R a1 a2 h K
set_option maxRecDepth 100000 in
theorem CF_field_Row_U16_sim {R : Nat} : SimOrc Try.prog (CF_field_Row_U16 (F_field_Row_Err R) (F_field_Row_number R) (β := β)) := by
  intro f args h K r hc
  unfold CF_field_Row_U16 at hc
  cases hb : Nat.beq f 98 with
  | true =>
    rw [hb] at hc
    simp only [cond_true] at hc
    obtain rfl := Nat.eq_of_beq_eq_true hb
    split at hc
    · exact any_call (F_field_Row_Err_sim (K := K) hc)
    · cases hc
  | false =>
  rw [hb] at hc
  simp only [cond_false] at hc
  cases hb : Nat.beq f 97 with
  | true =>
    rw [hb] at hc
    simp only [cond_true] at hc
    obtain rfl := Nat.eq_of_beq_eq_true hb
    split at hc
    · exact any_call (F_field_Row_number_sim (K := K) hc)
    · cases hc
  | false =>
  rw [hb] at hc
  simp only [cond_false] at hc
  cases hc
set_option maxRecDepth 100000 in
theorem F_field_Row_U16_sim {R : Nat} {r : β} {a1 : Option Addr} {a2 : Int} {h : GH} {K : Value → GH → Option β} (hc : F_field_Row_U16 R a1 a2 h (fun q0 h' => K (Value.pointer q0) h') = some r) : ∃ v h', K v h' = some r ∧ CallSim Try.prog 78 [Value.pointer a1, Value.int .i64 a2] h v h' := by
  unfold F_field_Row_U16 G_field_Row_U16 at hc
  obtain ⟨v, h', hk, hs⟩ := gfun_sim (CF_field_Row_U16_sim (R := R)) mixed_ok (fun f h => by cases h) Try.func78 (by kernel_rfl) hc
  obtain ⟨u0, e0, hk⟩ := exP_v hk; cases e0
  exact ⟨_, h', hk, hs⟩
/-! F75 duffel/record.common -/
def CF_record_common (F_field_Row_U16 : Option Addr → Int → GH → (Option Addr → GH → Option β) → Option β) (F_field_Row_U32 : Option Addr → Int → GH → (Option Addr → GH → Option β) → Option β) : Orc β := fun f args h K => bif Nat.beq f 78 then (match args with | [.pointer p1, .int .i64 p2] => F_field_Row_U16 p1 p2 h (fun q19 h' => K (Value.pointer q19) h') | _ => none) else (bif Nat.beq f 74 then (match args with | [.pointer p1, .int .u32 p2] => F_field_Row_U32 p1 p2 h (fun q5 h' => K (Value.pointer q5) h') | _ => none) else none)
def HF_record_common : Hints := ⟨[], [], []⟩
noncomputable def G_record_common (F_field_Row_U16 : Option Addr → Int → GH → (Option Addr → GH → Option β) → Option β) (F_field_Row_U32 : Option Addr → Int → GH → (Option Addr → GH → Option β) → Option β) (R : Nat) (a1 : Option Addr) (a2 : Int) (a3 : Int) (a4 : Int) (a5 : Int) (a6 : Int) (a7 : Int) (a8 : Int) (a9 : Int) (a10 : Sl) (a11 : Sl) (h : GH) (K : GH → Option β) : Option β := gfun Try.prog (CF_record_common F_field_Row_U16 F_field_Row_U32) HF_record_common R Try.f75 [Value.pointer a1, Value.agg #[Value.int .i64 a2, Value.int .i64 a3, Value.int .i64 a4, Value.int .i64 a5, Value.int .i64 a6, Value.int .u32 a7, Value.int .u32 a8, Value.int .u32 a9, Value.slice a10.a a10.n a10.c, Value.slice a11.a a11.n a11.c]] h (fun _ h' => K h')
set_option maxRecDepth 100000 in
theorem F_record_common_gen (F_field_Row_U16 : Option Addr → Int → GH → (Option Addr → GH → Option β) → Option β) (F_field_Row_U32 : Option Addr → Int → GH → (Option Addr → GH → Option β) → Option β) (R : Nat) (a1 : Option Addr) (a2 : Int) (a3 : Int) (a4 : Int) (a5 : Int) (a6 : Int) (a7 : Int) (a8 : Int) (a9 : Int) (a10 : Sl) (a11 : Sl) (h : GH) (K : GH → Option β) : G_record_common F_field_Row_U16 F_field_Row_U32 R a1 a2 a3 a4 a5 a6 a7 a8 a9 a10 a11 h K =
    gnew [Value.int .i64 a2, Value.int .i64 a3, Value.int .i64 a4, Value.int .i64 a5, Value.int .i64 a6, Value.int .u32 a7, Value.int .u32 a8, Value.int .u32 a9, Value.slice a10.a a10.n a10.c, Value.slice a11.a a11.n a11.c] 0 h fun g12 h13 => exI .i64 (h13.cell ⟨g12, 0 + 0, none⟩) fun x14 => F_field_Row_U16 a1 x14 h13 fun r15 h16 => exI .i64 (h16.cell ⟨g12, 0 + 1, none⟩) fun x17 => F_field_Row_U16 r15 x17 h16 fun r18 h19 => exI .i64 (h19.cell ⟨g12, 0 + 2, none⟩) fun x20 => F_field_Row_U16 r18 x20 h19 fun r21 h22 => exI .i64 (h22.cell ⟨g12, 0 + 3, none⟩) fun x23 => F_field_Row_U16 r21 x23 h22 fun r24 h25 => exI .i64 (h25.cell ⟨g12, 0 + 4, none⟩) fun x26 => F_field_Row_U16 r24 x26 h25 fun r27 h28 => (bif sameAt g12 (0 + 4) 1 h22 h25 then (bif sameAt g12 (0 + 4) 1 h19 h22 then (bif sameAt g12 (0 + 4) 1 h16 h19 then (bif sameAt g12 (0 + 4) 1 h13 h16 then (bif sameAt g12 (0 + 3) 1 h19 h22 then (bif sameAt g12 (0 + 3) 1 h16 h19 then (bif sameAt g12 (0 + 3) 1 h13 h16 then (bif sameAt g12 (0 + 2) 1 h16 h19 then (bif sameAt g12 (0 + 2) 1 h13 h16 then (bif sameAt g12 (0 + 1) 1 h13 h16 then exI .u32 (h28.cell ⟨g12, 0 + 5, none⟩) fun x29 => F_field_Row_U32 a1 x29 h28 fun r30 h31 => exI .u32 (h31.cell ⟨g12, 0 + 6, none⟩) fun x32 => F_field_Row_U32 r30 x32 h31 fun r33 h34 => exI .u32 (h34.cell ⟨g12, 0 + 7, none⟩) fun x35 => F_field_Row_U32 r33 x35 h34 fun r36 h37 => (bif sameAt g12 (0 + 7) 1 h31 h34 then (bif sameAt g12 (0 + 7) 1 h28 h31 then (bif sameAt g12 (0 + 6) 1 h28 h31 then exS (h37.cell ⟨g12, 0 + 8, none⟩) fun x38 => F_field_Row_U16 a1 ((x38.n : Nat) : Int) h37 fun r39 h40 => exS (h40.cell ⟨g12, 0 + 9, none⟩) fun x41 => F_field_Row_U16 r39 ((x41.n : Nat) : Int) h40 fun r42 h43 => (bif sameAt g12 (0 + 9) 1 h37 h40 then K h43 else none) else none) else none) else none) else none) else none) else none) else none) else none) else none) else none) else none) else none) else none) := by kernel_rfl
noncomputable def F_record_common (R : Nat) (a1 : Option Addr) (a2 : Int) (a3 : Int) (a4 : Int) (a5 : Int) (a6 : Int) (a7 : Int) (a8 : Int) (a9 : Int) (a10 : Sl) (a11 : Sl) (h : GH) (K : GH → Option β) : Option β := G_record_common (F_field_Row_U16 R) (F_field_Row_U32 R) R a1 a2 a3 a4 a5 a6 a7 a8 a9 a10 a11 h K
set_option maxRecDepth 100000 in
theorem CF_record_common_sim {R : Nat} : SimOrc Try.prog (CF_record_common (F_field_Row_U16 R) (F_field_Row_U32 R) (β := β)) := by
  intro f args h K r hc
  unfold CF_record_common at hc
  cases hb : Nat.beq f 78 with
  | true =>
    rw [hb] at hc
    simp only [cond_true] at hc
    obtain rfl := Nat.eq_of_beq_eq_true hb
    split at hc
    · exact any_call (F_field_Row_U16_sim (K := K) hc)
    · cases hc
  | false =>
  rw [hb] at hc
  simp only [cond_false] at hc
  cases hb : Nat.beq f 74 with
  | true =>
    rw [hb] at hc
    simp only [cond_true] at hc
    obtain rfl := Nat.eq_of_beq_eq_true hb
    split at hc
    · exact any_call (F_field_Row_U32_sim (K := K) hc)
    · cases hc
  | false =>
  rw [hb] at hc
  simp only [cond_false] at hc
  cases hc
set_option maxRecDepth 100000 in
theorem F_record_common_sim {R : Nat} {r : β} {a1 : Option Addr} {a2 : Int} {a3 : Int} {a4 : Int} {a5 : Int} {a6 : Int} {a7 : Int} {a8 : Int} {a9 : Int} {a10 : Sl} {a11 : Sl} {h : GH} {K : Value → GH → Option β} (hc : F_record_common R a1 a2 a3 a4 a5 a6 a7 a8 a9 a10 a11 h (fun h' => K (Value.tuple #[]) h') = some r) : ∃ v h', K v h' = some r ∧ CallSim Try.prog 75 [Value.pointer a1, Value.agg #[Value.int .i64 a2, Value.int .i64 a3, Value.int .i64 a4, Value.int .i64 a5, Value.int .i64 a6, Value.int .u32 a7, Value.int .u32 a8, Value.int .u32 a9, Value.slice a10.a a10.n a10.c, Value.slice a11.a a11.n a11.c]] h v h' := by
  unfold F_record_common G_record_common at hc
  obtain ⟨v, h', hk, hs⟩ := gfun_sim (CF_record_common_sim (R := R)) mixed_ok (fun f h => by cases h) Try.func75 (by kernel_rfl) hc
  exact ⟨_, h', hk, hs.unit⟩
/-! F77 (*duffel/field.Row).Put -/
def CF_field_Row_Put (F_field_Row_Err : Option Addr → GH → (Int → GH → Option β) → Option β) : Orc β := fun f args h K => bif Nat.beq f 98 then (match args with | [.pointer p1] => F_field_Row_Err p1 h (fun q5 h' => K (Value.int .i64 q5) h') | _ => none) else none
def HF_field_Row_Put : Hints := ⟨[], [], []⟩
noncomputable def G_field_Row_Put (F_field_Row_Err : Option Addr → GH → (Int → GH → Option β) → Option β) (R : Nat) (a1 : Option Addr) (a2 : Sl) (h : GH) (K : Option Addr → GH → Option β) : Option β := gfun Try.prog (CF_field_Row_Put F_field_Row_Err) HF_field_Row_Put R Try.f77 [Value.pointer a1, Value.slice a2.a a2.n a2.c] h (fun v h' => exP (some v) fun u14 => K u14 h')
set_option maxRecDepth 100000 in
theorem F_field_Row_Put_gen (F_field_Row_Err : Option Addr → GH → (Int → GH → Option β) → Option β) (R : Nat) (a1 : Option Addr) (a2 : Sl) (h : GH) (K : Option Addr → GH → Option β) : G_field_Row_Put F_field_Row_Err R a1 a2 h K =
    F_field_Row_Err a1 h fun r3 h4 => (bif r3 == 0 then exA a1 fun g5 o6 => exS (h4.cell ⟨g5, o6 + 0, none⟩) fun x7 => gappS 1 1 x7 a2 h4 fun s8 h9 => exA a1 fun g10 o11 => gput g10 (o11 + 0) [Value.slice s8.a s8.n s8.c] h9 fun h12 => K a1 h12 else K a1 h4) := by kernel_rfl
noncomputable def F_field_Row_Put (R : Nat) (a1 : Option Addr) (a2 : Sl) (h : GH) (K : Option Addr → GH → Option β) : Option β := G_field_Row_Put (F_field_Row_Err R) R a1 a2 h K
set_option maxRecDepth 100000 in
theorem CF_field_Row_Put_sim {R : Nat} : SimOrc Try.prog (CF_field_Row_Put (F_field_Row_Err R) (β := β)) := by
  intro f args h K r hc
  unfold CF_field_Row_Put at hc
  cases hb : Nat.beq f 98 with
  | true =>
    rw [hb] at hc
    simp only [cond_true] at hc
    obtain rfl := Nat.eq_of_beq_eq_true hb
    split at hc
    · exact any_call (F_field_Row_Err_sim (K := K) hc)
    · cases hc
  | false =>
  rw [hb] at hc
  simp only [cond_false] at hc
  cases hc
set_option maxRecDepth 100000 in
theorem F_field_Row_Put_sim {R : Nat} {r : β} {a1 : Option Addr} {a2 : Sl} {h : GH} {K : Value → GH → Option β} (hc : F_field_Row_Put R a1 a2 h (fun q0 h' => K (Value.pointer q0) h') = some r) : ∃ v h', K v h' = some r ∧ CallSim Try.prog 77 [Value.pointer a1, Value.slice a2.a a2.n a2.c] h v h' := by
  unfold F_field_Row_Put G_field_Row_Put at hc
  obtain ⟨v, h', hk, hs⟩ := gfun_sim (CF_field_Row_Put_sim (R := R)) mixed_ok (fun f h => by cases h) Try.func77 (by kernel_rfl) hc
  obtain ⟨u0, e0, hk⟩ := exP_v hk; cases e0
  exact ⟨_, h', hk, hs⟩
/-! F62 bytes.Clone -/
def CF_bytes_Clone  : Orc β := fun f args h K => none
def HF_bytes_Clone : Hints := ⟨[], [], []⟩
noncomputable def G_bytes_Clone  (R : Nat) (a1 : Sl) (h : GH) (K : Sl → GH → Option β) : Option β := gfun Try.prog (CF_bytes_Clone ) HF_bytes_Clone R Try.f62 [Value.slice a1.a a1.n a1.c] h (fun v h' => exS (some v) fun u7 => K u7 h')
set_option maxRecDepth 100000 in
theorem F_bytes_Clone_gen  (R : Nat) (a1 : Sl) (h : GH) (K : Sl → GH → Option β) : G_bytes_Clone  R a1 h K =
    (bif Option.isNone a1.a then K ⟨none, 0, 0⟩ h else gnew [] 1 h fun g2 h3 => gappS 1 1 ⟨(some ⟨g2, 0, none⟩), 0, 0⟩ a1 h3 fun s4 h5 => K s4 h5) := by kernel_rfl
noncomputable def F_bytes_Clone (R : Nat) (a1 : Sl) (h : GH) (K : Sl → GH → Option β) : Option β := G_bytes_Clone  R a1 h K
theorem CF_bytes_Clone_sim : SimOrc Try.prog (CF_bytes_Clone (β := β)) := by
  intro f args h K r hc
  cases hc
set_option maxRecDepth 100000 in
theorem F_bytes_Clone_sim {R : Nat} {r : β} {a1 : Sl} {h : GH} {K : Value → GH → Option β} (hc : F_bytes_Clone R a1 h (fun q0 h' => K (Value.slice q0.a q0.n q0.c) h') = some r) : ∃ v h', K v h' = some r ∧ CallSim Try.prog 62 [Value.slice a1.a a1.n a1.c] h v h' := by
  unfold F_bytes_Clone G_bytes_Clone at hc
  obtain ⟨v, h', hk, hs⟩ := gfun_sim CF_bytes_Clone_sim mixed_ok (fun f h => by cases h) Try.func62 (by kernel_rfl) hc
  obtain ⟨u0, e0, hk⟩ := exS_v hk; cases e0
  exact ⟨_, h', hk, hs⟩
/-! F99 (*duffel/field.Row).Bytes -/
def CF_field_Row_Bytes (F_field_Row_Err : Option Addr → GH → (Int → GH → Option β) → Option β) (F_bytes_Clone : Sl → GH → (Sl → GH → Option β) → Option β) : Orc β := fun f args h K => bif Nat.beq f 98 then (match args with | [.pointer p1] => F_field_Row_Err p1 h (fun q5 h' => K (Value.int .i64 q5) h') | _ => none) else (bif Nat.beq f 62 then (match args with | [.slice p1a p1n p1c] => F_bytes_Clone ⟨p1a, p1n, p1c⟩ h (fun q6 h' => K (Value.slice q6.a q6.n q6.c) h') | _ => none) else none)
def HF_field_Row_Bytes : Hints := ⟨[], [], []⟩
noncomputable def G_field_Row_Bytes (F_field_Row_Err : Option Addr → GH → (Int → GH → Option β) → Option β) (F_bytes_Clone : Sl → GH → (Sl → GH → Option β) → Option β) (R : Nat) (a1 : Option Addr) (h : GH) (K : Sl → GH → Option β) : Option β := gfun Try.prog (CF_field_Row_Bytes F_field_Row_Err F_bytes_Clone) HF_field_Row_Bytes R Try.f99 [Value.pointer a1] h (fun v h' => exS (some v) fun u10 => K u10 h')
set_option maxRecDepth 100000 in
theorem F_field_Row_Bytes_gen (F_field_Row_Err : Option Addr → GH → (Int → GH → Option β) → Option β) (F_bytes_Clone : Sl → GH → (Sl → GH → Option β) → Option β) (R : Nat) (a1 : Option Addr) (h : GH) (K : Sl → GH → Option β) : G_field_Row_Bytes F_field_Row_Err F_bytes_Clone R a1 h K =
    F_field_Row_Err a1 h fun r2 h3 => (bif r2 != 0 then K ⟨none, 0, 0⟩ h3 else exA a1 fun g4 o5 => exS (h3.cell ⟨g4, o5 + 0, none⟩) fun x6 => F_bytes_Clone x6 h3 fun r7 h8 => K r7 h8) := by kernel_rfl
noncomputable def F_field_Row_Bytes (R : Nat) (a1 : Option Addr) (h : GH) (K : Sl → GH → Option β) : Option β := G_field_Row_Bytes (F_field_Row_Err R) (F_bytes_Clone R) R a1 h K
set_option maxRecDepth 100000 in
theorem CF_field_Row_Bytes_sim {R : Nat} : SimOrc Try.prog (CF_field_Row_Bytes (F_field_Row_Err R) (F_bytes_Clone R) (β := β)) := by
  intro f args h K r hc
  unfold CF_field_Row_Bytes at hc
  cases hb : Nat.beq f 98 with
  | true =>
    rw [hb] at hc
    simp only [cond_true] at hc
    obtain rfl := Nat.eq_of_beq_eq_true hb
    split at hc
    · exact any_call (F_field_Row_Err_sim (K := K) hc)
    · cases hc
  | false =>
  rw [hb] at hc
  simp only [cond_false] at hc
  cases hb : Nat.beq f 62 with
  | true =>
    rw [hb] at hc
    simp only [cond_true] at hc
    obtain rfl := Nat.eq_of_beq_eq_true hb
    split at hc
    · exact any_call (F_bytes_Clone_sim (K := K) hc)
    · cases hc
  | false =>
  rw [hb] at hc
  simp only [cond_false] at hc
  cases hc
set_option maxRecDepth 100000 in
theorem F_field_Row_Bytes_sim {R : Nat} {r : β} {a1 : Option Addr} {h : GH} {K : Value → GH → Option β} (hc : F_field_Row_Bytes R a1 h (fun q0 h' => K (Value.slice q0.a q0.n q0.c) h') = some r) : ∃ v h', K v h' = some r ∧ CallSim Try.prog 99 [Value.pointer a1] h v h' := by
  unfold F_field_Row_Bytes G_field_Row_Bytes at hc
  obtain ⟨v, h', hk, hs⟩ := gfun_sim (CF_field_Row_Bytes_sim (R := R)) mixed_ok (fun f h => by cases h) Try.func99 (by kernel_rfl) hc
  obtain ⟨u0, e0, hk⟩ := exS_v hk; cases e0
  exact ⟨_, h', hk, hs⟩
/-! F76 duffel/record.done -/
def CF_record_done (F_field_Row_Err : Option Addr → GH → (Int → GH → Option β) → Option β) (F_field_Row_Bytes : Option Addr → GH → (Sl → GH → Option β) → Option β) : Orc β := fun f args h K => bif Nat.beq f 98 then (match args with | [.pointer p1] => F_field_Row_Err p1 h (fun q5 h' => K (Value.int .i64 q5) h') | _ => none) else (bif Nat.beq f 99 then (match args with | [.pointer p1] => F_field_Row_Bytes p1 h (fun q9 h' => K (Value.slice q9.a q9.n q9.c) h') | _ => none) else none)
def HF_record_done : Hints := ⟨[], [], []⟩
noncomputable def G_record_done (F_field_Row_Err : Option Addr → GH → (Int → GH → Option β) → Option β) (F_field_Row_Bytes : Option Addr → GH → (Sl → GH → Option β) → Option β) (R : Nat) (a1 : Option Addr) (h : GH) (K : Sl → Int → GH → Option β) : Option β := gfun Try.prog (CF_record_done F_field_Row_Err F_field_Row_Bytes) HF_record_done R Try.f76 [Value.pointer a1] h (fun v h' => exTup 2 v fun vs => exV (nth vs 0) fun v0 => exS (some v0) fun u8 => exV (nth vs 1) fun v1 => exI .i64 (some v1) fun u9 => K u8 u9 h')
set_option maxRecDepth 100000 in
theorem F_record_done_gen (F_field_Row_Err : Option Addr → GH → (Int → GH → Option β) → Option β) (F_field_Row_Bytes : Option Addr → GH → (Sl → GH → Option β) → Option β) (R : Nat) (a1 : Option Addr) (h : GH) (K : Sl → Int → GH → Option β) : G_record_done F_field_Row_Err F_field_Row_Bytes R a1 h K =
    F_field_Row_Err a1 h fun r2 h3 => (bif r2 != 0 then K ⟨none, 0, 0⟩ r2 h3 else F_field_Row_Bytes a1 h3 fun r4 h5 => K r4 0 h5) := by kernel_rfl
noncomputable def F_record_done (R : Nat) (a1 : Option Addr) (h : GH) (K : Sl → Int → GH → Option β) : Option β := G_record_done (F_field_Row_Err R) (F_field_Row_Bytes R) R a1 h K
set_option maxRecDepth 100000 in
theorem CF_record_done_sim {R : Nat} : SimOrc Try.prog (CF_record_done (F_field_Row_Err R) (F_field_Row_Bytes R) (β := β)) := by
  intro f args h K r hc
  unfold CF_record_done at hc
  cases hb : Nat.beq f 98 with
  | true =>
    rw [hb] at hc
    simp only [cond_true] at hc
    obtain rfl := Nat.eq_of_beq_eq_true hb
    split at hc
    · exact any_call (F_field_Row_Err_sim (K := K) hc)
    · cases hc
  | false =>
  rw [hb] at hc
  simp only [cond_false] at hc
  cases hb : Nat.beq f 99 with
  | true =>
    rw [hb] at hc
    simp only [cond_true] at hc
    obtain rfl := Nat.eq_of_beq_eq_true hb
    split at hc
    · exact any_call (F_field_Row_Bytes_sim (K := K) hc)
    · cases hc
  | false =>
  rw [hb] at hc
  simp only [cond_false] at hc
  cases hc
set_option maxRecDepth 100000 in
theorem F_record_done_sim {R : Nat} {r : β} {a1 : Option Addr} {h : GH} {K : Value → GH → Option β} (hc : F_record_done R a1 h (fun q0 q1 h' => K (Value.tuple #[Value.slice q0.a q0.n q0.c, Value.int .i64 q1]) h') = some r) : ∃ v h', K v h' = some r ∧ CallSim Try.prog 76 [Value.pointer a1] h v h' := by
  unfold F_record_done G_record_done at hc
  obtain ⟨v, h', hk, hs⟩ := gfun_sim (CF_record_done_sim (R := R)) mixed_ok (fun f h => by cases h) Try.func76 (by kernel_rfl) hc
  obtain ⟨vs, rfl, hl, hk⟩ := exTup_v hk
  obtain ⟨v0, t0, hk⟩ := exV_v hk
  obtain ⟨u0, e0, hk⟩ := exS_v hk; cases e0
  obtain ⟨v1, t1, hk⟩ := exV_v hk
  obtain ⟨u1, e1, hk⟩ := exI_v hk; cases e1
  obtain rfl := arr2 hl t0 t1
  exact ⟨_, h', hk, hs⟩
/-! F45 duffel/record.WriteLocal -/
def CF_record_WriteLocal (F_field_New : GH → (Option Addr → GH → Option β) → Option β) (F_field_Row_U32 : Option Addr → Int → GH → (Option Addr → GH → Option β) → Option β) (F_record_common : Option Addr → Int → Int → Int → Int → Int → Int → Int → Int → Sl → Sl → GH → (GH → Option β) → Option β) (F_field_Row_Put : Option Addr → Sl → GH → (Option Addr → GH → Option β) → Option β) (F_record_done : Option Addr → GH → (Sl → Int → GH → Option β) → Option β) : Orc β := fun f args h K => bif Nat.beq f 73 then (match args with | [] => F_field_New  h (fun q3 h' => K (Value.pointer q3) h') | _ => none) else (bif Nat.beq f 74 then (match args with | [.pointer p1, .int .u32 p2] => F_field_Row_U32 p1 p2 h (fun q5 h' => K (Value.pointer q5) h') | _ => none) else (bif Nat.beq f 75 then (match args with | [.pointer p1, .agg ⟨[.int .i64 p2, .int .i64 p3, .int .i64 p4, .int .i64 p5, .int .i64 p6, .int .u32 p7, .int .u32 p8, .int .u32 p9, .slice p10a p10n p10c, .slice p11a p11n p11c]⟩] => F_record_common p1 p2 p3 p4 p5 p6 p7 p8 p9 ⟨p10a, p10n, p10c⟩ ⟨p11a, p11n, p11c⟩ h (fun h' => K (Value.tuple #[]) h') | _ => none) else (bif Nat.beq f 77 then (match args with | [.pointer p1, .slice p2a p2n p2c] => F_field_Row_Put p1 ⟨p2a, p2n, p2c⟩ h (fun q13 h' => K (Value.pointer q13) h') | _ => none) else (bif Nat.beq f 76 then (match args with | [.pointer p1] => F_record_done p1 h (fun q6 q7 h' => K (Value.tuple #[Value.slice q6.a q6.n q6.c, Value.int .i64 q7]) h') | _ => none) else none))))
def HF_record_WriteLocal : Hints := ⟨[], [], []⟩
noncomputable def G_record_WriteLocal (F_field_New : GH → (Option Addr → GH → Option β) → Option β) (F_field_Row_U32 : Option Addr → Int → GH → (Option Addr → GH → Option β) → Option β) (F_record_common : Option Addr → Int → Int → Int → Int → Int → Int → Int → Int → Sl → Sl → GH → (GH → Option β) → Option β) (F_field_Row_Put : Option Addr → Sl → GH → (Option Addr → GH → Option β) → Option β) (F_record_done : Option Addr → GH → (Sl → Int → GH → Option β) → Option β) (R : Nat) (a1 : Int) (a2 : Int) (a3 : Int) (a4 : Int) (a5 : Int) (a6 : Int) (a7 : Int) (a8 : Int) (a9 : Sl) (a10 : Sl) (h : GH) (K : Sl → Int → GH → Option β) : Option β := gfun Try.prog (CF_record_WriteLocal F_field_New F_field_Row_U32 F_record_common F_field_Row_Put F_record_done) HF_record_WriteLocal R Try.f45 [Value.agg #[Value.int .i64 a1, Value.int .i64 a2, Value.int .i64 a3, Value.int .i64 a4, Value.int .i64 a5, Value.int .u32 a6, Value.int .u32 a7, Value.int .u32 a8, Value.slice a9.a a9.n a9.c, Value.slice a10.a a10.n a10.c]] h (fun v h' => exTup 2 v fun vs => exV (nth vs 0) fun v0 => exS (some v0) fun u39 => exV (nth vs 1) fun v1 => exI .i64 (some v1) fun u40 => K u39 u40 h')
set_option maxRecDepth 100000 in
theorem F_record_WriteLocal_gen (F_field_New : GH → (Option Addr → GH → Option β) → Option β) (F_field_Row_U32 : Option Addr → Int → GH → (Option Addr → GH → Option β) → Option β) (F_record_common : Option Addr → Int → Int → Int → Int → Int → Int → Int → Int → Sl → Sl → GH → (GH → Option β) → Option β) (F_field_Row_Put : Option Addr → Sl → GH → (Option Addr → GH → Option β) → Option β) (F_record_done : Option Addr → GH → (Sl → Int → GH → Option β) → Option β) (R : Nat) (a1 : Int) (a2 : Int) (a3 : Int) (a4 : Int) (a5 : Int) (a6 : Int) (a7 : Int) (a8 : Int) (a9 : Sl) (a10 : Sl) (h : GH) (K : Sl → Int → GH → Option β) : G_record_WriteLocal F_field_New F_field_Row_U32 F_record_common F_field_Row_Put F_record_done R a1 a2 a3 a4 a5 a6 a7 a8 a9 a10 h K =
    gnew [Value.int .i64 a1, Value.int .i64 a2, Value.int .i64 a3, Value.int .i64 a4, Value.int .i64 a5, Value.int .u32 a6, Value.int .u32 a7, Value.int .u32 a8, Value.slice a9.a a9.n a9.c, Value.slice a10.a a10.n a10.c] 0 h fun g11 h12 => F_field_New h12 fun r13 h14 => F_field_Row_U32 r13 67324752 h14 fun r15 h16 => exI .i64 (h16.cell ⟨g11, 0, none⟩) fun x17 => exI .i64 (h16.cell ⟨g11, 0 + 1, none⟩) fun x18 => exI .i64 (h16.cell ⟨g11, 0 + 1 + 1, none⟩) fun x19 => exI .i64 (h16.cell ⟨g11, 0 + 1 + 1 + 1, none⟩) fun x20 => exI .i64 (h16.cell ⟨g11, 0 + 1 + 1 + 1 + 1, none⟩) fun x21 => exI .u32 (h16.cell ⟨g11, 0 + 1 + 1 + 1 + 1 + 1, none⟩) fun x22 => exI .u32 (h16.cell ⟨g11, 0 + 1 + 1 + 1 + 1 + 1 + 1, none⟩) fun x23 => exI .u32 (h16.cell ⟨g11, 0 + 1 + 1 + 1 + 1 + 1 + 1 + 1, none⟩) fun x24 => exS (h16.cell ⟨g11, 0 + 1 + 1 + 1 + 1 + 1 + 1 + 1 + 1, none⟩) fun x25 => exS (h16.cell ⟨g11, 0 + 1 + 1 + 1 + 1 + 1 + 1 + 1 + 1 + 1, none⟩) fun x26 => F_record_common r15 x17 x18 x19 x20 x21 x22 x23 x24 x25 x26 h16 fun h27 => exS (h27.cell ⟨g11, 0 + 8, none⟩) fun x28 => F_field_Row_Put r15 x28 h27 fun r29 h30 => exS (h30.cell ⟨g11, 0 + 9, none⟩) fun x31 => F_field_Row_Put r29 x31 h30 fun r32 h33 => F_record_done r32 h33 fun r34 r35 h36 => (bif sameAt g11 (0 + 9) 1 h27 h30 then K r34 r35 h36 else none) := by kernel_rfl
noncomputable def F_record_WriteLocal (R : Nat) (a1 : Int) (a2 : Int) (a3 : Int) (a4 : Int) (a5 : Int) (a6 : Int) (a7 : Int) (a8 : Int) (a9 : Sl) (a10 : Sl) (h : GH) (K : Sl → Int → GH → Option β) : Option β := G_record_WriteLocal (F_field_New R) (F_field_Row_U32 R) (F_record_common R) (F_field_Row_Put R) (F_record_done R) R a1 a2 a3 a4 a5 a6 a7 a8 a9 a10 h K
set_option maxRecDepth 100000 in
theorem CF_record_WriteLocal_sim {R : Nat} : SimOrc Try.prog (CF_record_WriteLocal (F_field_New R) (F_field_Row_U32 R) (F_record_common R) (F_field_Row_Put R) (F_record_done R) (β := β)) := by
  intro f args h K r hc
  unfold CF_record_WriteLocal at hc
  cases hb : Nat.beq f 73 with
  | true =>
    rw [hb] at hc
    simp only [cond_true] at hc
    obtain rfl := Nat.eq_of_beq_eq_true hb
    split at hc
    · exact any_call (F_field_New_sim (K := K) hc)
    · cases hc
  | false =>
  rw [hb] at hc
  simp only [cond_false] at hc
  cases hb : Nat.beq f 74 with
  | true =>
    rw [hb] at hc
    simp only [cond_true] at hc
    obtain rfl := Nat.eq_of_beq_eq_true hb
    split at hc
    · exact any_call (F_field_Row_U32_sim (K := K) hc)
    · cases hc
  | false =>
  rw [hb] at hc
  simp only [cond_false] at hc
  cases hb : Nat.beq f 75 with
  | true =>
    rw [hb] at hc
    simp only [cond_true] at hc
    obtain rfl := Nat.eq_of_beq_eq_true hb
    split at hc
    · exact any_call (F_record_common_sim (K := K) hc)
    · cases hc
  | false =>
  rw [hb] at hc
  simp only [cond_false] at hc
  cases hb : Nat.beq f 77 with
  | true =>
    rw [hb] at hc
    simp only [cond_true] at hc
    obtain rfl := Nat.eq_of_beq_eq_true hb
    split at hc
    · exact any_call (F_field_Row_Put_sim (K := K) hc)
    · cases hc
  | false =>
  rw [hb] at hc
  simp only [cond_false] at hc
  cases hb : Nat.beq f 76 with
  | true =>
    rw [hb] at hc
    simp only [cond_true] at hc
    obtain rfl := Nat.eq_of_beq_eq_true hb
    split at hc
    · exact any_call (F_record_done_sim (K := K) hc)
    · cases hc
  | false =>
  rw [hb] at hc
  simp only [cond_false] at hc
  cases hc
set_option maxRecDepth 100000 in
theorem F_record_WriteLocal_sim {R : Nat} {r : β} {a1 : Int} {a2 : Int} {a3 : Int} {a4 : Int} {a5 : Int} {a6 : Int} {a7 : Int} {a8 : Int} {a9 : Sl} {a10 : Sl} {h : GH} {K : Value → GH → Option β} (hc : F_record_WriteLocal R a1 a2 a3 a4 a5 a6 a7 a8 a9 a10 h (fun q0 q1 h' => K (Value.tuple #[Value.slice q0.a q0.n q0.c, Value.int .i64 q1]) h') = some r) : ∃ v h', K v h' = some r ∧ CallSim Try.prog 45 [Value.agg #[Value.int .i64 a1, Value.int .i64 a2, Value.int .i64 a3, Value.int .i64 a4, Value.int .i64 a5, Value.int .u32 a6, Value.int .u32 a7, Value.int .u32 a8, Value.slice a9.a a9.n a9.c, Value.slice a10.a a10.n a10.c]] h v h' := by
  unfold F_record_WriteLocal G_record_WriteLocal at hc
  obtain ⟨v, h', hk, hs⟩ := gfun_sim (CF_record_WriteLocal_sim (R := R)) mixed_ok (fun f h => by cases h) Try.func45 (by kernel_rfl) hc
  obtain ⟨vs, rfl, hl, hk⟩ := exTup_v hk
  obtain ⟨v0, t0, hk⟩ := exV_v hk
  obtain ⟨u0, e0, hk⟩ := exS_v hk; cases e0
  obtain ⟨v1, t1, hk⟩ := exV_v hk
  obtain ⟨u1, e1, hk⟩ := exI_v hk; cases e1
  obtain rfl := arr2 hl t0 t1
  exact ⟨_, h', hk, hs⟩
/-! F46 duffel/record.WriteCentral -/
def CF_record_WriteCentral (F_field_New : GH → (Option Addr → GH → Option β) → Option β) (F_field_Row_U32 : Option Addr → Int → GH → (Option Addr → GH → Option β) → Option β) (F_field_Row_U16 : Option Addr → Int → GH → (Option Addr → GH → Option β) → Option β) (F_record_common : Option Addr → Int → Int → Int → Int → Int → Int → Int → Int → Sl → Sl → GH → (GH → Option β) → Option β) (F_field_Row_Put : Option Addr → Sl → GH → (Option Addr → GH → Option β) → Option β) (F_record_done : Option Addr → GH → (Sl → Int → GH → Option β) → Option β) : Orc β := fun f args h K => bif Nat.beq f 73 then (match args with | [] => F_field_New  h (fun q3 h' => K (Value.pointer q3) h') | _ => none) else (bif Nat.beq f 74 then (match args with | [.pointer p1, .int .u32 p2] => F_field_Row_U32 p1 p2 h (fun q5 h' => K (Value.pointer q5) h') | _ => none) else (bif Nat.beq f 78 then (match args with | [.pointer p1, .int .i64 p2] => F_field_Row_U16 p1 p2 h (fun q19 h' => K (Value.pointer q19) h') | _ => none) else (bif Nat.beq f 75 then (match args with | [.pointer p1, .agg ⟨[.int .i64 p2, .int .i64 p3, .int .i64 p4, .int .i64 p5, .int .i64 p6, .int .u32 p7, .int .u32 p8, .int .u32 p9, .slice p10a p10n p10c, .slice p11a p11n p11c]⟩] => F_record_common p1 p2 p3 p4 p5 p6 p7 p8 p9 ⟨p10a, p10n, p10c⟩ ⟨p11a, p11n, p11c⟩ h (fun h' => K (Value.tuple #[]) h') | _ => none) else (bif Nat.beq f 77 then (match args with | [.pointer p1, .slice p2a p2n p2c] => F_field_Row_Put p1 ⟨p2a, p2n, p2c⟩ h (fun q13 h' => K (Value.pointer q13) h') | _ => none) else (bif Nat.beq f 76 then (match args with | [.pointer p1] => F_record_done p1 h (fun q6 q7 h' => K (Value.tuple #[Value.slice q6.a q6.n q6.c, Value.int .i64 q7]) h') | _ => none) else none)))))
def HF_record_WriteCentral : Hints := ⟨[], [], []⟩
noncomputable def G_record_WriteCentral (F_field_New : GH → (Option Addr → GH → Option β) → Option β) (F_field_Row_U32 : Option Addr → Int → GH → (Option Addr → GH → Option β) → Option β) (F_field_Row_U16 : Option Addr → Int → GH → (Option Addr → GH → Option β) → Option β) (F_record_common : Option Addr → Int → Int → Int → Int → Int → Int → Int → Int → Sl → Sl → GH → (GH → Option β) → Option β) (F_field_Row_Put : Option Addr → Sl → GH → (Option Addr → GH → Option β) → Option β) (F_record_done : Option Addr → GH → (Sl → Int → GH → Option β) → Option β) (R : Nat) (a1 : Int) (a2 : Int) (a3 : Int) (a4 : Int) (a5 : Int) (a6 : Int) (a7 : Int) (a8 : Int) (a9 : Sl) (a10 : Sl) (a11 : Int) (a12 : Int) (a13 : Int) (a14 : Int) (a15 : Int) (a16 : Sl) (h : GH) (K : Sl → Int → GH → Option β) : Option β := gfun Try.prog (CF_record_WriteCentral F_field_New F_field_Row_U32 F_field_Row_U16 F_record_common F_field_Row_Put F_record_done) HF_record_WriteCentral R Try.f46 [Value.agg #[Value.int .i64 a1, Value.int .i64 a2, Value.int .i64 a3, Value.int .i64 a4, Value.int .i64 a5, Value.int .u32 a6, Value.int .u32 a7, Value.int .u32 a8, Value.slice a9.a a9.n a9.c, Value.slice a10.a a10.n a10.c, Value.int .i64 a11, Value.int .i64 a12, Value.int .i64 a13, Value.int .u32 a14, Value.int .u32 a15, Value.slice a16.a a16.n a16.c]] h (fun v h' => exTup 2 v fun vs => exV (nth vs 0) fun v0 => exS (some v0) fun u66 => exV (nth vs 1) fun v1 => exI .i64 (some v1) fun u67 => K u66 u67 h')
set_option maxRecDepth 100000 in
theorem F_record_WriteCentral_gen (F_field_New : GH → (Option Addr → GH → Option β) → Option β) (F_field_Row_U32 : Option Addr → Int → GH → (Option Addr → GH → Option β) → Option β) (F_field_Row_U16 : Option Addr → Int → GH → (Option Addr → GH → Option β) → Option β) (F_record_common : Option Addr → Int → Int → Int → Int → Int → Int → Int → Int → Sl → Sl → GH → (GH → Option β) → Option β) (F_field_Row_Put : Option Addr → Sl → GH → (Option Addr → GH → Option β) → Option β) (F_record_done : Option Addr → GH → (Sl → Int → GH → Option β) → Option β) (R : Nat) (a1 : Int) (a2 : Int) (a3 : Int) (a4 : Int) (a5 : Int) (a6 : Int) (a7 : Int) (a8 : Int) (a9 : Sl) (a10 : Sl) (a11 : Int) (a12 : Int) (a13 : Int) (a14 : Int) (a15 : Int) (a16 : Sl) (h : GH) (K : Sl → Int → GH → Option β) : G_record_WriteCentral F_field_New F_field_Row_U32 F_field_Row_U16 F_record_common F_field_Row_Put F_record_done R a1 a2 a3 a4 a5 a6 a7 a8 a9 a10 a11 a12 a13 a14 a15 a16 h K =
    gnew [Value.int .i64 a1, Value.int .i64 a2, Value.int .i64 a3, Value.int .i64 a4, Value.int .i64 a5, Value.int .u32 a6, Value.int .u32 a7, Value.int .u32 a8, Value.slice a9.a a9.n a9.c, Value.slice a10.a a10.n a10.c, Value.int .i64 a11, Value.int .i64 a12, Value.int .i64 a13, Value.int .u32 a14, Value.int .u32 a15, Value.slice a16.a a16.n a16.c] 0 h fun g17 h18 => F_field_New h18 fun r19 h20 => F_field_Row_U32 r19 33639248 h20 fun r21 h22 => exI .i64 (h22.cell ⟨g17, 0 + 10, none⟩) fun x23 => F_field_Row_U16 r21 x23 h22 fun r24 h25 => (bif sameAt g17 (0 + 10) 1 h20 h22 then (bif sameAt g17 (0 + 10) 1 h18 h20 then exI .i64 (h25.cell ⟨g17, 0 + 0, none⟩) fun x26 => exI .i64 (h25.cell ⟨g17, 0 + 0 + 1, none⟩) fun x27 => exI .i64 (h25.cell ⟨g17, 0 + 0 + 1 + 1, none⟩) fun x28 => exI .i64 (h25.cell ⟨g17, 0 + 0 + 1 + 1 + 1, none⟩) fun x29 => exI .i64 (h25.cell ⟨g17, 0 + 0 + 1 + 1 + 1 + 1, none⟩) fun x30 => exI .u32 (h25.cell ⟨g17, 0 + 0 + 1 + 1 + 1 + 1 + 1, none⟩) fun x31 => exI .u32 (h25.cell ⟨g17, 0 + 0 + 1 + 1 + 1 + 1 + 1 + 1, none⟩) fun x32 => exI .u32 (h25.cell ⟨g17, 0 + 0 + 1 + 1 + 1 + 1 + 1 + 1 + 1, none⟩) fun x33 => exS (h25.cell ⟨g17, 0 + 0 + 1 + 1 + 1 + 1 + 1 + 1 + 1 + 1, none⟩) fun x34 => exS (h25.cell ⟨g17, 0 + 0 + 1 + 1 + 1 + 1 + 1 + 1 + 1 + 1 + 1, none⟩) fun x35 => F_record_common r24 x26 x27 x28 x29 x30 x31 x32 x33 x34 x35 h25 fun h36 => exS (h36.cell ⟨g17, 0 + 15, none⟩) fun x37 => F_field_Row_U16 r24 ((x37.n : Nat) : Int) h36 fun r38 h39 => exI .i64 (h39.cell ⟨g17, 0 + 11, none⟩) fun x40 => F_field_Row_U16 r38 x40 h39 fun r41 h42 => exI .i64 (h42.cell ⟨g17, 0 + 12, none⟩) fun x43 => F_field_Row_U16 r41 x43 h42 fun r44 h45 => exI .u32 (h45.cell ⟨g17, 0 + 13, none⟩) fun x46 => F_field_Row_U32 r44 x46 h45 fun r47 h48 => exI .u32 (h48.cell ⟨g17, 0 + 14, none⟩) fun x49 => F_field_Row_U32 r47 x49 h48 fun r50 h51 => (bif sameAt g17 (0 + 14) 1 h45 h48 then (bif sameAt g17 (0 + 14) 1 h42 h45 then (bif sameAt g17 (0 + 14) 1 h39 h42 then (bif sameAt g17 (0 + 14) 1 h36 h39 then (bif sameAt g17 (0 + 13) 1 h42 h45 then (bif sameAt g17 (0 + 13) 1 h39 h42 then (bif sameAt g17 (0 + 13) 1 h36 h39 then (bif sameAt g17 (0 + 12) 1 h39 h42 then (bif sameAt g17 (0 + 12) 1 h36 h39 then (bif sameAt g17 (0 + 11) 1 h36 h39 then exS (h51.cell ⟨g17, 0 + 0 + 8, none⟩) fun x52 => F_field_Row_Put r24 x52 h51 fun r53 h54 => exS (h54.cell ⟨g17, 0 + 0 + 9, none⟩) fun x55 => F_field_Row_Put r53 x55 h54 fun r56 h57 => exS (h57.cell ⟨g17, 0 + 15, none⟩) fun x58 => F_field_Row_Put r56 x58 h57 fun r59 h60 => F_record_done r59 h60 fun r61 r62 h63 => (bif sameAt g17 (0 + 15) 1 h54 h57 then (bif sameAt g17 (0 + 15) 1 h51 h54 then (bif sameAt g17 (0 + 0 + 9) 1 h51 h54 then K r61 r62 h63 else none) else none) else none) else none) else none) else none) else none) else none) else none) else none) else none) else none) else none) else none) else none) := by kernel_rfl
noncomputable def F_record_WriteCentral (R : Nat) (a1 : Int) (a2 : Int) (a3 : Int) (a4 : Int) (a5 : Int) (a6 : Int) (a7 : Int) (a8 : Int) (a9 : Sl) (a10 : Sl) (a11 : Int) (a12 : Int) (a13 : Int) (a14 : Int) (a15 : Int) (a16 : Sl) (h : GH) (K : Sl → Int → GH → Option β) : Option β := G_record_WriteCentral (F_field_New R) (F_field_Row_U32 R) (F_field_Row_U16 R) (F_record_common R) (F_field_Row_Put R) (F_record_done R) R a1 a2 a3 a4 a5 a6 a7 a8 a9 a10 a11 a12 a13 a14 a15 a16 h K
set_option maxRecDepth 100000 in
theorem CF_record_WriteCentral_sim {R : Nat} : SimOrc Try.prog (CF_record_WriteCentral (F_field_New R) (F_field_Row_U32 R) (F_field_Row_U16 R) (F_record_common R) (F_field_Row_Put R) (F_record_done R) (β := β)) := by
  intro f args h K r hc
  unfold CF_record_WriteCentral at hc
  cases hb : Nat.beq f 73 with
  | true =>
    rw [hb] at hc
    simp only [cond_true] at hc
    obtain rfl := Nat.eq_of_beq_eq_true hb
    split at hc
    · exact any_call (F_field_New_sim (K := K) hc)
    · cases hc
  | false =>
  rw [hb] at hc
  simp only [cond_false] at hc
  cases hb : Nat.beq f 74 with
  | true =>
    rw [hb] at hc
    simp only [cond_true] at hc
    obtain rfl := Nat.eq_of_beq_eq_true hb
    split at hc
    · exact any_call (F_field_Row_U32_sim (K := K) hc)
    · cases hc
  | false =>
  rw [hb] at hc
  simp only [cond_false] at hc
  cases hb : Nat.beq f 78 with
  | true =>
    rw [hb] at hc
    simp only [cond_true] at hc
    obtain rfl := Nat.eq_of_beq_eq_true hb
    split at hc
    · exact any_call (F_field_Row_U16_sim (K := K) hc)
    · cases hc
  | false =>
  rw [hb] at hc
  simp only [cond_false] at hc
  cases hb : Nat.beq f 75 with
  | true =>
    rw [hb] at hc
    simp only [cond_true] at hc
    obtain rfl := Nat.eq_of_beq_eq_true hb
    split at hc
    · exact any_call (F_record_common_sim (K := K) hc)
    · cases hc
  | false =>
  rw [hb] at hc
  simp only [cond_false] at hc
  cases hb : Nat.beq f 77 with
  | true =>
    rw [hb] at hc
    simp only [cond_true] at hc
    obtain rfl := Nat.eq_of_beq_eq_true hb
    split at hc
    · exact any_call (F_field_Row_Put_sim (K := K) hc)
    · cases hc
  | false =>
  rw [hb] at hc
  simp only [cond_false] at hc
  cases hb : Nat.beq f 76 with
  | true =>
    rw [hb] at hc
    simp only [cond_true] at hc
    obtain rfl := Nat.eq_of_beq_eq_true hb
    split at hc
    · exact any_call (F_record_done_sim (K := K) hc)
    · cases hc
  | false =>
  rw [hb] at hc
  simp only [cond_false] at hc
  cases hc
set_option maxRecDepth 100000 in
theorem F_record_WriteCentral_sim {R : Nat} {r : β} {a1 : Int} {a2 : Int} {a3 : Int} {a4 : Int} {a5 : Int} {a6 : Int} {a7 : Int} {a8 : Int} {a9 : Sl} {a10 : Sl} {a11 : Int} {a12 : Int} {a13 : Int} {a14 : Int} {a15 : Int} {a16 : Sl} {h : GH} {K : Value → GH → Option β} (hc : F_record_WriteCentral R a1 a2 a3 a4 a5 a6 a7 a8 a9 a10 a11 a12 a13 a14 a15 a16 h (fun q0 q1 h' => K (Value.tuple #[Value.slice q0.a q0.n q0.c, Value.int .i64 q1]) h') = some r) : ∃ v h', K v h' = some r ∧ CallSim Try.prog 46 [Value.agg #[Value.int .i64 a1, Value.int .i64 a2, Value.int .i64 a3, Value.int .i64 a4, Value.int .i64 a5, Value.int .u32 a6, Value.int .u32 a7, Value.int .u32 a8, Value.slice a9.a a9.n a9.c, Value.slice a10.a a10.n a10.c, Value.int .i64 a11, Value.int .i64 a12, Value.int .i64 a13, Value.int .u32 a14, Value.int .u32 a15, Value.slice a16.a a16.n a16.c]] h v h' := by
  unfold F_record_WriteCentral G_record_WriteCentral at hc
  obtain ⟨v, h', hk, hs⟩ := gfun_sim (CF_record_WriteCentral_sim (R := R)) mixed_ok (fun f h => by cases h) Try.func46 (by kernel_rfl) hc
  obtain ⟨vs, rfl, hl, hk⟩ := exTup_v hk
  obtain ⟨v0, t0, hk⟩ := exV_v hk
  obtain ⟨u0, e0, hk⟩ := exS_v hk; cases e0
  obtain ⟨v1, t1, hk⟩ := exV_v hk
  obtain ⟨u1, e1, hk⟩ := exI_v hk; cases e1
  obtain rfl := arr2 hl t0 t1
  exact ⟨_, h', hk, hs⟩
/-! F47 duffel/record.WriteEnd -/
def CF_record_WriteEnd (F_field_New : GH → (Option Addr → GH → Option β) → Option β) (F_field_Row_U32 : Option Addr → Int → GH → (Option Addr → GH → Option β) → Option β) (F_field_Row_U16 : Option Addr → Int → GH → (Option Addr → GH → Option β) → Option β) (F_field_Row_Put : Option Addr → Sl → GH → (Option Addr → GH → Option β) → Option β) (F_record_done : Option Addr → GH → (Sl → Int → GH → Option β) → Option β) : Orc β := fun f args h K => bif Nat.beq f 73 then (match args with | [] => F_field_New  h (fun q3 h' => K (Value.pointer q3) h') | _ => none) else (bif Nat.beq f 74 then (match args with | [.pointer p1, .int .u32 p2] => F_field_Row_U32 p1 p2 h (fun q5 h' => K (Value.pointer q5) h') | _ => none) else (bif Nat.beq f 78 then (match args with | [.pointer p1, .int .i64 p2] => F_field_Row_U16 p1 p2 h (fun q19 h' => K (Value.pointer q19) h') | _ => none) else (bif Nat.beq f 77 then (match args with | [.pointer p1, .slice p2a p2n p2c] => F_field_Row_Put p1 ⟨p2a, p2n, p2c⟩ h (fun q13 h' => K (Value.pointer q13) h') | _ => none) else (bif Nat.beq f 76 then (match args with | [.pointer p1] => F_record_done p1 h (fun q6 q7 h' => K (Value.tuple #[Value.slice q6.a q6.n q6.c, Value.int .i64 q7]) h') | _ => none) else none))))
def HF_record_WriteEnd : Hints := ⟨[], [], []⟩
noncomputable def G_record_WriteEnd (F_field_New : GH → (Option Addr → GH → Option β) → Option β) (F_field_Row_U32 : Option Addr → Int → GH → (Option Addr → GH → Option β) → Option β) (F_field_Row_U16 : Option Addr → Int → GH → (Option Addr → GH → Option β) → Option β) (F_field_Row_Put : Option Addr → Sl → GH → (Option Addr → GH → Option β) → Option β) (F_record_done : Option Addr → GH → (Sl → Int → GH → Option β) → Option β) (R : Nat) (a1 : Int) (a2 : Int) (a3 : Int) (a4 : Int) (a5 : Int) (a6 : Int) (a7 : Sl) (h : GH) (K : Sl → Int → GH → Option β) : Option β := gfun Try.prog (CF_record_WriteEnd F_field_New F_field_Row_U32 F_field_Row_U16 F_field_Row_Put F_record_done) HF_record_WriteEnd R Try.f47 [Value.agg #[Value.int .i64 a1, Value.int .i64 a2, Value.int .i64 a3, Value.int .i64 a4, Value.int .u32 a5, Value.int .u32 a6, Value.slice a7.a a7.n a7.c]] h (fun v h' => exTup 2 v fun vs => exV (nth vs 0) fun v0 => exS (some v0) fun u43 => exV (nth vs 1) fun v1 => exI .i64 (some v1) fun u44 => K u43 u44 h')
set_option maxRecDepth 100000 in
theorem F_record_WriteEnd_gen (F_field_New : GH → (Option Addr → GH → Option β) → Option β) (F_field_Row_U32 : Option Addr → Int → GH → (Option Addr → GH → Option β) → Option β) (F_field_Row_U16 : Option Addr → Int → GH → (Option Addr → GH → Option β) → Option β) (F_field_Row_Put : Option Addr → Sl → GH → (Option Addr → GH → Option β) → Option β) (F_record_done : Option Addr → GH → (Sl → Int → GH → Option β) → Option β) (R : Nat) (a1 : Int) (a2 : Int) (a3 : Int) (a4 : Int) (a5 : Int) (a6 : Int) (a7 : Sl) (h : GH) (K : Sl → Int → GH → Option β) : G_record_WriteEnd F_field_New F_field_Row_U32 F_field_Row_U16 F_field_Row_Put F_record_done R a1 a2 a3 a4 a5 a6 a7 h K =
    gnew [Value.int .i64 a1, Value.int .i64 a2, Value.int .i64 a3, Value.int .i64 a4, Value.int .u32 a5, Value.int .u32 a6, Value.slice a7.a a7.n a7.c] 0 h fun g8 h9 => F_field_New h9 fun r10 h11 => F_field_Row_U32 r10 101010256 h11 fun r12 h13 => exI .i64 (h13.cell ⟨g8, 0 + 0, none⟩) fun x14 => F_field_Row_U16 r12 x14 h13 fun r15 h16 => exI .i64 (h16.cell ⟨g8, 0 + 1, none⟩) fun x17 => F_field_Row_U16 r15 x17 h16 fun r18 h19 => exI .i64 (h19.cell ⟨g8, 0 + 2, none⟩) fun x20 => F_field_Row_U16 r18 x20 h19 fun r21 h22 => exI .i64 (h22.cell ⟨g8, 0 + 3, none⟩) fun x23 => F_field_Row_U16 r21 x23 h22 fun r24 h25 => (bif sameAt g8 (0 + 3) 1 h19 h22 then (bif sameAt g8 (0 + 3) 1 h16 h19 then (bif sameAt g8 (0 + 3) 1 h13 h16 then (bif sameAt g8 (0 + 3) 1 h11 h13 then (bif sameAt g8 (0 + 3) 1 h9 h11 then (bif sameAt g8 (0 + 2) 1 h16 h19 then (bif sameAt g8 (0 + 2) 1 h13 h16 then (bif sameAt g8 (0 + 2) 1 h11 h13 then (bif sameAt g8 (0 + 2) 1 h9 h11 then (bif sameAt g8 (0 + 1) 1 h13 h16 then (bif sameAt g8 (0 + 1) 1 h11 h13 then (bif sameAt g8 (0 + 1) 1 h9 h11 then (bif sameAt g8 (0 + 0) 1 h11 h13 then (bif sameAt g8 (0 + 0) 1 h9 h11 then exI .u32 (h25.cell ⟨g8, 0 + 4, none⟩) fun x26 => F_field_Row_U32 r24 x26 h25 fun r27 h28 => exI .u32 (h28.cell ⟨g8, 0 + 5, none⟩) fun x29 => F_field_Row_U32 r27 x29 h28 fun r30 h31 => exS (h31.cell ⟨g8, 0 + 6, none⟩) fun x32 => F_field_Row_U16 r30 ((x32.n : Nat) : Int) h31 fun r33 h34 => exS (h34.cell ⟨g8, 0 + 6, none⟩) fun x35 => F_field_Row_Put r33 x35 h34 fun r36 h37 => F_record_done r36 h37 fun r38 r39 h40 => (bif sameAt g8 (0 + 6) 1 h31 h34 then (bif sameAt g8 (0 + 6) 1 h28 h31 then (bif sameAt g8 (0 + 6) 1 h25 h28 then (bif sameAt g8 (0 + 6) 1 h28 h31 then (bif sameAt g8 (0 + 6) 1 h25 h28 then (bif sameAt g8 (0 + 5) 1 h25 h28 then K r38 r39 h40 else none) else none) else none) else none) else none) else none) else none) else none) else none) else none) else none) else none) else none) else none) else none) else none) else none) else none) else none) else none) := by kernel_rfl
noncomputable def F_record_WriteEnd (R : Nat) (a1 : Int) (a2 : Int) (a3 : Int) (a4 : Int) (a5 : Int) (a6 : Int) (a7 : Sl) (h : GH) (K : Sl → Int → GH → Option β) : Option β := G_record_WriteEnd (F_field_New R) (F_field_Row_U32 R) (F_field_Row_U16 R) (F_field_Row_Put R) (F_record_done R) R a1 a2 a3 a4 a5 a6 a7 h K
set_option maxRecDepth 100000 in
theorem CF_record_WriteEnd_sim {R : Nat} : SimOrc Try.prog (CF_record_WriteEnd (F_field_New R) (F_field_Row_U32 R) (F_field_Row_U16 R) (F_field_Row_Put R) (F_record_done R) (β := β)) := by
  intro f args h K r hc
  unfold CF_record_WriteEnd at hc
  cases hb : Nat.beq f 73 with
  | true =>
    rw [hb] at hc
    simp only [cond_true] at hc
    obtain rfl := Nat.eq_of_beq_eq_true hb
    split at hc
    · exact any_call (F_field_New_sim (K := K) hc)
    · cases hc
  | false =>
  rw [hb] at hc
  simp only [cond_false] at hc
  cases hb : Nat.beq f 74 with
  | true =>
    rw [hb] at hc
    simp only [cond_true] at hc
    obtain rfl := Nat.eq_of_beq_eq_true hb
    split at hc
    · exact any_call (F_field_Row_U32_sim (K := K) hc)
    · cases hc
  | false =>
  rw [hb] at hc
  simp only [cond_false] at hc
  cases hb : Nat.beq f 78 with
  | true =>
    rw [hb] at hc
    simp only [cond_true] at hc
    obtain rfl := Nat.eq_of_beq_eq_true hb
    split at hc
    · exact any_call (F_field_Row_U16_sim (K := K) hc)
    · cases hc
  | false =>
  rw [hb] at hc
  simp only [cond_false] at hc
  cases hb : Nat.beq f 77 with
  | true =>
    rw [hb] at hc
    simp only [cond_true] at hc
    obtain rfl := Nat.eq_of_beq_eq_true hb
    split at hc
    · exact any_call (F_field_Row_Put_sim (K := K) hc)
    · cases hc
  | false =>
  rw [hb] at hc
  simp only [cond_false] at hc
  cases hb : Nat.beq f 76 with
  | true =>
    rw [hb] at hc
    simp only [cond_true] at hc
    obtain rfl := Nat.eq_of_beq_eq_true hb
    split at hc
    · exact any_call (F_record_done_sim (K := K) hc)
    · cases hc
  | false =>
  rw [hb] at hc
  simp only [cond_false] at hc
  cases hc
set_option maxRecDepth 100000 in
theorem F_record_WriteEnd_sim {R : Nat} {r : β} {a1 : Int} {a2 : Int} {a3 : Int} {a4 : Int} {a5 : Int} {a6 : Int} {a7 : Sl} {h : GH} {K : Value → GH → Option β} (hc : F_record_WriteEnd R a1 a2 a3 a4 a5 a6 a7 h (fun q0 q1 h' => K (Value.tuple #[Value.slice q0.a q0.n q0.c, Value.int .i64 q1]) h') = some r) : ∃ v h', K v h' = some r ∧ CallSim Try.prog 47 [Value.agg #[Value.int .i64 a1, Value.int .i64 a2, Value.int .i64 a3, Value.int .i64 a4, Value.int .u32 a5, Value.int .u32 a6, Value.slice a7.a a7.n a7.c]] h v h' := by
  unfold F_record_WriteEnd G_record_WriteEnd at hc
  obtain ⟨v, h', hk, hs⟩ := gfun_sim (CF_record_WriteEnd_sim (R := R)) mixed_ok (fun f h => by cases h) Try.func47 (by kernel_rfl) hc
  obtain ⟨vs, rfl, hl, hk⟩ := exTup_v hk
  obtain ⟨v0, t0, hk⟩ := exV_v hk
  obtain ⟨u0, e0, hk⟩ := exS_v hk; cases e0
  obtain ⟨v1, t1, hk⟩ := exV_v hk
  obtain ⟨u1, e1, hk⟩ := exI_v hk; cases e1
  obtain rfl := arr2 hl t0 t1
  exact ⟨_, h', hk, hs⟩
/-! F52 duffel/field.Find -/
def CF_field_Find  : Orc β := fun f args h K => none
def HF_field_Find : Hints := ⟨[(2, [0, 1, 7], [(0, [])], some [(6, .ty 3)])], [], []⟩
noncomputable def BF_field_Find : Code := match Try.f52.body with | some c => c | none => .skip
noncomputable def F_field_Find_l0  (R : Nat) (n : Nat) (y4 : Sl) (y5 : Int) (y6 : Int) (h : GH) (K0 : GH → Option β) (Kr : Int → GH → Option β) : Option β := gloop (gcode Try.prog (CF_field_Find ) Try.f52.ntmps HF_field_Find R (at_ [true, false, true, false, false] BF_field_Find)) [0, 1, 7] n [(0, Value.slice y4.a y4.n y4.c), (1, Value.int .u32 y5), (7, Value.int .i64 y6)] h (fun i e' h' => bif Nat.beq i 0 then (K0 h') else none) (fun e' h' => exI .i64 (some (e'.get 6)) fun u26 => Kr u26 h')
set_option maxRecDepth 100000 in
theorem F_field_Find_l0_succ  (R : Nat) (n : Nat) (y4 : Sl) (y5 : Int) (y6 : Int) (h : GH) (K0 : GH → Option β) (Kr : Int → GH → Option β) : F_field_Find_l0  R (n + 1) y4 y5 y6 h K0 Kr =
    (bif decide (y6 ≥ 0) then bnd (IntKind.wrap .i64 (y6 + 4)) y4.c fun m8 => bnd y6 m8 fun m9 => exA (addO y4.a (m9 * 1)) fun g10 o11 => within 0 (m8 - m9) (exI .u8 (h.cell ⟨g10, o11 + (0 : Int).toNat * 1, none⟩) fun x12 => exA (addO y4.a (m9 * 1)) fun g13 o14 => within 1 (m8 - m9) (exI .u8 (h.cell ⟨g13, o14 + (1 : Int).toNat * 1, none⟩) fun x15 => exA (addO y4.a (m9 * 1)) fun g16 o17 => within 2 (m8 - m9) (exI .u8 (h.cell ⟨g16, o17 + (2 : Int).toNat * 1, none⟩) fun x18 => exA (addO y4.a (m9 * 1)) fun g19 o20 => within 3 (m8 - m9) (exI .u8 (h.cell ⟨g19, o20 + (3 : Int).toNat * 1, none⟩) fun x21 => (bif (IntKind.wrap .u32 (BitVec.ofInt (IntKind.bits .u32) (IntKind.wrap .u32 (BitVec.ofInt (IntKind.bits .u32) (IntKind.wrap .u32 (BitVec.ofInt (IntKind.bits .u32) (IntKind.wrap .u32 x12) ||| BitVec.ofInt (IntKind.bits .u32) (shlI .u32 (IntKind.wrap .u32 x15) 8)).toNat) ||| BitVec.ofInt (IntKind.bits .u32) (shlI .u32 (IntKind.wrap .u32 x18) 16)).toNat) ||| BitVec.ofInt (IntKind.bits .u32) (shlI .u32 (IntKind.wrap .u32 x21) 24)).toNat) == y5 then Kr y6 h else F_field_Find_l0 R n y4 y5 (IntKind.wrap .i64 (y6 - 1)) h K0 Kr))))) else K0 h) := by kernel_rfl
noncomputable def G_field_Find  (R : Nat) (a1 : Sl) (a2 : Int) (a3 : Int) (h : GH) (K : Int → GH → Option β) : Option β := gfun Try.prog (CF_field_Find ) HF_field_Find R Try.f52 [Value.slice a1.a a1.n a1.c, Value.int .u32 a2, Value.int .i64 a3] h (fun v h' => exI .i64 (some v) fun u27 => K u27 h')
set_option maxRecDepth 100000 in
theorem F_field_Find_gen  (R : Nat) (a1 : Sl) (a2 : Int) (a3 : Int) (h : GH) (K : Int → GH → Option β) : G_field_Find  R a1 a2 a3 h K =
    F_field_Find_l0 R R a1 a2 (if (IntKind.wrap .i64 (((a1.n : Nat) : Int) - 4)) < a3 then IntKind.wrap .i64 (((a1.n : Nat) : Int) - 4) else a3) h (fun h22 => K (-1) h22) (fun w23 h24 => K w23 h24) := by kernel_rfl
noncomputable def F_field_Find (R : Nat) (a1 : Sl) (a2 : Int) (a3 : Int) (h : GH) (K : Int → GH → Option β) : Option β := G_field_Find  R a1 a2 a3 h K
theorem CF_field_Find_sim : SimOrc Try.prog (CF_field_Find (β := β)) := by
  intro f args h K r hc
  cases hc
set_option maxRecDepth 100000 in
theorem F_field_Find_sim {R : Nat} {r : β} {a1 : Sl} {a2 : Int} {a3 : Int} {h : GH} {K : Value → GH → Option β} (hc : F_field_Find R a1 a2 a3 h (fun q0 h' => K (Value.int .i64 q0) h') = some r) : ∃ v h', K v h' = some r ∧ CallSim Try.prog 52 [Value.slice a1.a a1.n a1.c, Value.int .u32 a2, Value.int .i64 a3] h v h' := by
  unfold F_field_Find G_field_Find at hc
  obtain ⟨v, h', hk, hs⟩ := gfun_sim CF_field_Find_sim mixed_ok (fun f h => by cases h) Try.func52 (by kernel_rfl) hc
  obtain ⟨u0, e0, hk⟩ := exI_v hk; cases e0
  exact ⟨_, h', hk, hs⟩
/-! F24 duffel/record.FindEnd -/
def CF_record_FindEnd (F_field_Find : Sl → Int → Int → GH → (Int → GH → Option β) → Option β) : Orc β := fun f args h K => bif Nat.beq f 52 then (match args with | [.slice p1a p1n p1c, .int .u32 p2, .int .i64 p3] => F_field_Find ⟨p1a, p1n, p1c⟩ p2 p3 h (fun q25 h' => K (Value.int .i64 q25) h') | _ => none) else none
def HF_record_FindEnd : Hints := ⟨[(3, [0, 3], [], some [(2, .ty 3)])], [], []⟩
noncomputable def BF_record_FindEnd : Code := match Try.f24.body with | some c => c | none => .skip
noncomputable def F_record_FindEnd_l0 (F_field_Find : Sl → Int → Int → GH → (Int → GH → Option β) → Option β) (R : Nat) (n : Nat) (y2 : Sl) (y3 : Int) (h : GH) (Kr : Int → GH → Option β) : Option β := gloop (gcode Try.prog (CF_record_FindEnd F_field_Find) Try.f24.ntmps HF_record_FindEnd R (at_ [true, true, false, false] BF_record_FindEnd)) [0, 3] n [(0, Value.slice y2.a y2.n y2.c), (3, Value.int .i64 y3)] h (fun i e' h' => none) (fun e' h' => exI .i64 (some (e'.get 2)) fun u16 => Kr u16 h')
set_option maxRecDepth 100000 in
theorem F_record_FindEnd_l0_succ (F_field_Find : Sl → Int → Int → GH → (Int → GH → Option β) → Option β) (R : Nat) (n : Nat) (y2 : Sl) (y3 : Int) (h : GH) (Kr : Int → GH → Option β) : F_record_FindEnd_l0 F_field_Find R (n + 1) y2 y3 h Kr =
    F_field_Find y2 101010256 y3 h fun r5 h6 => (bif decide (r5 < 0) then Kr (-1) h6 else exA y2.a fun g7 o8 => within (IntKind.wrap .i64 ((IntKind.wrap .i64 (r5 + 22)) - 2)) y2.n (exI .u8 (h6.cell ⟨g7, o8 + (IntKind.wrap .i64 ((IntKind.wrap .i64 (r5 + 22)) - 2)).toNat * 1, none⟩) fun x9 => exA y2.a fun g10 o11 => within (IntKind.wrap .i64 ((IntKind.wrap .i64 (r5 + 22)) - 1)) y2.n (exI .u8 (h6.cell ⟨g10, o11 + (IntKind.wrap .i64 ((IntKind.wrap .i64 (r5 + 22)) - 1)).toNat * 1, none⟩) fun x12 => (bif (IntKind.wrap .i64 (BitVec.ofInt (IntKind.bits .i64) (IntKind.wrap .i64 x9) ||| BitVec.ofInt (IntKind.bits .i64) (shlI .i64 (IntKind.wrap .i64 x12) 8)).toNat) == (IntKind.wrap .i64 ((IntKind.wrap .i64 (((y2.n : Nat) : Int) - r5)) - 22)) then Kr r5 h6 else F_record_FindEnd_l0 F_field_Find R n y2 (IntKind.wrap .i64 (r5 - 1)) h6 Kr)))) := by kernel_rfl
noncomputable def G_record_FindEnd (F_field_Find : Sl → Int → Int → GH → (Int → GH → Option β) → Option β) (R : Nat) (a1 : Sl) (h : GH) (K : Int → GH → Option β) : Option β := gfun Try.prog (CF_record_FindEnd F_field_Find) HF_record_FindEnd R Try.f24 [Value.slice a1.a a1.n a1.c] h (fun v h' => exI .i64 (some v) fun u17 => K u17 h')
set_option maxRecDepth 100000 in
theorem F_record_FindEnd_gen (F_field_Find : Sl → Int → Int → GH → (Int → GH → Option β) → Option β) (R : Nat) (a1 : Sl) (h : GH) (K : Int → GH → Option β) : G_record_FindEnd F_field_Find R a1 h K =
    F_record_FindEnd_l0 F_field_Find R R a1 (IntKind.wrap .i64 (((a1.n : Nat) : Int) - 22)) h (fun w13 h14 => K w13 h14) := by kernel_rfl
noncomputable def F_record_FindEnd (R : Nat) (a1 : Sl) (h : GH) (K : Int → GH → Option β) : Option β := G_record_FindEnd (F_field_Find R) R a1 h K
set_option maxRecDepth 100000 in
theorem CF_record_FindEnd_sim {R : Nat} : SimOrc Try.prog (CF_record_FindEnd (F_field_Find R) (β := β)) := by
  intro f args h K r hc
  unfold CF_record_FindEnd at hc
  cases hb : Nat.beq f 52 with
  | true =>
    rw [hb] at hc
    simp only [cond_true] at hc
    obtain rfl := Nat.eq_of_beq_eq_true hb
    split at hc
    · exact any_call (F_field_Find_sim (K := K) hc)
    · cases hc
  | false =>
  rw [hb] at hc
  simp only [cond_false] at hc
  cases hc
set_option maxRecDepth 100000 in
theorem F_record_FindEnd_sim {R : Nat} {r : β} {a1 : Sl} {h : GH} {K : Value → GH → Option β} (hc : F_record_FindEnd R a1 h (fun q0 h' => K (Value.int .i64 q0) h') = some r) : ∃ v h', K v h' = some r ∧ CallSim Try.prog 24 [Value.slice a1.a a1.n a1.c] h v h' := by
  unfold F_record_FindEnd G_record_FindEnd at hc
  obtain ⟨v, h', hk, hs⟩ := gfun_sim (CF_record_FindEnd_sim (R := R)) mixed_ok (fun f h => by cases h) Try.func24 (by kernel_rfl) hc
  obtain ⟨u0, e0, hk⟩ := exI_v hk; cases e0
  exact ⟨_, h', hk, hs⟩
/-! F20 duffel/denote.Join -/
def CF_denote_Join (F_record_WriteLocal : Int → Int → Int → Int → Int → Int → Int → Int → Sl → Sl → GH → (Sl → Int → GH → Option β) → Option β) (F_record_WriteCentral : Int → Int → Int → Int → Int → Int → Int → Int → Sl → Sl → Int → Int → Int → Int → Int → Sl → GH → (Sl → Int → GH → Option β) → Option β) (F_record_WriteEnd : Int → Int → Int → Int → Int → Int → Sl → GH → (Sl → Int → GH → Option β) → Option β) (F_record_FindEnd : Sl → GH → (Int → GH → Option β) → Option β) : Orc β := fun f args h K => bif Nat.beq f 45 then (match args with | [.agg ⟨[.int .i64 p1, .int .i64 p2, .int .i64 p3, .int .i64 p4, .int .i64 p5, .int .u32 p6, .int .u32 p7, .int .u32 p8, .slice p9a p9n p9c, .slice p10a p10n p10c]⟩] => F_record_WriteLocal p1 p2 p3 p4 p5 p6 p7 p8 ⟨p9a, p9n, p9c⟩ ⟨p10a, p10n, p10c⟩ h (fun q37 q38 h' => K (Value.tuple #[Value.slice q37.a q37.n q37.c, Value.int .i64 q38]) h') | _ => none) else (bif Nat.beq f 46 then (match args with | [.agg ⟨[.int .i64 p1, .int .i64 p2, .int .i64 p3, .int .i64 p4, .int .i64 p5, .int .u32 p6, .int .u32 p7, .int .u32 p8, .slice p9a p9n p9c, .slice p10a p10n p10c, .int .i64 p11, .int .i64 p12, .int .i64 p13, .int .u32 p14, .int .u32 p15, .slice p16a p16n p16c]⟩] => F_record_WriteCentral p1 p2 p3 p4 p5 p6 p7 p8 ⟨p9a, p9n, p9c⟩ ⟨p10a, p10n, p10c⟩ p11 p12 p13 p14 p15 ⟨p16a, p16n, p16c⟩ h (fun q64 q65 h' => K (Value.tuple #[Value.slice q64.a q64.n q64.c, Value.int .i64 q65]) h') | _ => none) else (bif Nat.beq f 47 then (match args with | [.agg ⟨[.int .i64 p1, .int .i64 p2, .int .i64 p3, .int .i64 p4, .int .u32 p5, .int .u32 p6, .slice p7a p7n p7c]⟩] => F_record_WriteEnd p1 p2 p3 p4 p5 p6 ⟨p7a, p7n, p7c⟩ h (fun q41 q42 h' => K (Value.tuple #[Value.slice q41.a q41.n q41.c, Value.int .i64 q42]) h') | _ => none) else (bif Nat.beq f 24 then (match args with | [.slice p1a p1n p1c] => F_record_FindEnd ⟨p1a, p1n, p1c⟩ h (fun q15 h' => K (Value.int .i64 q15) h') | _ => none) else none)))
def HF_denote_Join : Hints := ⟨[(5, [0, 1, 6, 7, 21, 22, 23], [(0, [(0, .ty 36), (1, .ty 23), (6, .ty 23), (7, .ty 23)])], some [(4, .ty 23), (5, .ty 29)])], [], []⟩
noncomputable def BF_denote_Join : Code := match Try.f20.body with | some c => c | none => .skip
noncomputable def F_denote_Join_l0 (F_record_WriteLocal : Int → Int → Int → Int → Int → Int → Int → Int → Sl → Sl → GH → (Sl → Int → GH → Option β) → Option β) (F_record_WriteCentral : Int → Int → Int → Int → Int → Int → Int → Int → Sl → Sl → Int → Int → Int → Int → Int → Sl → GH → (Sl → Int → GH → Option β) → Option β) (F_record_WriteEnd : Int → Int → Int → Int → Int → Int → Sl → GH → (Sl → Int → GH → Option β) → Option β) (F_record_FindEnd : Sl → GH → (Int → GH → Option β) → Option β) (R : Nat) (n : Nat) (y3 : Sl) (y4 : Sl) (y5 : Sl) (y6 : Sl) (y7 : Sl) (y8 : Int) (y9 : Int) (h : GH) (K0 : Sl → Sl → Sl → Sl → GH → Option β) (Kr : Sl → Int → GH → Option β) : Option β := gloop (gcode Try.prog (CF_denote_Join F_record_WriteLocal F_record_WriteCentral F_record_WriteEnd F_record_FindEnd) Try.f20.ntmps HF_denote_Join R (at_ [true, true, true, false, true, false, false] BF_denote_Join)) [0, 1, 6, 7, 21, 22, 23] n [(0, Value.slice y3.a y3.n y3.c), (1, Value.slice y4.a y4.n y4.c), (6, Value.slice y5.a y5.n y5.c), (7, Value.slice y6.a y6.n y6.c), (21, Value.slice y7.a y7.n y7.c), (22, Value.int .i64 y8), (23, Value.int .i64 y9)] h (fun i e' h' => bif Nat.beq i 0 then (exS (some (e'.get 0)) fun u135 => exS (some (e'.get 1)) fun u136 => exS (some (e'.get 6)) fun u137 => exS (some (e'.get 7)) fun u138 => K0 u135 u136 u137 u138 h') else none) (fun e' h' => exS (some (e'.get 4)) fun u139 => exI .i64 (some (e'.get 5)) fun u140 => Kr u139 u140 h')
set_option maxRecDepth 100000 in
theorem F_denote_Join_l0_succ (F_record_WriteLocal : Int → Int → Int → Int → Int → Int → Int → Int → Sl → Sl → GH → (Sl → Int → GH → Option β) → Option β) (F_record_WriteCentral : Int → Int → Int → Int → Int → Int → Int → Int → Sl → Sl → Int → Int → Int → Int → Int → Sl → GH → (Sl → Int → GH → Option β) → Option β) (F_record_WriteEnd : Int → Int → Int → Int → Int → Int → Sl → GH → (Sl → Int → GH → Option β) → Option β) (F_record_FindEnd : Sl → GH → (Int → GH → Option β) → Option β) (R : Nat) (n : Nat) (y3 : Sl) (y4 : Sl) (y5 : Sl) (y6 : Sl) (y7 : Sl) (y8 : Int) (y9 : Int) (h : GH) (K0 : Sl → Sl → Sl → Sl → GH → Option β) (Kr : Sl → Int → GH → Option β) : F_denote_Join_l0 F_record_WriteLocal F_record_WriteCentral F_record_WriteEnd F_record_FindEnd R (n + 1) y3 y4 y5 y6 y7 y8 y9 h K0 Kr =
    (bif decide (y9 < y8) then exA y7.a fun g16 o17 => within y9 y7.n (exI .i64 (h.cell ⟨g16, o17 + y9.toNat * 18, none⟩) fun x18 => exI .i64 (h.cell ⟨g16, o17 + y9.toNat * 18 + 1, none⟩) fun x19 => exI .i64 (h.cell ⟨g16, o17 + y9.toNat * 18 + 1 + 1, none⟩) fun x20 => exI .i64 (h.cell ⟨g16, o17 + y9.toNat * 18 + 1 + 1 + 1, none⟩) fun x21 => exI .i64 (h.cell ⟨g16, o17 + y9.toNat * 18 + 1 + 1 + 1 + 1, none⟩) fun x22 => exI .u32 (h.cell ⟨g16, o17 + y9.toNat * 18 + 1 + 1 + 1 + 1 + 1, none⟩) fun x23 => exI .u32 (h.cell ⟨g16, o17 + y9.toNat * 18 + 1 + 1 + 1 + 1 + 1 + 1, none⟩) fun x24 => exI .u32 (h.cell ⟨g16, o17 + y9.toNat * 18 + 1 + 1 + 1 + 1 + 1 + 1 + 1, none⟩) fun x25 => exS (h.cell ⟨g16, o17 + y9.toNat * 18 + 1 + 1 + 1 + 1 + 1 + 1 + 1 + 1, none⟩) fun x26 => exS (h.cell ⟨g16, o17 + y9.toNat * 18 + 1 + 1 + 1 + 1 + 1 + 1 + 1 + 1 + 1, none⟩) fun x27 => exI .i64 (h.cell ⟨g16, o17 + y9.toNat * 18 + 1 + 1 + 1 + 1 + 1 + 1 + 1 + 1 + 1 + 1, none⟩) fun x28 => exI .i64 (h.cell ⟨g16, o17 + y9.toNat * 18 + 1 + 1 + 1 + 1 + 1 + 1 + 1 + 1 + 1 + 1 + 1, none⟩) fun x29 => exI .i64 (h.cell ⟨g16, o17 + y9.toNat * 18 + 1 + 1 + 1 + 1 + 1 + 1 + 1 + 1 + 1 + 1 + 1 + 1, none⟩) fun x30 => exI .u32 (h.cell ⟨g16, o17 + y9.toNat * 18 + 1 + 1 + 1 + 1 + 1 + 1 + 1 + 1 + 1 + 1 + 1 + 1 + 1, none⟩) fun x31 => exI .u32 (h.cell ⟨g16, o17 + y9.toNat * 18 + 1 + 1 + 1 + 1 + 1 + 1 + 1 + 1 + 1 + 1 + 1 + 1 + 1 + 1, none⟩) fun x32 => exS (h.cell ⟨g16, o17 + y9.toNat * 18 + 1 + 1 + 1 + 1 + 1 + 1 + 1 + 1 + 1 + 1 + 1 + 1 + 1 + 1 + 1, none⟩) fun x33 => exS (h.cell ⟨g16, o17 + y9.toNat * 18 + 1 + 1 + 1 + 1 + 1 + 1 + 1 + 1 + 1 + 1 + 1 + 1 + 1 + 1 + 1 + 1, none⟩) fun x34 => exS (h.cell ⟨g16, o17 + y9.toNat * 18 + 1 + 1 + 1 + 1 + 1 + 1 + 1 + 1 + 1 + 1 + 1 + 1 + 1 + 1 + 1 + 1 + 1, none⟩) fun x35 => gnew [Value.int .i64 0, Value.int .i64 0, Value.int .i64 0, Value.int .i64 0, Value.int .i64 0, Value.int .u32 0, Value.int .u32 0, Value.int .u32 0, Value.slice none 0 0, Value.slice none 0 0, Value.int .i64 0, Value.int .i64 0, Value.int .i64 0, Value.int .u32 0, Value.int .u32 0, Value.slice none 0 0, Value.slice none 0 0, Value.slice none 0 0] 0 h fun g36 h37 => gput g36 (0) [Value.int .i64 x18, Value.int .i64 x19, Value.int .i64 x20, Value.int .i64 x21, Value.int .i64 x22, Value.int .u32 x23, Value.int .u32 x24, Value.int .u32 x25, Value.slice x26.a x26.n x26.c, Value.slice x27.a x27.n x27.c, Value.int .i64 x28, Value.int .i64 x29, Value.int .i64 x30, Value.int .u32 x31, Value.int .u32 x32, Value.slice x33.a x33.n x33.c, Value.slice x34.a x34.n x34.c, Value.slice x35.a x35.n x35.c] h37 fun h38 => (bif decide (((y5.n : Nat) : Int) ≥ 4294967295) then Kr ⟨none, 0, 0⟩ 18 h38 else exS (h38.cell ⟨g36, 0 + 17, none⟩) fun x39 => (bif decide (((x39.n : Nat) : Int) ≥ 4294967295) then Kr ⟨none, 0, 0⟩ 18 h38 else exI .i64 (h38.cell ⟨g36, 0 + 0, none⟩) fun x40 => exI .i64 (h38.cell ⟨g36, 0 + 0 + 1, none⟩) fun x41 => exI .i64 (h38.cell ⟨g36, 0 + 0 + 1 + 1, none⟩) fun x42 => exI .i64 (h38.cell ⟨g36, 0 + 0 + 1 + 1 + 1, none⟩) fun x43 => exI .i64 (h38.cell ⟨g36, 0 + 0 + 1 + 1 + 1 + 1, none⟩) fun x44 => exI .u32 (h38.cell ⟨g36, 0 + 0 + 1 + 1 + 1 + 1 + 1, none⟩) fun x45 => exI .u32 (h38.cell ⟨g36, 0 + 0 + 1 + 1 + 1 + 1 + 1 + 1, none⟩) fun x46 => exI .u32 (h38.cell ⟨g36, 0 + 0 + 1 + 1 + 1 + 1 + 1 + 1 + 1, none⟩) fun x47 => exS (h38.cell ⟨g36, 0 + 0 + 1 + 1 + 1 + 1 + 1 + 1 + 1 + 1, none⟩) fun x48 => exS (h38.cell ⟨g36, 0 + 0 + 1 + 1 + 1 + 1 + 1 + 1 + 1 + 1 + 1, none⟩) fun x49 => exI .i64 (h38.cell ⟨g36, 0 + 0 + 1 + 1 + 1 + 1 + 1 + 1 + 1 + 1 + 1 + 1, none⟩) fun x50 => exI .i64 (h38.cell ⟨g36, 0 + 0 + 1 + 1 + 1 + 1 + 1 + 1 + 1 + 1 + 1 + 1 + 1, none⟩) fun x51 => exI .i64 (h38.cell ⟨g36, 0 + 0 + 1 + 1 + 1 + 1 + 1 + 1 + 1 + 1 + 1 + 1 + 1 + 1, none⟩) fun x52 => exI .u32 (h38.cell ⟨g36, 0 + 0 + 1 + 1 + 1 + 1 + 1 + 1 + 1 + 1 + 1 + 1 + 1 + 1 + 1, none⟩) fun x53 => exI .u32 (h38.cell ⟨g36, 0 + 0 + 1 + 1 + 1 + 1 + 1 + 1 + 1 + 1 + 1 + 1 + 1 + 1 + 1 + 1, none⟩) fun x54 => exS (h38.cell ⟨g36, 0 + 0 + 1 + 1 + 1 + 1 + 1 + 1 + 1 + 1 + 1 + 1 + 1 + 1 + 1 + 1 + 1, none⟩) fun x55 => gnew [Value.int .i64 0, Value.int .i64 0, Value.int .i64 0, Value.int .i64 0, Value.int .i64 0, Value.int .u32 0, Value.int .u32 0, Value.int .u32 0, Value.slice none 0 0, Value.slice none 0 0, Value.int .i64 0, Value.int .i64 0, Value.int .i64 0, Value.int .u32 0, Value.int .u32 0, Value.slice none 0 0] 0 h38 fun g56 h57 => gput g56 (0) [Value.int .i64 x40, Value.int .i64 x41, Value.int .i64 x42, Value.int .i64 x43, Value.int .i64 x44, Value.int .u32 x45, Value.int .u32 x46, Value.int .u32 x47, Value.slice x48.a x48.n x48.c, Value.slice x49.a x49.n x49.c, Value.int .i64 x50, Value.int .i64 x51, Value.int .i64 x52, Value.int .u32 x53, Value.int .u32 x54, Value.slice x55.a x55.n x55.c] h57 fun h58 => exS (h58.cell ⟨g36, 0 + 17, none⟩) fun x59 => gput g56 (0 + 14) [Value.int .u32 (IntKind.wrap .u32 ((y5.n : Nat) : Int))] h58 fun h60 => gput g56 (0 + 0 + 6) [Value.int .u32 (IntKind.wrap .u32 ((x59.n : Nat) : Int))] h60 fun h61 => (bif sameAt g36 (0 + 17) 1 h58 h60 then exI .i64 (h61.cell ⟨g56, 0 + 0, none⟩) fun x62 => exI .i64 (h61.cell ⟨g56, 0 + 0 + 1, none⟩) fun x63 => exI .i64 (h61.cell ⟨g56, 0 + 0 + 1 + 1, none⟩) fun x64 => exI .i64 (h61.cell ⟨g56, 0 + 0 + 1 + 1 + 1, none⟩) fun x65 => exI .i64 (h61.cell ⟨g56, 0 + 0 + 1 + 1 + 1 + 1, none⟩) fun x66 => exI .u32 (h61.cell ⟨g56, 0 + 0 + 1 + 1 + 1 + 1 + 1, none⟩) fun x67 => exI .u32 (h61.cell ⟨g56, 0 + 0 + 1 + 1 + 1 + 1 + 1 + 1, none⟩) fun x68 => exI .u32 (h61.cell ⟨g56, 0 + 0 + 1 + 1 + 1 + 1 + 1 + 1 + 1, none⟩) fun x69 => exS (h61.cell ⟨g56, 0 + 0 + 1 + 1 + 1 + 1 + 1 + 1 + 1 + 1, none⟩) fun x70 => exS (h61.cell ⟨g56, 0 + 0 + 1 + 1 + 1 + 1 + 1 + 1 + 1 + 1 + 1, none⟩) fun x71 => gnew [Value.int .i64 0, Value.int .i64 0, Value.int .i64 0, Value.int .i64 0, Value.int .i64 0, Value.int .u32 0, Value.int .u32 0, Value.int .u32 0, Value.slice none 0 0, Value.slice none 0 0] 0 h61 fun g72 h73 => gput g72 (0) [Value.int .i64 x62, Value.int .i64 x63, Value.int .i64 x64, Value.int .i64 x65, Value.int .i64 x66, Value.int .u32 x67, Value.int .u32 x68, Value.int .u32 x69, Value.slice x70.a x70.n x70.c, Value.slice x71.a x71.n x71.c] h73 fun h74 => exS (h74.cell ⟨g36, 0 + 16, none⟩) fun x75 => gput g72 (0 + 9) [Value.slice x75.a x75.n x75.c] h74 fun h76 => exI .i64 (h76.cell ⟨g72, 0, none⟩) fun x77 => exI .i64 (h76.cell ⟨g72, 0 + 1, none⟩) fun x78 => exI .i64 (h76.cell ⟨g72, 0 + 1 + 1, none⟩) fun x79 => exI .i64 (h76.cell ⟨g72, 0 + 1 + 1 + 1, none⟩) fun x80 => exI .i64 (h76.cell ⟨g72, 0 + 1 + 1 + 1 + 1, none⟩) fun x81 => exI .u32 (h76.cell ⟨g72, 0 + 1 + 1 + 1 + 1 + 1, none⟩) fun x82 => exI .u32 (h76.cell ⟨g72, 0 + 1 + 1 + 1 + 1 + 1 + 1, none⟩) fun x83 => exI .u32 (h76.cell ⟨g72, 0 + 1 + 1 + 1 + 1 + 1 + 1 + 1, none⟩) fun x84 => exS (h76.cell ⟨g72, 0 + 1 + 1 + 1 + 1 + 1 + 1 + 1 + 1, none⟩) fun x85 => exS (h76.cell ⟨g72, 0 + 1 + 1 + 1 + 1 + 1 + 1 + 1 + 1 + 1, none⟩) fun x86 => F_record_WriteLocal x77 x78 x79 x80 x81 x82 x83 x84 x85 x86 h76 fun r87 r88 h89 => (bif r88 != 0 then Kr ⟨none, 0, 0⟩ r88 h89 else exI .i64 (h89.cell ⟨g56, 0, none⟩) fun x90 => exI .i64 (h89.cell ⟨g56, 0 + 1, none⟩) fun x91 => exI .i64 (h89.cell ⟨g56, 0 + 1 + 1, none⟩) fun x92 => exI .i64 (h89.cell ⟨g56, 0 + 1 + 1 + 1, none⟩) fun x93 => exI .i64 (h89.cell ⟨g56, 0 + 1 + 1 + 1 + 1, none⟩) fun x94 => exI .u32 (h89.cell ⟨g56, 0 + 1 + 1 + 1 + 1 + 1, none⟩) fun x95 => exI .u32 (h89.cell ⟨g56, 0 + 1 + 1 + 1 + 1 + 1 + 1, none⟩) fun x96 => exI .u32 (h89.cell ⟨g56, 0 + 1 + 1 + 1 + 1 + 1 + 1 + 1, none⟩) fun x97 => exS (h89.cell ⟨g56, 0 + 1 + 1 + 1 + 1 + 1 + 1 + 1 + 1, none⟩) fun x98 => exS (h89.cell ⟨g56, 0 + 1 + 1 + 1 + 1 + 1 + 1 + 1 + 1 + 1, none⟩) fun x99 => exI .i64 (h89.cell ⟨g56, 0 + 1 + 1 + 1 + 1 + 1 + 1 + 1 + 1 + 1 + 1, none⟩) fun x100 => exI .i64 (h89.cell ⟨g56, 0 + 1 + 1 + 1 + 1 + 1 + 1 + 1 + 1 + 1 + 1 + 1, none⟩) fun x101 => exI .i64 (h89.cell ⟨g56, 0 + 1 + 1 + 1 + 1 + 1 + 1 + 1 + 1 + 1 + 1 + 1 + 1, none⟩) fun x102 => exI .u32 (h89.cell ⟨g56, 0 + 1 + 1 + 1 + 1 + 1 + 1 + 1 + 1 + 1 + 1 + 1 + 1 + 1, none⟩) fun x103 => exI .u32 (h89.cell ⟨g56, 0 + 1 + 1 + 1 + 1 + 1 + 1 + 1 + 1 + 1 + 1 + 1 + 1 + 1 + 1, none⟩) fun x104 => exS (h89.cell ⟨g56, 0 + 1 + 1 + 1 + 1 + 1 + 1 + 1 + 1 + 1 + 1 + 1 + 1 + 1 + 1 + 1, none⟩) fun x105 => F_record_WriteCentral x90 x91 x92 x93 x94 x95 x96 x97 x98 x99 x100 x101 x102 x103 x104 x105 h89 fun r106 r107 h108 => (bif r107 != 0 then Kr ⟨none, 0, 0⟩ r107 h108 else gappS 1 1 y5 r87 h108 fun s109 h110 => exS (h110.cell ⟨g36, 0 + 17, none⟩) fun x111 => gappS 1 1 s109 x111 h110 fun s112 h113 => (bif sameAt g36 (0 + 17) 1 h108 h110 then gappS 1 1 y6 r106 h113 fun s114 h115 => F_denote_Join_l0 F_record_WriteLocal F_record_WriteCentral F_record_WriteEnd F_record_FindEnd R n y3 y4 s112 s114 y7 y8 (IntKind.wrap .i64 (y9 + 1)) h115 K0 Kr else none))) else none)))) else K0 y3 y4 y5 y6 h) := by kernel_rfl
noncomputable def G_denote_Join (F_record_WriteLocal : Int → Int → Int → Int → Int → Int → Int → Int → Sl → Sl → GH → (Sl → Int → GH → Option β) → Option β) (F_record_WriteCentral : Int → Int → Int → Int → Int → Int → Int → Int → Sl → Sl → Int → Int → Int → Int → Int → Sl → GH → (Sl → Int → GH → Option β) → Option β) (F_record_WriteEnd : Int → Int → Int → Int → Int → Int → Sl → GH → (Sl → Int → GH → Option β) → Option β) (F_record_FindEnd : Sl → GH → (Int → GH → Option β) → Option β) (R : Nat) (a1 : Sl) (a2 : Sl) (h : GH) (K : Sl → Int → GH → Option β) : Option β := gfun Try.prog (CF_denote_Join F_record_WriteLocal F_record_WriteCentral F_record_WriteEnd F_record_FindEnd) HF_denote_Join R Try.f20 [Value.slice a1.a a1.n a1.c, Value.slice a2.a a2.n a2.c] h (fun v h' => exTup 2 v fun vs => exV (nth vs 0) fun v0 => exS (some v0) fun u141 => exV (nth vs 1) fun v1 => exI .i64 (some v1) fun u142 => K u141 u142 h')
set_option maxRecDepth 100000 in
theorem F_denote_Join_gen (F_record_WriteLocal : Int → Int → Int → Int → Int → Int → Int → Int → Sl → Sl → GH → (Sl → Int → GH → Option β) → Option β) (F_record_WriteCentral : Int → Int → Int → Int → Int → Int → Int → Int → Sl → Sl → Int → Int → Int → Int → Int → Sl → GH → (Sl → Int → GH → Option β) → Option β) (F_record_WriteEnd : Int → Int → Int → Int → Int → Int → Sl → GH → (Sl → Int → GH → Option β) → Option β) (F_record_FindEnd : Sl → GH → (Int → GH → Option β) → Option β) (R : Nat) (a1 : Sl) (a2 : Sl) (h : GH) (K : Sl → Int → GH → Option β) : G_denote_Join F_record_WriteLocal F_record_WriteCentral F_record_WriteEnd F_record_FindEnd R a1 a2 h K =
    (bif decide (((a1.n : Nat) : Int) > 65535) then K ⟨none, 0, 0⟩ 18 h else F_denote_Join_l0 F_record_WriteLocal F_record_WriteCentral F_record_WriteEnd F_record_FindEnd R R a1 a2 ⟨none, 0, 0⟩ ⟨none, 0, 0⟩ a1 ((a1.n : Nat) : Int) 0 h (fun w116 w117 w118 w119 h120 => (bif decide (((w118.n : Nat) : Int) ≥ 4294967295) then K ⟨none, 0, 0⟩ 18 h120 else (bif decide (((w119.n : Nat) : Int) ≥ 4294967295) then K ⟨none, 0, 0⟩ 18 h120 else F_record_WriteEnd 0 0 ((w116.n : Nat) : Int) ((w116.n : Nat) : Int) (IntKind.wrap .u32 ((w119.n : Nat) : Int)) (IntKind.wrap .u32 ((w118.n : Nat) : Int)) w117 h120 fun r121 r122 h123 => (bif r122 != 0 then K ⟨none, 0, 0⟩ r122 h123 else gappS 1 1 w118 w119 h123 fun s124 h125 => gappS 1 1 s124 r121 h125 fun s126 h127 => F_record_FindEnd s126 h127 fun r128 h129 => (bif r128 != (IntKind.wrap .i64 (((w118.n : Nat) : Int) + ((w119.n : Nat) : Int))) then K ⟨none, 0, 0⟩ 4 h129 else K s126 0 h129))))) (fun w130 w131 h132 => K w130 w131 h132)) := by kernel_rfl
noncomputable def F_denote_Join (R : Nat) (a1 : Sl) (a2 : Sl) (h : GH) (K : Sl → Int → GH → Option β) : Option β := G_denote_Join (F_record_WriteLocal R) (F_record_WriteCentral R) (F_record_WriteEnd R) (F_record_FindEnd R) R a1 a2 h K
set_option maxRecDepth 100000 in
theorem CF_denote_Join_sim {R : Nat} : SimOrc Try.prog (CF_denote_Join (F_record_WriteLocal R) (F_record_WriteCentral R) (F_record_WriteEnd R) (F_record_FindEnd R) (β := β)) := by
  intro f args h K r hc
  unfold CF_denote_Join at hc
  cases hb : Nat.beq f 45 with
  | true =>
    rw [hb] at hc
    simp only [cond_true] at hc
    obtain rfl := Nat.eq_of_beq_eq_true hb
    split at hc
    · exact any_call (F_record_WriteLocal_sim (K := K) hc)
    · cases hc
  | false =>
  rw [hb] at hc
  simp only [cond_false] at hc
  cases hb : Nat.beq f 46 with
  | true =>
    rw [hb] at hc
    simp only [cond_true] at hc
    obtain rfl := Nat.eq_of_beq_eq_true hb
    split at hc
    · exact any_call (F_record_WriteCentral_sim (K := K) hc)
    · cases hc
  | false =>
  rw [hb] at hc
  simp only [cond_false] at hc
  cases hb : Nat.beq f 47 with
  | true =>
    rw [hb] at hc
    simp only [cond_true] at hc
    obtain rfl := Nat.eq_of_beq_eq_true hb
    split at hc
    · exact any_call (F_record_WriteEnd_sim (K := K) hc)
    · cases hc
  | false =>
  rw [hb] at hc
  simp only [cond_false] at hc
  cases hb : Nat.beq f 24 with
  | true =>
    rw [hb] at hc
    simp only [cond_true] at hc
    obtain rfl := Nat.eq_of_beq_eq_true hb
    split at hc
    · exact any_call (F_record_FindEnd_sim (K := K) hc)
    · cases hc
  | false =>
  rw [hb] at hc
  simp only [cond_false] at hc
  cases hc
set_option maxRecDepth 100000 in
theorem F_denote_Join_sim {R : Nat} {r : β} {a1 : Sl} {a2 : Sl} {h : GH} {K : Value → GH → Option β} (hc : F_denote_Join R a1 a2 h (fun q0 q1 h' => K (Value.tuple #[Value.slice q0.a q0.n q0.c, Value.int .i64 q1]) h') = some r) : ∃ v h', K v h' = some r ∧ CallSim Try.prog 20 [Value.slice a1.a a1.n a1.c, Value.slice a2.a a2.n a2.c] h v h' := by
  unfold F_denote_Join G_denote_Join at hc
  obtain ⟨v, h', hk, hs⟩ := gfun_sim (CF_denote_Join_sim (R := R)) mixed_ok (fun f h => by cases h) Try.func20 (by kernel_rfl) hc
  obtain ⟨vs, rfl, hl, hk⟩ := exTup_v hk
  obtain ⟨v0, t0, hk⟩ := exV_v hk
  obtain ⟨u0, e0, hk⟩ := exS_v hk; cases e0
  obtain ⟨v1, t1, hk⟩ := exV_v hk
  obtain ⟨u1, e1, hk⟩ := exI_v hk; cases e1
  obtain rfl := arr2 hl t0 t1
  exact ⟨_, h', hk, hs⟩
/-! F23 duffel/duffelref01.Within -/
def CF_ref01_Within  : Orc β := fun f args h K => none
def HF_ref01_Within : Hints := ⟨[], [], []⟩
noncomputable def G_ref01_Within  (R : Nat) (a1 : Int) (a2 : Int) (a3 : Int) (h : GH) (K : Int → GH → Option β) : Option β := gfun Try.prog (CF_ref01_Within ) HF_ref01_Within R Try.f23 [Value.int .i64 a1, Value.int .i64 a2, Value.int .i64 a3] h (fun v h' => exI .i64 (some v) fun u5 => K u5 h')
set_option maxRecDepth 100000 in
theorem F_ref01_Within_gen  (R : Nat) (a1 : Int) (a2 : Int) (a3 : Int) (h : GH) (K : Int → GH → Option β) : G_ref01_Within  R a1 a2 a3 h K =
    (bif decide (a1 < a2) then K a2 h else (bif decide (a1 > a3) then K a3 h else K a1 h)) := by kernel_rfl
noncomputable def F_ref01_Within (R : Nat) (a1 : Int) (a2 : Int) (a3 : Int) (h : GH) (K : Int → GH → Option β) : Option β := G_ref01_Within  R a1 a2 a3 h K
theorem CF_ref01_Within_sim : SimOrc Try.prog (CF_ref01_Within (β := β)) := by
  intro f args h K r hc
  cases hc
set_option maxRecDepth 100000 in
theorem F_ref01_Within_sim {R : Nat} {r : β} {a1 : Int} {a2 : Int} {a3 : Int} {h : GH} {K : Value → GH → Option β} (hc : F_ref01_Within R a1 a2 a3 h (fun q0 h' => K (Value.int .i64 q0) h') = some r) : ∃ v h', K v h' = some r ∧ CallSim Try.prog 23 [Value.int .i64 a1, Value.int .i64 a2, Value.int .i64 a3] h v h' := by
  unfold F_ref01_Within G_ref01_Within at hc
  obtain ⟨v, h', hk, hs⟩ := gfun_sim CF_ref01_Within_sim mixed_ok (fun f h => by cases h) Try.func23 (by kernel_rfl) hc
  obtain ⟨u0, e0, hk⟩ := exI_v hk; cases e0
  exact ⟨_, h', hk, hs⟩
/-! F36 duffel/field.Open -/
def CF_field_Open (F_bytes_Clone : Sl → GH → (Sl → GH → Option β) → Option β) : Orc β := fun f args h K => bif Nat.beq f 62 then (match args with | [.slice p1a p1n p1c] => F_bytes_Clone ⟨p1a, p1n, p1c⟩ h (fun q6 h' => K (Value.slice q6.a q6.n q6.c) h') | _ => none) else none
def HF_field_Open : Hints := ⟨[], [], []⟩
noncomputable def G_field_Open (F_bytes_Clone : Sl → GH → (Sl → GH → Option β) → Option β) (R : Nat) (a1 : Sl) (h : GH) (K : Option Addr → GH → Option β) : Option β := gfun Try.prog (CF_field_Open F_bytes_Clone) HF_field_Open R Try.f36 [Value.slice a1.a a1.n a1.c] h (fun v h' => exP (some v) fun u7 => K u7 h')
set_option maxRecDepth 100000 in
theorem F_field_Open_gen (F_bytes_Clone : Sl → GH → (Sl → GH → Option β) → Option β) (R : Nat) (a1 : Sl) (h : GH) (K : Option Addr → GH → Option β) : G_field_Open F_bytes_Clone R a1 h K =
    F_bytes_Clone a1 h fun r2 h3 => gnew [Value.slice r2.a r2.n r2.c, Value.int .i64 0, Value.int .i64 0, Value.bool true] 0 h3 fun g4 h5 => K (some ⟨g4, 0, none⟩) h5 := by kernel_rfl
noncomputable def F_field_Open (R : Nat) (a1 : Sl) (h : GH) (K : Option Addr → GH → Option β) : Option β := G_field_Open (F_bytes_Clone R) R a1 h K
set_option maxRecDepth 100000 in
theorem CF_field_Open_sim {R : Nat} : SimOrc Try.prog (CF_field_Open (F_bytes_Clone R) (β := β)) := by
  intro f args h K r hc
  unfold CF_field_Open at hc
  cases hb : Nat.beq f 62 with
  | true =>
    rw [hb] at hc
    simp only [cond_true] at hc
    obtain rfl := Nat.eq_of_beq_eq_true hb
    split at hc
    · exact any_call (F_bytes_Clone_sim (K := K) hc)
    · cases hc
  | false =>
  rw [hb] at hc
  simp only [cond_false] at hc
  cases hc
set_option maxRecDepth 100000 in
theorem F_field_Open_sim {R : Nat} {r : β} {a1 : Sl} {h : GH} {K : Value → GH → Option β} (hc : F_field_Open R a1 h (fun q0 h' => K (Value.pointer q0) h') = some r) : ∃ v h', K v h' = some r ∧ CallSim Try.prog 36 [Value.slice a1.a a1.n a1.c] h v h' := by
  unfold F_field_Open G_field_Open at hc
  obtain ⟨v, h', hk, hs⟩ := gfun_sim (CF_field_Open_sim (R := R)) mixed_ok (fun f h => by cases h) Try.func36 (by kernel_rfl) hc
  obtain ⟨u0, e0, hk⟩ := exP_v hk; cases e0
  exact ⟨_, h', hk, hs⟩
/-! F67 (*duffel/field.Cursor).Err -/
def CF_field_Cursor_Err  : Orc β := fun f args h K => none
def HF_field_Cursor_Err : Hints := ⟨[], [], []⟩
noncomputable def G_field_Cursor_Err  (R : Nat) (a1 : Option Addr) (h : GH) (K : Int → GH → Option β) : Option β := gfun Try.prog (CF_field_Cursor_Err ) HF_field_Cursor_Err R Try.f67 [Value.pointer a1] h (fun v h' => exI .i64 (some v) fun u9 => K u9 h')
set_option maxRecDepth 100000 in
theorem F_field_Cursor_Err_gen  (R : Nat) (a1 : Option Addr) (h : GH) (K : Int → GH → Option β) : G_field_Cursor_Err  R a1 h K =
    (bif a1.isNone then K 1 h else exA a1 fun g2 o3 => exB (h.cell ⟨g2, o3 + 3, none⟩) fun x4 => (bif !x4 then K 1 h else exA a1 fun g5 o6 => exI .i64 (h.cell ⟨g5, o6 + 2, none⟩) fun x7 => K x7 h)) := by kernel_rfl
noncomputable def F_field_Cursor_Err (R : Nat) (a1 : Option Addr) (h : GH) (K : Int → GH → Option β) : Option β := G_field_Cursor_Err  R a1 h K
theorem CF_field_Cursor_Err_sim : SimOrc Try.prog (CF_field_Cursor_Err (β := β)) := by
  intro f args h K r hc
  cases hc
set_option maxRecDepth 100000 in
theorem F_field_Cursor_Err_sim {R : Nat} {r : β} {a1 : Option Addr} {h : GH} {K : Value → GH → Option β} (hc : F_field_Cursor_Err R a1 h (fun q0 h' => K (Value.int .i64 q0) h') = some r) : ∃ v h', K v h' = some r ∧ CallSim Try.prog 67 [Value.pointer a1] h v h' := by
  unfold F_field_Cursor_Err G_field_Cursor_Err at hc
  obtain ⟨v, h', hk, hs⟩ := gfun_sim CF_field_Cursor_Err_sim mixed_ok (fun f h => by cases h) Try.func67 (by kernel_rfl) hc
  obtain ⟨u0, e0, hk⟩ := exI_v hk; cases e0
  exact ⟨_, h', hk, hs⟩
/-! F93 (*duffel/field.Cursor).take -/
def CF_field_Cursor_take (F_field_Cursor_Err : Option Addr → GH → (Int → GH → Option β) → Option β) : Orc β := fun f args h K => bif Nat.beq f 67 then (match args with | [.pointer p1] => F_field_Cursor_Err p1 h (fun q8 h' => K (Value.int .i64 q8) h') | _ => none) else none
def HF_field_Cursor_take : Hints := ⟨[], [], []⟩
noncomputable def G_field_Cursor_take (F_field_Cursor_Err : Option Addr → GH → (Int → GH → Option β) → Option β) (R : Nat) (a1 : Option Addr) (a2 : Int) (h : GH) (K : Sl → GH → Option β) : Option β := gfun Try.prog (CF_field_Cursor_take F_field_Cursor_Err) HF_field_Cursor_take R Try.f93 [Value.pointer a1, Value.int .i64 a2] h (fun v h' => exS (some v) fun u39 => K u39 h')
set_option maxRecDepth 100000 in
theorem F_field_Cursor_take_gen (F_field_Cursor_Err : Option Addr → GH → (Int → GH → Option β) → Option β) (R : Nat) (a1 : Option Addr) (a2 : Int) (h : GH) (K : Sl → GH → Option β) : G_field_Cursor_take F_field_Cursor_Err R a1 a2 h K =
    F_field_Cursor_Err a1 h fun r3 h4 => (bif r3 != 0 then K ⟨none, 0, 0⟩ h4 else (bif decide (a2 < 0) then exA a1 fun g5 o6 => gput g5 (o6 + 2) [Value.int .i64 2] h4 fun h7 => K ⟨none, 0, 0⟩ h7 else exA a1 fun g8 o9 => exS (h4.cell ⟨g8, o9 + 0, none⟩) fun x10 => exA a1 fun g11 o12 => exI .i64 (h4.cell ⟨g11, o12 + 1, none⟩) fun x13 => (bif decide (a2 > (IntKind.wrap .i64 (((x10.n : Nat) : Int) - x13))) then exA a1 fun g14 o15 => gput g14 (o15 + 2) [Value.int .i64 3] h4 fun h16 => K ⟨none, 0, 0⟩ h16 else exA a1 fun g17 o18 => exI .i64 (h4.cell ⟨g17, o18 + 1, none⟩) fun x19 => exA a1 fun g20 o21 => gput g20 (o21 + 1) [Value.int .i64 (IntKind.wrap .i64 (x19 + a2))] h4 fun h22 => exA a1 fun g23 o24 => exS (h22.cell ⟨g23, o24 + 0, none⟩) fun x25 => exA a1 fun g26 o27 => exI .i64 (h22.cell ⟨g26, o27 + 1, none⟩) fun x28 => exA a1 fun g29 o30 => exI .i64 (h22.cell ⟨g29, o30 + 1, none⟩) fun x31 => exA a1 fun g32 o33 => exI .i64 (h22.cell ⟨g32, o33 + 1, none⟩) fun x34 => bnd x34 x25.c fun m35 => bnd x31 m35 fun m36 => bnd (IntKind.wrap .i64 (x28 - a2)) m36 fun m37 => K ⟨addO x25.a (m37 * 1), m36 - m37, m35 - m37⟩ h22))) := by kernel_rfl
noncomputable def F_field_Cursor_take (R : Nat) (a1 : Option Addr) (a2 : Int) (h : GH) (K : Sl → GH → Option β) : Option β := G_field_Cursor_take (F_field_Cursor_Err R) R a1 a2 h K
set_option maxRecDepth 100000 in
theorem CF_field_Cursor_take_sim {R : Nat} : SimOrc Try.prog (CF_field_Cursor_take (F_field_Cursor_Err R) (β := β)) := by
  intro f args h K r hc
  unfold CF_field_Cursor_take at hc
  cases hb : Nat.beq f 67 with
  | true =>
    rw [hb] at hc
    simp only [cond_true] at hc
    obtain rfl := Nat.eq_of_beq_eq_true hb
    split at hc
    · exact any_call (F_field_Cursor_Err_sim (K := K) hc)
    · cases hc
  | false =>
  rw [hb] at hc
  simp only [cond_false] at hc
  cases hc
set_option maxRecDepth 100000 in
theorem F_field_Cursor_take_sim {R : Nat} {r : β} {a1 : Option Addr} {a2 : Int} {h : GH} {K : Value → GH → Option β} (hc : F_field_Cursor_take R a1 a2 h (fun q0 h' => K (Value.slice q0.a q0.n q0.c) h') = some r) : ∃ v h', K v h' = some r ∧ CallSim Try.prog 93 [Value.pointer a1, Value.int .i64 a2] h v h' := by
  unfold F_field_Cursor_take G_field_Cursor_take at hc
  obtain ⟨v, h', hk, hs⟩ := gfun_sim (CF_field_Cursor_take_sim (R := R)) mixed_ok (fun f h => by cases h) Try.func93 (by kernel_rfl) hc
  obtain ⟨u0, e0, hk⟩ := exS_v hk; cases e0
  exact ⟨_, h', hk, hs⟩
/-! F101 (*duffel/field.Cursor).number -/
def CF_field_Cursor_number (F_field_Cursor_take : Option Addr → Int → GH → (Sl → GH → Option β) → Option β) : Orc β := fun f args h K => bif Nat.beq f 93 then (match args with | [.pointer p1, .int .i64 p2] => F_field_Cursor_take p1 p2 h (fun q38 h' => K (Value.slice q38.a q38.n q38.c) h') | _ => none) else none
def HF_field_Cursor_number : Hints := ⟨[(3, [5, 10, 11, 12], [(0, [(5, .ty 22)])], none)], [], []⟩
noncomputable def BF_field_Cursor_number : Code := match Try.f101.body with | some c => c | none => .skip
noncomputable def F_field_Cursor_number_l0 (F_field_Cursor_take : Option Addr → Int → GH → (Sl → GH → Option β) → Option β) (R : Nat) (n : Nat) (y5 : Int) (y6 : Sl) (y7 : Int) (y8 : Int) (h : GH) (K0 : Int → GH → Option β) : Option β := gloop (gcode Try.prog (CF_field_Cursor_number F_field_Cursor_take) Try.f101.ntmps HF_field_Cursor_number R (at_ [true, true, false, true, false, false] BF_field_Cursor_number)) [5, 10, 11, 12] n [(5, Value.int .u32 y5), (10, Value.slice y6.a y6.n y6.c), (11, Value.int .i64 y7), (12, Value.int .i64 y8)] h (fun i e' h' => bif Nat.beq i 0 then (exI .u32 (some (e'.get 5)) fun u16 => K0 u16 h') else none) (fun e' h' => none)
set_option maxRecDepth 100000 in
theorem F_field_Cursor_number_l0_succ (F_field_Cursor_take : Option Addr → Int → GH → (Sl → GH → Option β) → Option β) (R : Nat) (n : Nat) (y5 : Int) (y6 : Sl) (y7 : Int) (y8 : Int) (h : GH) (K0 : Int → GH → Option β) : F_field_Cursor_number_l0 F_field_Cursor_take R (n + 1) y5 y6 y7 y8 h K0 =
    (bif decide (y8 < y7) then exA y6.a fun g10 o11 => within y8 y6.n (exI .u8 (h.cell ⟨g10, o11 + y8.toNat * 1, none⟩) fun x12 => (bif decide ((IntKind.wrap .i64 (8 * y8)) < 0) then none else F_field_Cursor_number_l0 F_field_Cursor_take R n (IntKind.wrap .u32 (BitVec.ofInt (IntKind.bits .u32) y5 ||| BitVec.ofInt (IntKind.bits .u32) (shlI .u32 (IntKind.wrap .u32 x12) (IntKind.wrap .i64 (8 * y8)))).toNat) y6 y7 (IntKind.wrap .i64 (y8 + 1)) h K0)) else K0 y5 h) := by kernel_rfl
noncomputable def G_field_Cursor_number (F_field_Cursor_take : Option Addr → Int → GH → (Sl → GH → Option β) → Option β) (R : Nat) (a1 : Option Addr) (a2 : Int) (h : GH) (K : Int → GH → Option β) : Option β := gfun Try.prog (CF_field_Cursor_number F_field_Cursor_take) HF_field_Cursor_number R Try.f101 [Value.pointer a1, Value.int .i64 a2] h (fun v h' => exI .u32 (some v) fun u17 => K u17 h')
set_option maxRecDepth 100000 in
theorem F_field_Cursor_number_gen (F_field_Cursor_take : Option Addr → Int → GH → (Sl → GH → Option β) → Option β) (R : Nat) (a1 : Option Addr) (a2 : Int) (h : GH) (K : Int → GH → Option β) : G_field_Cursor_number F_field_Cursor_take R a1 a2 h K =
    F_field_Cursor_take a1 a2 h fun r3 h4 => F_field_Cursor_number_l0 F_field_Cursor_take R R 0 r3 ((r3.n : Nat) : Int) 0 h4 (fun w13 h14 => K w13 h14) := by kernel_rfl
noncomputable def F_field_Cursor_number (R : Nat) (a1 : Option Addr) (a2 : Int) (h : GH) (K : Int → GH → Option β) : Option β := G_field_Cursor_number (F_field_Cursor_take R) R a1 a2 h K
set_option maxRecDepth 100000 in
theorem CF_field_Cursor_number_sim {R : Nat} : SimOrc Try.prog (CF_field_Cursor_number (F_field_Cursor_take R) (β := β)) := by
  intro f args h K r hc
  unfold CF_field_Cursor_number at hc
  cases hb : Nat.beq f 93 with
  | true =>
    rw [hb] at hc
    simp only [cond_true] at hc
    obtain rfl := Nat.eq_of_beq_eq_true hb
    split at hc
    · exact any_call (F_field_Cursor_take_sim (K := K) hc)
    · cases hc
  | false =>
  rw [hb] at hc
  simp only [cond_false] at hc
  cases hc
set_option maxRecDepth 100000 in
theorem F_field_Cursor_number_sim {R : Nat} {r : β} {a1 : Option Addr} {a2 : Int} {h : GH} {K : Value → GH → Option β} (hc : F_field_Cursor_number R a1 a2 h (fun q0 h' => K (Value.int .u32 q0) h') = some r) : ∃ v h', K v h' = some r ∧ CallSim Try.prog 101 [Value.pointer a1, Value.int .i64 a2] h v h' := by
  unfold F_field_Cursor_number G_field_Cursor_number at hc
  obtain ⟨v, h', hk, hs⟩ := gfun_sim (CF_field_Cursor_number_sim (R := R)) mixed_ok (fun f h => by cases h) Try.func101 (by kernel_rfl) hc
  obtain ⟨u0, e0, hk⟩ := exI_v hk; cases e0
  exact ⟨_, h', hk, hs⟩
/-! F90 (*duffel/field.Cursor).U32 -/
def CF_field_Cursor_U32 (F_field_Cursor_number : Option Addr → Int → GH → (Int → GH → Option β) → Option β) : Orc β := fun f args h K => bif Nat.beq f 101 then (match args with | [.pointer p1, .int .i64 p2] => F_field_Cursor_number p1 p2 h (fun q15 h' => K (Value.int .u32 q15) h') | _ => none) else none
def HF_field_Cursor_U32 : Hints := ⟨[], [], []⟩
noncomputable def G_field_Cursor_U32 (F_field_Cursor_number : Option Addr → Int → GH → (Int → GH → Option β) → Option β) (R : Nat) (a1 : Option Addr) (h : GH) (K : Int → GH → Option β) : Option β := gfun Try.prog (CF_field_Cursor_U32 F_field_Cursor_number) HF_field_Cursor_U32 R Try.f90 [Value.pointer a1] h (fun v h' => exI .u32 (some v) fun u5 => K u5 h')
set_option maxRecDepth 100000 in
theorem F_field_Cursor_U32_gen (F_field_Cursor_number : Option Addr → Int → GH → (Int → GH → Option β) → Option β) (R : Nat) (a1 : Option Addr) (h : GH) (K : Int → GH → Option β) : G_field_Cursor_U32 F_field_Cursor_number R a1 h K =
    F_field_Cursor_number a1 4 h fun r2 h3 => K r2 h3 := by kernel_rfl
noncomputable def F_field_Cursor_U32 (R : Nat) (a1 : Option Addr) (h : GH) (K : Int → GH → Option β) : Option β := G_field_Cursor_U32 (F_field_Cursor_number R) R a1 h K
set_option maxRecDepth 100000 in
theorem CF_field_Cursor_U32_sim {R : Nat} : SimOrc Try.prog (CF_field_Cursor_U32 (F_field_Cursor_number R) (β := β)) := by
  intro f args h K r hc
  unfold CF_field_Cursor_U32 at hc
  cases hb : Nat.beq f 101 with
  | true =>
    rw [hb] at hc
    simp only [cond_true] at hc
    obtain rfl := Nat.eq_of_beq_eq_true hb
    split at hc
    · exact any_call (F_field_Cursor_number_sim (K := K) hc)
    · cases hc
  | false =>
  rw [hb] at hc
  simp only [cond_false] at hc
  cases hc
set_option maxRecDepth 100000 in
theorem F_field_Cursor_U32_sim {R : Nat} {r : β} {a1 : Option Addr} {h : GH} {K : Value → GH → Option β} (hc : F_field_Cursor_U32 R a1 h (fun q0 h' => K (Value.int .u32 q0) h') = some r) : ∃ v h', K v h' = some r ∧ CallSim Try.prog 90 [Value.pointer a1] h v h' := by
  unfold F_field_Cursor_U32 G_field_Cursor_U32 at hc
  obtain ⟨v, h', hk, hs⟩ := gfun_sim (CF_field_Cursor_U32_sim (R := R)) mixed_ok (fun f h => by cases h) Try.func90 (by kernel_rfl) hc
  obtain ⟨u0, e0, hk⟩ := exI_v hk; cases e0
  exact ⟨_, h', hk, hs⟩
/-! F89 duffel/record.sign -/
def CF_record_sign (F_field_Cursor_U32 : Option Addr → GH → (Int → GH → Option β) → Option β) (F_field_Cursor_Err : Option Addr → GH → (Int → GH → Option β) → Option β) : Orc β := fun f args h K => bif Nat.beq f 90 then (match args with | [.pointer p1] => F_field_Cursor_U32 p1 h (fun q4 h' => K (Value.int .u32 q4) h') | _ => none) else (bif Nat.beq f 67 then (match args with | [.pointer p1] => F_field_Cursor_Err p1 h (fun q8 h' => K (Value.int .i64 q8) h') | _ => none) else none)
def HF_record_sign : Hints := ⟨[], [], []⟩
noncomputable def G_record_sign (F_field_Cursor_U32 : Option Addr → GH → (Int → GH → Option β) → Option β) (F_field_Cursor_Err : Option Addr → GH → (Int → GH → Option β) → Option β) (R : Nat) (a1 : Option Addr) (a2 : Int) (h : GH) (K : Int → GH → Option β) : Option β := gfun Try.prog (CF_record_sign F_field_Cursor_U32 F_field_Cursor_Err) HF_record_sign R Try.f89 [Value.pointer a1, Value.int .u32 a2] h (fun v h' => exI .i64 (some v) fun u10 => K u10 h')
set_option maxRecDepth 100000 in
theorem F_record_sign_gen (F_field_Cursor_U32 : Option Addr → GH → (Int → GH → Option β) → Option β) (F_field_Cursor_Err : Option Addr → GH → (Int → GH → Option β) → Option β) (R : Nat) (a1 : Option Addr) (a2 : Int) (h : GH) (K : Int → GH → Option β) : G_record_sign F_field_Cursor_U32 F_field_Cursor_Err R a1 a2 h K =
    F_field_Cursor_U32 a1 h fun r3 h4 => F_field_Cursor_Err a1 h4 fun r5 h6 => (bif r5 != 0 then F_field_Cursor_Err a1 h6 fun r7 h8 => K r7 h8 else (bif r3 != a2 then K 13 h6 else K 0 h6)) := by kernel_rfl
noncomputable def F_record_sign (R : Nat) (a1 : Option Addr) (a2 : Int) (h : GH) (K : Int → GH → Option β) : Option β := G_record_sign (F_field_Cursor_U32 R) (F_field_Cursor_Err R) R a1 a2 h K
set_option maxRecDepth 100000 in
theorem CF_record_sign_sim {R : Nat} : SimOrc Try.prog (CF_record_sign (F_field_Cursor_U32 R) (F_field_Cursor_Err R) (β := β)) := by
  intro f args h K r hc
  unfold CF_record_sign at hc
  cases hb : Nat.beq f 90 with
  | true =>
    rw [hb] at hc
    simp only [cond_true] at hc
    obtain rfl := Nat.eq_of_beq_eq_true hb
    split at hc
    · exact any_call (F_field_Cursor_U32_sim (K := K) hc)
    · cases hc
  | false =>
  rw [hb] at hc
  simp only [cond_false] at hc
  cases hb : Nat.beq f 67 with
  | true =>
    rw [hb] at hc
    simp only [cond_true] at hc
    obtain rfl := Nat.eq_of_beq_eq_true hb
    split at hc
    · exact any_call (F_field_Cursor_Err_sim (K := K) hc)
    · cases hc
  | false =>
  rw [hb] at hc
  simp only [cond_false] at hc
  cases hc
set_option maxRecDepth 100000 in
theorem F_record_sign_sim {R : Nat} {r : β} {a1 : Option Addr} {a2 : Int} {h : GH} {K : Value → GH → Option β} (hc : F_record_sign R a1 a2 h (fun q0 h' => K (Value.int .i64 q0) h') = some r) : ∃ v h', K v h' = some r ∧ CallSim Try.prog 89 [Value.pointer a1, Value.int .u32 a2] h v h' := by
  unfold F_record_sign G_record_sign at hc
  obtain ⟨v, h', hk, hs⟩ := gfun_sim (CF_record_sign_sim (R := R)) mixed_ok (fun f h => by cases h) Try.func89 (by kernel_rfl) hc
  obtain ⟨u0, e0, hk⟩ := exI_v hk; cases e0
  exact ⟨_, h', hk, hs⟩
/-! F84 (*duffel/field.Cursor).U16 -/
def CF_field_Cursor_U16 (F_field_Cursor_number : Option Addr → Int → GH → (Int → GH → Option β) → Option β) : Orc β := fun f args h K => bif Nat.beq f 101 then (match args with | [.pointer p1, .int .i64 p2] => F_field_Cursor_number p1 p2 h (fun q15 h' => K (Value.int .u32 q15) h') | _ => none) else none
def HF_field_Cursor_U16 : Hints := ⟨[], [], []⟩
noncomputable def G_field_Cursor_U16 (F_field_Cursor_number : Option Addr → Int → GH → (Int → GH → Option β) → Option β) (R : Nat) (a1 : Option Addr) (h : GH) (K : Int → GH → Option β) : Option β := gfun Try.prog (CF_field_Cursor_U16 F_field_Cursor_number) HF_field_Cursor_U16 R Try.f84 [Value.pointer a1] h (fun v h' => exI .i64 (some v) fun u5 => K u5 h')
set_option maxRecDepth 100000 in
theorem F_field_Cursor_U16_gen (F_field_Cursor_number : Option Addr → Int → GH → (Int → GH → Option β) → Option β) (R : Nat) (a1 : Option Addr) (h : GH) (K : Int → GH → Option β) : G_field_Cursor_U16 F_field_Cursor_number R a1 h K =
    F_field_Cursor_number a1 2 h fun r2 h3 => K (IntKind.wrap .i64 r2) h3 := by kernel_rfl
noncomputable def F_field_Cursor_U16 (R : Nat) (a1 : Option Addr) (h : GH) (K : Int → GH → Option β) : Option β := G_field_Cursor_U16 (F_field_Cursor_number R) R a1 h K
set_option maxRecDepth 100000 in
theorem CF_field_Cursor_U16_sim {R : Nat} : SimOrc Try.prog (CF_field_Cursor_U16 (F_field_Cursor_number R) (β := β)) := by
  intro f args h K r hc
  unfold CF_field_Cursor_U16 at hc
  cases hb : Nat.beq f 101 with
  | true =>
    rw [hb] at hc
    simp only [cond_true] at hc
    obtain rfl := Nat.eq_of_beq_eq_true hb
    split at hc
    · exact any_call (F_field_Cursor_number_sim (K := K) hc)
    · cases hc
  | false =>
  rw [hb] at hc
  simp only [cond_false] at hc
  cases hc
set_option maxRecDepth 100000 in
theorem F_field_Cursor_U16_sim {R : Nat} {r : β} {a1 : Option Addr} {h : GH} {K : Value → GH → Option β} (hc : F_field_Cursor_U16 R a1 h (fun q0 h' => K (Value.int .i64 q0) h') = some r) : ∃ v h', K v h' = some r ∧ CallSim Try.prog 84 [Value.pointer a1] h v h' := by
  unfold F_field_Cursor_U16 G_field_Cursor_U16 at hc
  obtain ⟨v, h', hk, hs⟩ := gfun_sim (CF_field_Cursor_U16_sim (R := R)) mixed_ok (fun f h => by cases h) Try.func84 (by kernel_rfl) hc
  obtain ⟨u0, e0, hk⟩ := exI_v hk; cases e0
  exact ⟨_, h', hk, hs⟩
/-! F66 (*duffel/field.Cursor).Bytes -/
def CF_field_Cursor_Bytes (F_field_Cursor_take : Option Addr → Int → GH → (Sl → GH → Option β) → Option β) (F_bytes_Clone : Sl → GH → (Sl → GH → Option β) → Option β) : Orc β := fun f args h K => bif Nat.beq f 93 then (match args with | [.pointer p1, .int .i64 p2] => F_field_Cursor_take p1 p2 h (fun q38 h' => K (Value.slice q38.a q38.n q38.c) h') | _ => none) else (bif Nat.beq f 62 then (match args with | [.slice p1a p1n p1c] => F_bytes_Clone ⟨p1a, p1n, p1c⟩ h (fun q6 h' => K (Value.slice q6.a q6.n q6.c) h') | _ => none) else none)
def HF_field_Cursor_Bytes : Hints := ⟨[], [], []⟩
noncomputable def G_field_Cursor_Bytes (F_field_Cursor_take : Option Addr → Int → GH → (Sl → GH → Option β) → Option β) (F_bytes_Clone : Sl → GH → (Sl → GH → Option β) → Option β) (R : Nat) (a1 : Option Addr) (a2 : Int) (h : GH) (K : Sl → GH → Option β) : Option β := gfun Try.prog (CF_field_Cursor_Bytes F_field_Cursor_take F_bytes_Clone) HF_field_Cursor_Bytes R Try.f66 [Value.pointer a1, Value.int .i64 a2] h (fun v h' => exS (some v) fun u8 => K u8 h')
set_option maxRecDepth 100000 in
theorem F_field_Cursor_Bytes_gen (F_field_Cursor_take : Option Addr → Int → GH → (Sl → GH → Option β) → Option β) (F_bytes_Clone : Sl → GH → (Sl → GH → Option β) → Option β) (R : Nat) (a1 : Option Addr) (a2 : Int) (h : GH) (K : Sl → GH → Option β) : G_field_Cursor_Bytes F_field_Cursor_take F_bytes_Clone R a1 a2 h K =
    F_field_Cursor_take a1 a2 h fun r3 h4 => F_bytes_Clone r3 h4 fun r5 h6 => K r5 h6 := by kernel_rfl
noncomputable def F_field_Cursor_Bytes (R : Nat) (a1 : Option Addr) (a2 : Int) (h : GH) (K : Sl → GH → Option β) : Option β := G_field_Cursor_Bytes (F_field_Cursor_take R) (F_bytes_Clone R) R a1 a2 h K
set_option maxRecDepth 100000 in
theorem CF_field_Cursor_Bytes_sim {R : Nat} : SimOrc Try.prog (CF_field_Cursor_Bytes (F_field_Cursor_take R) (F_bytes_Clone R) (β := β)) := by
  intro f args h K r hc
  unfold CF_field_Cursor_Bytes at hc
  cases hb : Nat.beq f 93 with
  | true =>
    rw [hb] at hc
    simp only [cond_true] at hc
    obtain rfl := Nat.eq_of_beq_eq_true hb
    split at hc
    · exact any_call (F_field_Cursor_take_sim (K := K) hc)
    · cases hc
  | false =>
  rw [hb] at hc
  simp only [cond_false] at hc
  cases hb : Nat.beq f 62 with
  | true =>
    rw [hb] at hc
    simp only [cond_true] at hc
    obtain rfl := Nat.eq_of_beq_eq_true hb
    split at hc
    · exact any_call (F_bytes_Clone_sim (K := K) hc)
    · cases hc
  | false =>
  rw [hb] at hc
  simp only [cond_false] at hc
  cases hc
set_option maxRecDepth 100000 in
theorem F_field_Cursor_Bytes_sim {R : Nat} {r : β} {a1 : Option Addr} {a2 : Int} {h : GH} {K : Value → GH → Option β} (hc : F_field_Cursor_Bytes R a1 a2 h (fun q0 h' => K (Value.slice q0.a q0.n q0.c) h') = some r) : ∃ v h', K v h' = some r ∧ CallSim Try.prog 66 [Value.pointer a1, Value.int .i64 a2] h v h' := by
  unfold F_field_Cursor_Bytes G_field_Cursor_Bytes at hc
  obtain ⟨v, h', hk, hs⟩ := gfun_sim (CF_field_Cursor_Bytes_sim (R := R)) mixed_ok (fun f h => by cases h) Try.func66 (by kernel_rfl) hc
  obtain ⟨u0, e0, hk⟩ := exS_v hk; cases e0
  exact ⟨_, h', hk, hs⟩

end
end Go.Proofs.Ytibngikhlgmhaaa.Gx
