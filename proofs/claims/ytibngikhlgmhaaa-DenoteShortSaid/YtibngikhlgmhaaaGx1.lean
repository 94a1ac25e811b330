/- Functions of the program as the plain machine has them, each with its equation. Printed by a program of this place (wip/gx/gx.py) out of the translation. No condition. -/
import Derived.Test.YtibngikhlgmhaaaGxQ
import Derived.Test.YtibngikhlgmhaaaGx0
namespace Go.Proofs.Ytibngikhlgmhaaa.Gx
open Go
set_option linter.unusedVariables false
section
variable {β : Type}
/-! F60 duffel/record.ReadEnd -/
def CF_record_ReadEnd (F_record_sign : Option Addr → Int → GH → (Int → GH → Option β) → Option β) (F_field_Cursor_U16 : Option Addr → GH → (Int → GH → Option β) → Option β) (F_field_Cursor_U32 : Option Addr → GH → (Int → GH → Option β) → Option β) (F_field_Cursor_Bytes : Option Addr → Int → GH → (Sl → GH → Option β) → Option β) (F_field_Cursor_Err : Option Addr → GH → (Int → GH → Option β) → Option β) : Orc β := fun f args h K => bif Nat.beq f 89 then (match args with | [.pointer p1, .int .u32 p2] => F_record_sign p1 p2 h (fun q9 h' => K (Value.int .i64 q9) h') | _ => none) else (bif Nat.beq f 84 then (match args with | [.pointer p1] => F_field_Cursor_U16 p1 h (fun q4 h' => K (Value.int .i64 q4) h') | _ => none) else (bif Nat.beq f 90 then (match args with | [.pointer p1] => F_field_Cursor_U32 p1 h (fun q4 h' => K (Value.int .u32 q4) h') | _ => none) else (bif Nat.beq f 66 then (match args with | [.pointer p1, .int .i64 p2] => F_field_Cursor_Bytes p1 p2 h (fun q7 h' => K (Value.slice q7.a q7.n q7.c) h') | _ => none) else (bif Nat.beq f 67 then (match args with | [.pointer p1] => F_field_Cursor_Err p1 h (fun q8 h' => K (Value.int .i64 q8) h') | _ => none) else none))))
def HF_record_ReadEnd : Hints := ⟨[], [], []⟩
noncomputable def G_record_ReadEnd (F_record_sign : Option Addr → Int → GH → (Int → GH → Option β) → Option β) (F_field_Cursor_U16 : Option Addr → GH → (Int → GH → Option β) → Option β) (F_field_Cursor_U32 : Option Addr → GH → (Int → GH → Option β) → Option β) (F_field_Cursor_Bytes : Option Addr → Int → GH → (Sl → GH → Option β) → Option β) (F_field_Cursor_Err : Option Addr → GH → (Int → GH → Option β) → Option β) (R : Nat) (a1 : Option Addr) (h : GH) (K : Int → Int → Int → Int → Int → Int → Sl → Int → GH → Option β) : Option β := gfun Try.prog (CF_record_ReadEnd F_record_sign F_field_Cursor_U16 F_field_Cursor_U32 F_field_Cursor_Bytes F_field_Cursor_Err) HF_record_ReadEnd R Try.f60 [Value.pointer a1] h (fun v h' => exTup 2 v fun vs => exV (nth vs 0) fun v0 => exAg v0 fun c67 => (bif Nat.beq c67.length 7 then exI .i64 (nth c67 (0)) fun u68 => exI .i64 (nth c67 (0 + 1)) fun u69 => exI .i64 (nth c67 (0 + 1 + 1)) fun u70 => exI .i64 (nth c67 (0 + 1 + 1 + 1)) fun u71 => exI .u32 (nth c67 (0 + 1 + 1 + 1 + 1)) fun u72 => exI .u32 (nth c67 (0 + 1 + 1 + 1 + 1 + 1)) fun u73 => exS (nth c67 (0 + 1 + 1 + 1 + 1 + 1 + 1)) fun u74 => exV (nth vs 1) fun v1 => exI .i64 (some v1) fun u75 => K u68 u69 u70 u71 u72 u73 u74 u75 h' else none))
set_option maxRecDepth 100000 in
theorem F_record_ReadEnd_gen (F_record_sign : Option Addr → Int → GH → (Int → GH → Option β) → Option β) (F_field_Cursor_U16 : Option Addr → GH → (Int → GH → Option β) → Option β) (F_field_Cursor_U32 : Option Addr → GH → (Int → GH → Option β) → Option β) (F_field_Cursor_Bytes : Option Addr → Int → GH → (Sl → GH → Option β) → Option β) (F_field_Cursor_Err : Option Addr → GH → (Int → GH → Option β) → Option β) (R : Nat) (a1 : Option Addr) (h : GH) (K : Int → Int → Int → Int → Int → Int → Sl → Int → GH → Option β) : G_record_ReadEnd F_record_sign F_field_Cursor_U16 F_field_Cursor_U32 F_field_Cursor_Bytes F_field_Cursor_Err R a1 h K =
    gnew [Value.int .i64 0, Value.int .i64 0, Value.int .i64 0, Value.int .i64 0, Value.int .u32 0, Value.int .u32 0, Value.slice none 0 0] 0 h fun g2 h3 => F_record_sign a1 101010256 h3 fun r4 h5 => (bif r4 != 0 then gput g2 (0) [Value.int .i64 0, Value.int .i64 0, Value.int .i64 0, Value.int .i64 0, Value.int .u32 0, Value.int .u32 0, Value.slice none 0 0] h5 fun h6 => exI .i64 (h6.cell ⟨g2, 0, none⟩) fun x7 => exI .i64 (h6.cell ⟨g2, 0 + 1, none⟩) fun x8 => exI .i64 (h6.cell ⟨g2, 0 + 1 + 1, none⟩) fun x9 => exI .i64 (h6.cell ⟨g2, 0 + 1 + 1 + 1, none⟩) fun x10 => exI .u32 (h6.cell ⟨g2, 0 + 1 + 1 + 1 + 1, none⟩) fun x11 => exI .u32 (h6.cell ⟨g2, 0 + 1 + 1 + 1 + 1 + 1, none⟩) fun x12 => exS (h6.cell ⟨g2, 0 + 1 + 1 + 1 + 1 + 1 + 1, none⟩) fun x13 => K x7 x8 x9 x10 x11 x12 x13 r4 h6 else F_field_Cursor_U16 a1 h5 fun r14 h15 => F_field_Cursor_U16 a1 h15 fun r16 h17 => F_field_Cursor_U16 a1 h17 fun r18 h19 => F_field_Cursor_U16 a1 h19 fun r20 h21 => F_field_Cursor_U32 a1 h21 fun r22 h23 => F_field_Cursor_U32 a1 h23 fun r24 h25 => gnew [Value.int .i64 0, Value.int .i64 0, Value.int .i64 0, Value.int .i64 0, Value.int .u32 0, Value.int .u32 0, Value.slice none 0 0] 0 h25 fun g26 h27 => gput g26 (0) [Value.int .i64 r14, Value.int .i64 r16, Value.int .i64 r18, Value.int .i64 r20, Value.int .u32 r22, Value.int .u32 r24, Value.slice none 0 0] h27 fun h28 => F_field_Cursor_U16 a1 h28 fun r29 h30 => F_field_Cursor_Bytes a1 r29 h30 fun r31 h32 => gput g26 (0 + 6) [Value.slice r31.a r31.n r31.c] h32 fun h33 => F_field_Cursor_Err a1 h33 fun r34 h35 => (bif r34 != 0 then gput g2 (0) [Value.int .i64 0, Value.int .i64 0, Value.int .i64 0, Value.int .i64 0, Value.int .u32 0, Value.int .u32 0, Value.slice none 0 0] h35 fun h36 => exI .i64 (h36.cell ⟨g2, 0, none⟩) fun x37 => exI .i64 (h36.cell ⟨g2, 0 + 1, none⟩) fun x38 => exI .i64 (h36.cell ⟨g2, 0 + 1 + 1, none⟩) fun x39 => exI .i64 (h36.cell ⟨g2, 0 + 1 + 1 + 1, none⟩) fun x40 => exI .u32 (h36.cell ⟨g2, 0 + 1 + 1 + 1 + 1, none⟩) fun x41 => exI .u32 (h36.cell ⟨g2, 0 + 1 + 1 + 1 + 1 + 1, none⟩) fun x42 => exS (h36.cell ⟨g2, 0 + 1 + 1 + 1 + 1 + 1 + 1, none⟩) fun x43 => K x37 x38 x39 x40 x41 x42 x43 r34 h36 else exI .i64 (h35.cell ⟨g26, 0, none⟩) fun x44 => exI .i64 (h35.cell ⟨g26, 0 + 1, none⟩) fun x45 => exI .i64 (h35.cell ⟨g26, 0 + 1 + 1, none⟩) fun x46 => exI .i64 (h35.cell ⟨g26, 0 + 1 + 1 + 1, none⟩) fun x47 => exI .u32 (h35.cell ⟨g26, 0 + 1 + 1 + 1 + 1, none⟩) fun x48 => exI .u32 (h35.cell ⟨g26, 0 + 1 + 1 + 1 + 1 + 1, none⟩) fun x49 => exS (h35.cell ⟨g26, 0 + 1 + 1 + 1 + 1 + 1 + 1, none⟩) fun x50 => gput g2 (0) [Value.int .i64 x44, Value.int .i64 x45, Value.int .i64 x46, Value.int .i64 x47, Value.int .u32 x48, Value.int .u32 x49, Value.slice x50.a x50.n x50.c] h35 fun h51 => exI .i64 (h51.cell ⟨g2, 0, none⟩) fun x52 => exI .i64 (h51.cell ⟨g2, 0 + 1, none⟩) fun x53 => exI .i64 (h51.cell ⟨g2, 0 + 1 + 1, none⟩) fun x54 => exI .i64 (h51.cell ⟨g2, 0 + 1 + 1 + 1, none⟩) fun x55 => exI .u32 (h51.cell ⟨g2, 0 + 1 + 1 + 1 + 1, none⟩) fun x56 => exI .u32 (h51.cell ⟨g2, 0 + 1 + 1 + 1 + 1 + 1, none⟩) fun x57 => exS (h51.cell ⟨g2, 0 + 1 + 1 + 1 + 1 + 1 + 1, none⟩) fun x58 => K x52 x53 x54 x55 x56 x57 x58 0 h51)) := by kernel_rfl
noncomputable def F_record_ReadEnd (R : Nat) (a1 : Option Addr) (h : GH) (K : Int → Int → Int → Int → Int → Int → Sl → Int → GH → Option β) : Option β := G_record_ReadEnd (F_record_sign R) (F_field_Cursor_U16 R) (F_field_Cursor_U32 R) (F_field_Cursor_Bytes R) (F_field_Cursor_Err R) R a1 h K
set_option maxRecDepth 100000 in
theorem CF_record_ReadEnd_sim {R : Nat} : SimOrc Try.prog (CF_record_ReadEnd (F_record_sign R) (F_field_Cursor_U16 R) (F_field_Cursor_U32 R) (F_field_Cursor_Bytes R) (F_field_Cursor_Err R) (β := β)) := by
  intro f args h K r hc
  unfold CF_record_ReadEnd at hc
  cases hb : Nat.beq f 89 with
  | true =>
    rw [hb] at hc
    simp only [cond_true] at hc
    obtain rfl := Nat.eq_of_beq_eq_true hb
    split at hc
    · exact any_call (F_record_sign_sim (K := K) hc)
    · cases hc
  | false =>
  rw [hb] at hc
  simp only [cond_false] at hc
  cases hb : Nat.beq f 84 with
  | true =>
    rw [hb] at hc
    simp only [cond_true] at hc
    obtain rfl := Nat.eq_of_beq_eq_true hb
    split at hc
    · exact any_call (F_field_Cursor_U16_sim (K := K) hc)
    · cases hc
  | false =>
  rw [hb] at hc
  simp only [cond_false] at hc
  cases hb : Nat.beq f 90 with
  | true =>
    rw [hb] at hc
    simp only [cond_true] at hc
    obtain rfl := Nat.eq_of_beq_eq_true hb
    split at hc
    · exact any_call (F_field_Cursor_U32_sim (K := K) hc)
    · cases hc
  | false =>
  rw [hb] at hc
  simp only [cond_false] at hc
  cases hb : Nat.beq f 66 with
  | true =>
    rw [hb] at hc
    simp only [cond_true] at hc
    obtain rfl := Nat.eq_of_beq_eq_true hb
    split at hc
    · exact any_call (F_field_Cursor_Bytes_sim (K := K) hc)
    · cases hc
  | false =>
  rw [hb] at hc
  simp only [cond_false] at hc
  cases hb : Nat.beq f 67 with
  | true =>
    rw [hb] at hc
    simp only [cond_true] at hc
    obtain rfl := Nat.eq_of_beq_eq_true hb
    split at hc
    · exact any_call (F_field_Cursor_Err_sim (K := K) hc)
    · cases hc
  | false =>
  rw [hb] at hc
  simp only [cond_false] at hc
  cases hc
set_option maxRecDepth 100000 in
theorem F_record_ReadEnd_sim {R : Nat} {r : β} {a1 : Option Addr} {h : GH} {K : Value → GH → Option β} (hc : F_record_ReadEnd R a1 h (fun q0 q1 q2 q3 q4 q5 q6 q7 h' => K (Value.tuple #[Value.agg #[Value.int .i64 q0, Value.int .i64 q1, Value.int .i64 q2, Value.int .i64 q3, Value.int .u32 q4, Value.int .u32 q5, Value.slice q6.a q6.n q6.c], Value.int .i64 q7]) h') = some r) : ∃ v h', K v h' = some r ∧ CallSim Try.prog 60 [Value.pointer a1] h v h' := by
  unfold F_record_ReadEnd G_record_ReadEnd at hc
  obtain ⟨v, h', hk, hs⟩ := gfun_sim (CF_record_ReadEnd_sim (R := R)) mixed_ok (fun f h => by cases h) Try.func60 (by kernel_rfl) hc
  obtain ⟨vs, rfl, hl, hk⟩ := exTup_v hk
  obtain ⟨v0, t0, hk⟩ := exV_v hk
  obtain ⟨cs0, f0, hk⟩ := exAg_v hk; cases f0; obtain ⟨hl0, hk⟩ := beq_v hk
  obtain ⟨u1, e1, hk⟩ := exI_v hk
  obtain ⟨u2, e2, hk⟩ := exI_v hk
  obtain ⟨u3, e3, hk⟩ := exI_v hk
  obtain ⟨u4, e4, hk⟩ := exI_v hk
  obtain ⟨u5, e5, hk⟩ := exI_v hk
  obtain ⟨u6, e6, hk⟩ := exI_v hk
  obtain ⟨u7, e7, hk⟩ := exS_v hk
  obtain rfl := arr7 hl0 e1 e2 e3 e4 e5 e6 e7
  obtain ⟨v1, t1, hk⟩ := exV_v hk
  obtain ⟨u8, e8, hk⟩ := exI_v hk; cases e8
  obtain rfl := arr2 hl t0 t1
  exact ⟨_, h', hk, hs⟩
/-! F34 (*duffel/denote.scanner).findEnd -/
def CF_denote_scanner_findEnd (F_record_FindEnd : Sl → GH → (Int → GH → Option β) → Option β) (F_field_Open : Sl → GH → (Option Addr → GH → Option β) → Option β) (F_record_ReadEnd : Option Addr → GH → (Int → Int → Int → Int → Int → Int → Sl → Int → GH → Option β) → Option β) : Orc β := fun f args h K => bif Nat.beq f 24 then (match args with | [.slice p1a p1n p1c] => F_record_FindEnd ⟨p1a, p1n, p1c⟩ h (fun q15 h' => K (Value.int .i64 q15) h') | _ => none) else (bif Nat.beq f 36 then (match args with | [.slice p1a p1n p1c] => F_field_Open ⟨p1a, p1n, p1c⟩ h (fun q6 h' => K (Value.pointer q6) h') | _ => none) else (bif Nat.beq f 60 then (match args with | [.pointer p1] => F_record_ReadEnd p1 h (fun q59 q60 q61 q62 q63 q64 q65 q66 h' => K (Value.tuple #[Value.agg #[Value.int .i64 q59, Value.int .i64 q60, Value.int .i64 q61, Value.int .i64 q62, Value.int .u32 q63, Value.int .u32 q64, Value.slice q65.a q65.n q65.c], Value.int .i64 q66]) h') | _ => none) else none))
def HF_denote_scanner_findEnd : Hints := ⟨[], [], []⟩
noncomputable def G_denote_scanner_findEnd (F_record_FindEnd : Sl → GH → (Int → GH → Option β) → Option β) (F_field_Open : Sl → GH → (Option Addr → GH → Option β) → Option β) (F_record_ReadEnd : Option Addr → GH → (Int → Int → Int → Int → Int → Int → Sl → Int → GH → Option β) → Option β) (R : Nat) (a1 : Option Addr) (h : GH) (K : Int → GH → Option β) : Option β := gfun Try.prog (CF_denote_scanner_findEnd F_record_FindEnd F_field_Open F_record_ReadEnd) HF_denote_scanner_findEnd R Try.f34 [Value.pointer a1] h (fun v h' => exI .i64 (some v) fun u56 => K u56 h')
set_option maxRecDepth 100000 in
theorem F_denote_scanner_findEnd_gen (F_record_FindEnd : Sl → GH → (Int → GH → Option β) → Option β) (F_field_Open : Sl → GH → (Option Addr → GH → Option β) → Option β) (F_record_ReadEnd : Option Addr → GH → (Int → Int → Int → Int → Int → Int → Sl → Int → GH → Option β) → Option β) (R : Nat) (a1 : Option Addr) (h : GH) (K : Int → GH → Option β) : G_denote_scanner_findEnd F_record_FindEnd F_field_Open F_record_ReadEnd R a1 h K =
    exA a1 fun g2 o3 => exS (h.cell ⟨g2, o3 + 0, none⟩) fun x4 => F_record_FindEnd x4 h fun r5 h6 => exA a1 fun g7 o8 => gput g7 (o8 + 8) [Value.int .i64 r5] h6 fun h9 => exA a1 fun g10 o11 => exI .i64 (h9.cell ⟨g10, o11 + 8, none⟩) fun x12 => (bif decide (x12 < 0) then K 13 h9 else exA a1 fun g13 o14 => exS (h9.cell ⟨g13, o14 + 0, none⟩) fun x15 => exA a1 fun g16 o17 => exI .i64 (h9.cell ⟨g16, o17 + 8, none⟩) fun x18 => bnd x18 x15.n fun m19 => F_field_Open ⟨addO x15.a (m19 * 1), x15.n - m19, x15.c - m19⟩ h9 fun r20 h21 => F_record_ReadEnd r20 h21 fun r22 r23 r24 r25 r26 r27 r28 r29 h30 => gnew [Value.int .i64 0, Value.int .i64 0, Value.int .i64 0, Value.int .i64 0, Value.int .u32 0, Value.int .u32 0, Value.slice none 0 0] 0 h30 fun g31 h32 => gput g31 (0) [Value.int .i64 r22, Value.int .i64 r23, Value.int .i64 r24, Value.int .i64 r25, Value.int .u32 r26, Value.int .u32 r27, Value.slice r28.a r28.n r28.c] h32 fun h33 => (bif r29 != 0 then K r29 h33 else exI .i64 (h33.cell ⟨g31, 0 + 0, none⟩) fun x34 => (bif x34 != 0 then K 12 h33 else exI .i64 (h33.cell ⟨g31, 0 + 1, none⟩) fun x35 => (bif x35 != 0 then K 12 h33 else exI .i64 (h33.cell ⟨g31, 0 + 2, none⟩) fun x36 => exI .i64 (h33.cell ⟨g31, 0 + 3, none⟩) fun x37 => (bif x36 != x37 then K 12 h33 else exI .u32 (h33.cell ⟨g31, 0 + 4, none⟩) fun x38 => (bif x38 == 4294967295 then K 12 h33 else exI .u32 (h33.cell ⟨g31, 0 + 5, none⟩) fun x39 => (bif x39 == 4294967295 then K 12 h33 else exI .u32 (h33.cell ⟨g31, 0 + 5, none⟩) fun x40 => exI .u32 (h33.cell ⟨g31, 0 + 4, none⟩) fun x41 => exA a1 fun g42 o43 => exI .i64 (h33.cell ⟨g42, o43 + 8, none⟩) fun x44 => (bif (IntKind.wrap .i64 ((IntKind.wrap .i64 x40) + (IntKind.wrap .i64 x41))) != x44 then K 14 h33 else exI .i64 (h33.cell ⟨g31, 0, none⟩) fun x45 => exI .i64 (h33.cell ⟨g31, 0 + 1, none⟩) fun x46 => exI .i64 (h33.cell ⟨g31, 0 + 1 + 1, none⟩) fun x47 => exI .i64 (h33.cell ⟨g31, 0 + 1 + 1 + 1, none⟩) fun x48 => exI .u32 (h33.cell ⟨g31, 0 + 1 + 1 + 1 + 1, none⟩) fun x49 => exI .u32 (h33.cell ⟨g31, 0 + 1 + 1 + 1 + 1 + 1, none⟩) fun x50 => exS (h33.cell ⟨g31, 0 + 1 + 1 + 1 + 1 + 1 + 1, none⟩) fun x51 => exA a1 fun g52 o53 => gput g52 (o53 + 1) [Value.int .i64 x45, Value.int .i64 x46, Value.int .i64 x47, Value.int .i64 x48, Value.int .u32 x49, Value.int .u32 x50, Value.slice x51.a x51.n x51.c] h33 fun h54 => K 0 h54)))))))) := by kernel_rfl
noncomputable def F_denote_scanner_findEnd (R : Nat) (a1 : Option Addr) (h : GH) (K : Int → GH → Option β) : Option β := G_denote_scanner_findEnd (F_record_FindEnd R) (F_field_Open R) (F_record_ReadEnd R) R a1 h K
set_option maxRecDepth 100000 in
theorem CF_denote_scanner_findEnd_sim {R : Nat} : SimOrc Try.prog (CF_denote_scanner_findEnd (F_record_FindEnd R) (F_field_Open R) (F_record_ReadEnd R) (β := β)) := by
  intro f args h K r hc
  unfold CF_denote_scanner_findEnd at hc
  cases hb : Nat.beq f 24 with
  | true =>
    rw [hb] at hc
    simp only [cond_true] at hc
    obtain rfl := Nat.eq_of_beq_eq_true hb
    split at hc
    · exact any_call (F_record_FindEnd_sim (K := K) hc)
    · cases hc
  | false =>
  rw [hb] at hc
  simp only [cond_false] at hc
  cases hb : Nat.beq f 36 with
  | true =>
    rw [hb] at hc
    simp only [cond_true] at hc
    obtain rfl := Nat.eq_of_beq_eq_true hb
    split at hc
    · exact any_call (F_field_Open_sim (K := K) hc)
    · cases hc
  | false =>
  rw [hb] at hc
  simp only [cond_false] at hc
  cases hb : Nat.beq f 60 with
  | true =>
    rw [hb] at hc
    simp only [cond_true] at hc
    obtain rfl := Nat.eq_of_beq_eq_true hb
    split at hc
    · exact any_call (F_record_ReadEnd_sim (K := K) hc)
    · cases hc
  | false =>
  rw [hb] at hc
  simp only [cond_false] at hc
  cases hc
set_option maxRecDepth 100000 in
theorem F_denote_scanner_findEnd_sim {R : Nat} {r : β} {a1 : Option Addr} {h : GH} {K : Value → GH → Option β} (hc : F_denote_scanner_findEnd R a1 h (fun q0 h' => K (Value.int .i64 q0) h') = some r) : ∃ v h', K v h' = some r ∧ CallSim Try.prog 34 [Value.pointer a1] h v h' := by
  unfold F_denote_scanner_findEnd G_denote_scanner_findEnd at hc
  obtain ⟨v, h', hk, hs⟩ := gfun_sim (CF_denote_scanner_findEnd_sim (R := R)) mixed_ok (fun f h => by cases h) Try.func34 (by kernel_rfl) hc
  obtain ⟨u0, e0, hk⟩ := exI_v hk; cases e0
  exact ⟨_, h', hk, hs⟩
/-! F91 duffel/record.head -/
def CF_record_head (F_field_Cursor_U16 : Option Addr → GH → (Int → GH → Option β) → Option β) (F_field_Cursor_U32 : Option Addr → GH → (Int → GH → Option β) → Option β) : Orc β := fun f args h K => bif Nat.beq f 84 then (match args with | [.pointer p1] => F_field_Cursor_U16 p1 h (fun q4 h' => K (Value.int .i64 q4) h') | _ => none) else (bif Nat.beq f 90 then (match args with | [.pointer p1] => F_field_Cursor_U32 p1 h (fun q4 h' => K (Value.int .u32 q4) h') | _ => none) else none)
def HF_record_head : Hints := ⟨[], [], []⟩
noncomputable def G_record_head (F_field_Cursor_U16 : Option Addr → GH → (Int → GH → Option β) → Option β) (F_field_Cursor_U32 : Option Addr → GH → (Int → GH → Option β) → Option β) (R : Nat) (a1 : Option Addr) (h : GH) (K : Int → Int → Int → Int → Int → Int → Int → Int → Sl → Sl → Int → Int → Int → GH → Option β) : Option β := gfun Try.prog (CF_record_head F_field_Cursor_U16 F_field_Cursor_U32) HF_record_head R Try.f91 [Value.pointer a1] h (fun v h' => exTup 2 v fun vs => exV (nth vs 0) fun v0 => exAg v0 fun c70 => (bif Nat.beq c70.length 10 then exI .i64 (nth c70 (0)) fun u71 => exI .i64 (nth c70 (0 + 1)) fun u72 => exI .i64 (nth c70 (0 + 1 + 1)) fun u73 => exI .i64 (nth c70 (0 + 1 + 1 + 1)) fun u74 => exI .i64 (nth c70 (0 + 1 + 1 + 1 + 1)) fun u75 => exI .u32 (nth c70 (0 + 1 + 1 + 1 + 1 + 1)) fun u76 => exI .u32 (nth c70 (0 + 1 + 1 + 1 + 1 + 1 + 1)) fun u77 => exI .u32 (nth c70 (0 + 1 + 1 + 1 + 1 + 1 + 1 + 1)) fun u78 => exS (nth c70 (0 + 1 + 1 + 1 + 1 + 1 + 1 + 1 + 1)) fun u79 => exS (nth c70 (0 + 1 + 1 + 1 + 1 + 1 + 1 + 1 + 1 + 1)) fun u80 => exV (nth vs 1) fun v1 => exAg v1 fun c81 => (bif Nat.beq c81.length 3 then exI .i64 (nth c81 (0)) fun u82 => exI .i64 (nth c81 (0 + 1)) fun u83 => exI .i64 (nth c81 (0 + 1 + 1)) fun u84 => K u71 u72 u73 u74 u75 u76 u77 u78 u79 u80 u82 u83 u84 h' else none) else none))
set_option maxRecDepth 100000 in
theorem F_record_head_gen (F_field_Cursor_U16 : Option Addr → GH → (Int → GH → Option β) → Option β) (F_field_Cursor_U32 : Option Addr → GH → (Int → GH → Option β) → Option β) (R : Nat) (a1 : Option Addr) (h : GH) (K : Int → Int → Int → Int → Int → Int → Int → Int → Sl → Sl → Int → Int → Int → GH → Option β) : G_record_head F_field_Cursor_U16 F_field_Cursor_U32 R a1 h K =
    gnew [Value.int .i64 0, Value.int .i64 0, Value.int .i64 0, Value.int .i64 0, Value.int .i64 0, Value.int .u32 0, Value.int .u32 0, Value.int .u32 0, Value.slice none 0 0, Value.slice none 0 0] 0 h fun g2 h3 => gnew [Value.int .i64 0, Value.int .i64 0, Value.int .i64 0] 0 h3 fun g4 h5 => F_field_Cursor_U16 a1 h5 fun r6 h7 => F_field_Cursor_U16 a1 h7 fun r8 h9 => F_field_Cursor_U16 a1 h9 fun r10 h11 => F_field_Cursor_U16 a1 h11 fun r12 h13 => F_field_Cursor_U16 a1 h13 fun r14 h15 => gnew [Value.int .i64 0, Value.int .i64 0, Value.int .i64 0, Value.int .i64 0, Value.int .i64 0, Value.int .u32 0, Value.int .u32 0, Value.int .u32 0, Value.slice none 0 0, Value.slice none 0 0] 0 h15 fun g16 h17 => gput g16 (0) [Value.int .i64 r6, Value.int .i64 r8, Value.int .i64 r10, Value.int .i64 r12, Value.int .i64 r14, Value.int .u32 0, Value.int .u32 0, Value.int .u32 0, Value.slice none 0 0, Value.slice none 0 0] h17 fun h18 => F_field_Cursor_U32 a1 h18 fun r19 h20 => F_field_Cursor_U32 a1 h20 fun r21 h22 => F_field_Cursor_U32 a1 h22 fun r23 h24 => gput g16 (0 + 5) [Value.int .u32 r19] h24 fun h25 => gput g16 (0 + 6) [Value.int .u32 r21] h25 fun h26 => gput g16 (0 + 7) [Value.int .u32 r23] h26 fun h27 => exI .i64 (h27.cell ⟨g16, 0, none⟩) fun x28 => exI .i64 (h27.cell ⟨g16, 0 + 1, none⟩) fun x29 => exI .i64 (h27.cell ⟨g16, 0 + 1 + 1, none⟩) fun x30 => exI .i64 (h27.cell ⟨g16, 0 + 1 + 1 + 1, none⟩) fun x31 => exI .i64 (h27.cell ⟨g16, 0 + 1 + 1 + 1 + 1, none⟩) fun x32 => exI .u32 (h27.cell ⟨g16, 0 + 1 + 1 + 1 + 1 + 1, none⟩) fun x33 => exI .u32 (h27.cell ⟨g16, 0 + 1 + 1 + 1 + 1 + 1 + 1, none⟩) fun x34 => exI .u32 (h27.cell ⟨g16, 0 + 1 + 1 + 1 + 1 + 1 + 1 + 1, none⟩) fun x35 => exS (h27.cell ⟨g16, 0 + 1 + 1 + 1 + 1 + 1 + 1 + 1 + 1, none⟩) fun x36 => exS (h27.cell ⟨g16, 0 + 1 + 1 + 1 + 1 + 1 + 1 + 1 + 1 + 1, none⟩) fun x37 => F_field_Cursor_U16 a1 h27 fun r38 h39 => F_field_Cursor_U16 a1 h39 fun r40 h41 => gput g2 (0) [Value.int .i64 x28, Value.int .i64 x29, Value.int .i64 x30, Value.int .i64 x31, Value.int .i64 x32, Value.int .u32 x33, Value.int .u32 x34, Value.int .u32 x35, Value.slice x36.a x36.n x36.c, Value.slice x37.a x37.n x37.c] h41 fun h42 => gput g4 (0) [Value.int .i64 r38, Value.int .i64 r40, Value.int .i64 0] h42 fun h43 => (bif sameAt g16 (0) 10 h39 h41 then (bif sameAt g16 (0) 10 h27 h39 then exI .i64 (h43.cell ⟨g2, 0, none⟩) fun x44 => exI .i64 (h43.cell ⟨g2, 0 + 1, none⟩) fun x45 => exI .i64 (h43.cell ⟨g2, 0 + 1 + 1, none⟩) fun x46 => exI .i64 (h43.cell ⟨g2, 0 + 1 + 1 + 1, none⟩) fun x47 => exI .i64 (h43.cell ⟨g2, 0 + 1 + 1 + 1 + 1, none⟩) fun x48 => exI .u32 (h43.cell ⟨g2, 0 + 1 + 1 + 1 + 1 + 1, none⟩) fun x49 => exI .u32 (h43.cell ⟨g2, 0 + 1 + 1 + 1 + 1 + 1 + 1, none⟩) fun x50 => exI .u32 (h43.cell ⟨g2, 0 + 1 + 1 + 1 + 1 + 1 + 1 + 1, none⟩) fun x51 => exS (h43.cell ⟨g2, 0 + 1 + 1 + 1 + 1 + 1 + 1 + 1 + 1, none⟩) fun x52 => exS (h43.cell ⟨g2, 0 + 1 + 1 + 1 + 1 + 1 + 1 + 1 + 1 + 1, none⟩) fun x53 => exI .i64 (h43.cell ⟨g4, 0, none⟩) fun x54 => exI .i64 (h43.cell ⟨g4, 0 + 1, none⟩) fun x55 => exI .i64 (h43.cell ⟨g4, 0 + 1 + 1, none⟩) fun x56 => K x44 x45 x46 x47 x48 x49 x50 x51 x52 x53 x54 x55 x56 h43 else none) else none) := by kernel_rfl
noncomputable def F_record_head (R : Nat) (a1 : Option Addr) (h : GH) (K : Int → Int → Int → Int → Int → Int → Int → Int → Sl → Sl → Int → Int → Int → GH → Option β) : Option β := G_record_head (F_field_Cursor_U16 R) (F_field_Cursor_U32 R) R a1 h K
set_option maxRecDepth 100000 in
theorem CF_record_head_sim {R : Nat} : SimOrc Try.prog (CF_record_head (F_field_Cursor_U16 R) (F_field_Cursor_U32 R) (β := β)) := by
  intro f args h K r hc
  unfold CF_record_head at hc
  cases hb : Nat.beq f 84 with
  | true =>
    rw [hb] at hc
    simp only [cond_true] at hc
    obtain rfl := Nat.eq_of_beq_eq_true hb
    split at hc
    · exact any_call (F_field_Cursor_U16_sim (K := K) hc)
    · cases hc
  | false =>
  rw [hb] at hc
  simp only [cond_false] at hc
  cases hb : Nat.beq f 90 with
  | true =>
    rw [hb] at hc
    simp only [cond_true] at hc
    obtain rfl := Nat.eq_of_beq_eq_true hb
    split at hc
    · exact any_call (F_field_Cursor_U32_sim (K := K) hc)
    · cases hc
  | false =>
  rw [hb] at hc
  simp only [cond_false] at hc
  cases hc
set_option maxRecDepth 100000 in
theorem F_record_head_sim {R : Nat} {r : β} {a1 : Option Addr} {h : GH} {K : Value → GH → Option β} (hc : F_record_head R a1 h (fun q0 q1 q2 q3 q4 q5 q6 q7 q8 q9 q10 q11 q12 h' => K (Value.tuple #[Value.agg #[Value.int .i64 q0, Value.int .i64 q1, Value.int .i64 q2, Value.int .i64 q3, Value.int .i64 q4, Value.int .u32 q5, Value.int .u32 q6, Value.int .u32 q7, Value.slice q8.a q8.n q8.c, Value.slice q9.a q9.n q9.c], Value.agg #[Value.int .i64 q10, Value.int .i64 q11, Value.int .i64 q12]]) h') = some r) : ∃ v h', K v h' = some r ∧ CallSim Try.prog 91 [Value.pointer a1] h v h' := by
  unfold F_record_head G_record_head at hc
  obtain ⟨v, h', hk, hs⟩ := gfun_sim (CF_record_head_sim (R := R)) mixed_ok (fun f h => by cases h) Try.func91 (by kernel_rfl) hc
  obtain ⟨vs, rfl, hl, hk⟩ := exTup_v hk
  obtain ⟨v0, t0, hk⟩ := exV_v hk
  obtain ⟨cs0, f0, hk⟩ := exAg_v hk; cases f0; obtain ⟨hl0, hk⟩ := beq_v hk
  obtain ⟨u1, e1, hk⟩ := exI_v hk
  obtain ⟨u2, e2, hk⟩ := exI_v hk
  obtain ⟨u3, e3, hk⟩ := exI_v hk
  obtain ⟨u4, e4, hk⟩ := exI_v hk
  obtain ⟨u5, e5, hk⟩ := exI_v hk
  obtain ⟨u6, e6, hk⟩ := exI_v hk
  obtain ⟨u7, e7, hk⟩ := exI_v hk
  obtain ⟨u8, e8, hk⟩ := exI_v hk
  obtain ⟨u9, e9, hk⟩ := exS_v hk
  obtain ⟨u10, e10, hk⟩ := exS_v hk
  obtain rfl := arr10 hl0 e1 e2 e3 e4 e5 e6 e7 e8 e9 e10
  obtain ⟨v1, t1, hk⟩ := exV_v hk
  obtain ⟨cs11, f11, hk⟩ := exAg_v hk; cases f11; obtain ⟨hl11, hk⟩ := beq_v hk
  obtain ⟨u12, e12, hk⟩ := exI_v hk
  obtain ⟨u13, e13, hk⟩ := exI_v hk
  obtain ⟨u14, e14, hk⟩ := exI_v hk
  obtain rfl := arr3 hl11 e12 e13 e14
  obtain rfl := arr2 hl t0 t1
  exact ⟨_, h', hk, hs⟩
/-! F61 duffel/record.ReadCentral -/
def CF_record_ReadCentral (F_record_sign : Option Addr → Int → GH → (Int → GH → Option β) → Option β) (F_field_Cursor_U16 : Option Addr → GH → (Int → GH → Option β) → Option β) (F_record_head : Option Addr → GH → (Int → Int → Int → Int → Int → Int → Int → Int → Sl → Sl → Int → Int → Int → GH → Option β) → Option β) (F_field_Cursor_U32 : Option Addr → GH → (Int → GH → Option β) → Option β) (F_field_Cursor_Bytes : Option Addr → Int → GH → (Sl → GH → Option β) → Option β) (F_field_Cursor_Err : Option Addr → GH → (Int → GH → Option β) → Option β) : Orc β := fun f args h K => bif Nat.beq f 89 then (match args with | [.pointer p1, .int .u32 p2] => F_record_sign p1 p2 h (fun q9 h' => K (Value.int .i64 q9) h') | _ => none) else (bif Nat.beq f 84 then (match args with | [.pointer p1] => F_field_Cursor_U16 p1 h (fun q4 h' => K (Value.int .i64 q4) h') | _ => none) else (bif Nat.beq f 91 then (match args with | [.pointer p1] => F_record_head p1 h (fun q57 q58 q59 q60 q61 q62 q63 q64 q65 q66 q67 q68 q69 h' => K (Value.tuple #[Value.agg #[Value.int .i64 q57, Value.int .i64 q58, Value.int .i64 q59, Value.int .i64 q60, Value.int .i64 q61, Value.int .u32 q62, Value.int .u32 q63, Value.int .u32 q64, Value.slice q65.a q65.n q65.c, Value.slice q66.a q66.n q66.c], Value.agg #[Value.int .i64 q67, Value.int .i64 q68, Value.int .i64 q69]]) h') | _ => none) else (bif Nat.beq f 90 then (match args with | [.pointer p1] => F_field_Cursor_U32 p1 h (fun q4 h' => K (Value.int .u32 q4) h') | _ => none) else (bif Nat.beq f 66 then (match args with | [.pointer p1, .int .i64 p2] => F_field_Cursor_Bytes p1 p2 h (fun q7 h' => K (Value.slice q7.a q7.n q7.c) h') | _ => none) else (bif Nat.beq f 67 then (match args with | [.pointer p1] => F_field_Cursor_Err p1 h (fun q8 h' => K (Value.int .i64 q8) h') | _ => none) else none)))))
def HF_record_ReadCentral : Hints := ⟨[], [], []⟩
noncomputable def G_record_ReadCentral (F_record_sign : Option Addr → Int → GH → (Int → GH → Option β) → Option β) (F_field_Cursor_U16 : Option Addr → GH → (Int → GH → Option β) → Option β) (F_record_head : Option Addr → GH → (Int → Int → Int → Int → Int → Int → Int → Int → Sl → Sl → Int → Int → Int → GH → Option β) → Option β) (F_field_Cursor_U32 : Option Addr → GH → (Int → GH → Option β) → Option β) (F_field_Cursor_Bytes : Option Addr → Int → GH → (Sl → GH → Option β) → Option β) (F_field_Cursor_Err : Option Addr → GH → (Int → GH → Option β) → Option β) (R : Nat) (a1 : Option Addr) (h : GH) (K : Int → Int → Int → Int → Int → Int → Int → Int → Sl → Sl → Int → Int → Int → Int → Int → Sl → Int → GH → Option β) : Option β := gfun Try.prog (CF_record_ReadCentral F_record_sign F_field_Cursor_U16 F_record_head F_field_Cursor_U32 F_field_Cursor_Bytes F_field_Cursor_Err) HF_record_ReadCentral R Try.f61 [Value.pointer a1] h (fun v h' => exTup 2 v fun vs => exV (nth vs 0) fun v0 => exAg v0 fun c155 => (bif Nat.beq c155.length 16 then exI .i64 (nth c155 (0)) fun u156 => exI .i64 (nth c155 (0 + 1)) fun u157 => exI .i64 (nth c155 (0 + 1 + 1)) fun u158 => exI .i64 (nth c155 (0 + 1 + 1 + 1)) fun u159 => exI .i64 (nth c155 (0 + 1 + 1 + 1 + 1)) fun u160 => exI .u32 (nth c155 (0 + 1 + 1 + 1 + 1 + 1)) fun u161 => exI .u32 (nth c155 (0 + 1 + 1 + 1 + 1 + 1 + 1)) fun u162 => exI .u32 (nth c155 (0 + 1 + 1 + 1 + 1 + 1 + 1 + 1)) fun u163 => exS (nth c155 (0 + 1 + 1 + 1 + 1 + 1 + 1 + 1 + 1)) fun u164 => exS (nth c155 (0 + 1 + 1 + 1 + 1 + 1 + 1 + 1 + 1 + 1)) fun u165 => exI .i64 (nth c155 (0 + 1 + 1 + 1 + 1 + 1 + 1 + 1 + 1 + 1 + 1)) fun u166 => exI .i64 (nth c155 (0 + 1 + 1 + 1 + 1 + 1 + 1 + 1 + 1 + 1 + 1 + 1)) fun u167 => exI .i64 (nth c155 (0 + 1 + 1 + 1 + 1 + 1 + 1 + 1 + 1 + 1 + 1 + 1 + 1)) fun u168 => exI .u32 (nth c155 (0 + 1 + 1 + 1 + 1 + 1 + 1 + 1 + 1 + 1 + 1 + 1 + 1 + 1)) fun u169 => exI .u32 (nth c155 (0 + 1 + 1 + 1 + 1 + 1 + 1 + 1 + 1 + 1 + 1 + 1 + 1 + 1 + 1)) fun u170 => exS (nth c155 (0 + 1 + 1 + 1 + 1 + 1 + 1 + 1 + 1 + 1 + 1 + 1 + 1 + 1 + 1 + 1)) fun u171 => exV (nth vs 1) fun v1 => exI .i64 (some v1) fun u172 => K u156 u157 u158 u159 u160 u161 u162 u163 u164 u165 u166 u167 u168 u169 u170 u171 u172 h' else none))
set_option maxRecDepth 100000 in
theorem F_record_ReadCentral_gen (F_record_sign : Option Addr → Int → GH → (Int → GH → Option β) → Option β) (F_field_Cursor_U16 : Option Addr → GH → (Int → GH → Option β) → Option β) (F_record_head : Option Addr → GH → (Int → Int → Int → Int → Int → Int → Int → Int → Sl → Sl → Int → Int → Int → GH → Option β) → Option β) (F_field_Cursor_U32 : Option Addr → GH → (Int → GH → Option β) → Option β) (F_field_Cursor_Bytes : Option Addr → Int → GH → (Sl → GH → Option β) → Option β) (F_field_Cursor_Err : Option Addr → GH → (Int → GH → Option β) → Option β) (R : Nat) (a1 : Option Addr) (h : GH) (K : Int → Int → Int → Int → Int → Int → Int → Int → Sl → Sl → Int → Int → Int → Int → Int → Sl → Int → GH → Option β) : G_record_ReadCentral F_record_sign F_field_Cursor_U16 F_record_head F_field_Cursor_U32 F_field_Cursor_Bytes F_field_Cursor_Err R a1 h K =
    gnew [Value.int .i64 0, Value.int .i64 0, Value.int .i64 0, Value.int .i64 0, Value.int .i64 0, Value.int .u32 0, Value.int .u32 0, Value.int .u32 0, Value.slice none 0 0, Value.slice none 0 0, Value.int .i64 0, Value.int .i64 0, Value.int .i64 0, Value.int .u32 0, Value.int .u32 0, Value.slice none 0 0] 0 h fun g2 h3 => F_record_sign a1 33639248 h3 fun r4 h5 => (bif r4 != 0 then gput g2 (0) [Value.int .i64 0, Value.int .i64 0, Value.int .i64 0, Value.int .i64 0, Value.int .i64 0, Value.int .u32 0, Value.int .u32 0, Value.int .u32 0, Value.slice none 0 0, Value.slice none 0 0, Value.int .i64 0, Value.int .i64 0, Value.int .i64 0, Value.int .u32 0, Value.int .u32 0, Value.slice none 0 0] h5 fun h6 => exI .i64 (h6.cell ⟨g2, 0, none⟩) fun x7 => exI .i64 (h6.cell ⟨g2, 0 + 1, none⟩) fun x8 => exI .i64 (h6.cell ⟨g2, 0 + 1 + 1, none⟩) fun x9 => exI .i64 (h6.cell ⟨g2, 0 + 1 + 1 + 1, none⟩) fun x10 => exI .i64 (h6.cell ⟨g2, 0 + 1 + 1 + 1 + 1, none⟩) fun x11 => exI .u32 (h6.cell ⟨g2, 0 + 1 + 1 + 1 + 1 + 1, none⟩) fun x12 => exI .u32 (h6.cell ⟨g2, 0 + 1 + 1 + 1 + 1 + 1 + 1, none⟩) fun x13 => exI .u32 (h6.cell ⟨g2, 0 + 1 + 1 + 1 + 1 + 1 + 1 + 1, none⟩) fun x14 => exS (h6.cell ⟨g2, 0 + 1 + 1 + 1 + 1 + 1 + 1 + 1 + 1, none⟩) fun x15 => exS (h6.cell ⟨g2, 0 + 1 + 1 + 1 + 1 + 1 + 1 + 1 + 1 + 1, none⟩) fun x16 => exI .i64 (h6.cell ⟨g2, 0 + 1 + 1 + 1 + 1 + 1 + 1 + 1 + 1 + 1 + 1, none⟩) fun x17 => exI .i64 (h6.cell ⟨g2, 0 + 1 + 1 + 1 + 1 + 1 + 1 + 1 + 1 + 1 + 1 + 1, none⟩) fun x18 => exI .i64 (h6.cell ⟨g2, 0 + 1 + 1 + 1 + 1 + 1 + 1 + 1 + 1 + 1 + 1 + 1 + 1, none⟩) fun x19 => exI .u32 (h6.cell ⟨g2, 0 + 1 + 1 + 1 + 1 + 1 + 1 + 1 + 1 + 1 + 1 + 1 + 1 + 1, none⟩) fun x20 => exI .u32 (h6.cell ⟨g2, 0 + 1 + 1 + 1 + 1 + 1 + 1 + 1 + 1 + 1 + 1 + 1 + 1 + 1 + 1, none⟩) fun x21 => exS (h6.cell ⟨g2, 0 + 1 + 1 + 1 + 1 + 1 + 1 + 1 + 1 + 1 + 1 + 1 + 1 + 1 + 1 + 1, none⟩) fun x22 => K x7 x8 x9 x10 x11 x12 x13 x14 x15 x16 x17 x18 x19 x20 x21 x22 r4 h6 else F_field_Cursor_U16 a1 h5 fun r23 h24 => gnew [Value.int .i64 0, Value.int .i64 0, Value.int .i64 0, Value.int .i64 0, Value.int .i64 0, Value.int .u32 0, Value.int .u32 0, Value.int .u32 0, Value.slice none 0 0, Value.slice none 0 0, Value.int .i64 0, Value.int .i64 0, Value.int .i64 0, Value.int .u32 0, Value.int .u32 0, Value.slice none 0 0] 0 h24 fun g25 h26 => gput g25 (0) [Value.int .i64 0, Value.int .i64 0, Value.int .i64 0, Value.int .i64 0, Value.int .i64 0, Value.int .u32 0, Value.int .u32 0, Value.int .u32 0, Value.slice none 0 0, Value.slice none 0 0, Value.int .i64 r23, Value.int .i64 0, Value.int .i64 0, Value.int .u32 0, Value.int .u32 0, Value.slice none 0 0] h26 fun h27 => F_record_head a1 h27 fun r28 r29 r30 r31 r32 r33 r34 r35 r36 r37 r38 r39 r40 h41 => gnew [Value.int .i64 0, Value.int .i64 0, Value.int .i64 0, Value.int .i64 0, Value.int .i64 0, Value.int .u32 0, Value.int .u32 0, Value.int .u32 0, Value.slice none 0 0, Value.slice none 0 0] 0 h41 fun g42 h43 => gnew [Value.int .i64 0, Value.int .i64 0, Value.int .i64 0] 0 h43 fun g44 h45 => gput g42 (0) [Value.int .i64 r28, Value.int .i64 r29, Value.int .i64 r30, Value.int .i64 r31, Value.int .i64 r32, Value.int .u32 r33, Value.int .u32 r34, Value.int .u32 r35, Value.slice r36.a r36.n r36.c, Value.slice r37.a r37.n r37.c] h45 fun h46 => gput g44 (0) [Value.int .i64 r38, Value.int .i64 r39, Value.int .i64 r40] h46 fun h47 => F_field_Cursor_U16 a1 h47 fun r48 h49 => gput g44 (0 + 2) [Value.int .i64 r48] h49 fun h50 => F_field_Cursor_U16 a1 h50 fun r51 h52 => F_field_Cursor_U16 a1 h52 fun r53 h54 => F_field_Cursor_U32 a1 h54 fun r55 h56 => F_field_Cursor_U32 a1 h56 fun r57 h58 => gput g25 (0 + 11) [Value.int .i64 r51] h58 fun h59 => gput g25 (0 + 12) [Value.int .i64 r53] h59 fun h60 => gput g25 (0 + 13) [Value.int .u32 r55] h60 fun h61 => gput g25 (0 + 14) [Value.int .u32 r57] h61 fun h62 => exI .i64 (h62.cell ⟨g44, 0 + 0, none⟩) fun x63 => F_field_Cursor_Bytes a1 x63 h62 fun r64 h65 => exI .i64 (h65.cell ⟨g44, 0 + 1, none⟩) fun x66 => F_field_Cursor_Bytes a1 x66 h65 fun r67 h68 => exI .i64 (h68.cell ⟨g44, 0 + 2, none⟩) fun x69 => F_field_Cursor_Bytes a1 x69 h68 fun r70 h71 => gput g42 (0 + 8) [Value.slice r64.a r64.n r64.c] h71 fun h72 => gput g42 (0 + 9) [Value.slice r67.a r67.n r67.c] h72 fun h73 => gput g25 (0 + 15) [Value.slice r70.a r70.n r70.c] h73 fun h74 => (bif sameAt g44 (0 + 2) 1 h65 h68 then (bif sameAt g44 (0 + 2) 1 h62 h65 then (bif sameAt g44 (0 + 1) 1 h62 h65 then exI .i64 (h74.cell ⟨g42, 0, none⟩) fun x75 => exI .i64 (h74.cell ⟨g42, 0 + 1, none⟩) fun x76 => exI .i64 (h74.cell ⟨g42, 0 + 1 + 1, none⟩) fun x77 => exI .i64 (h74.cell ⟨g42, 0 + 1 + 1 + 1, none⟩) fun x78 => exI .i64 (h74.cell ⟨g42, 0 + 1 + 1 + 1 + 1, none⟩) fun x79 => exI .u32 (h74.cell ⟨g42, 0 + 1 + 1 + 1 + 1 + 1, none⟩) fun x80 => exI .u32 (h74.cell ⟨g42, 0 + 1 + 1 + 1 + 1 + 1 + 1, none⟩) fun x81 => exI .u32 (h74.cell ⟨g42, 0 + 1 + 1 + 1 + 1 + 1 + 1 + 1, none⟩) fun x82 => exS (h74.cell ⟨g42, 0 + 1 + 1 + 1 + 1 + 1 + 1 + 1 + 1, none⟩) fun x83 => exS (h74.cell ⟨g42, 0 + 1 + 1 + 1 + 1 + 1 + 1 + 1 + 1 + 1, none⟩) fun x84 => gput g25 (0 + 0) [Value.int .i64 x75, Value.int .i64 x76, Value.int .i64 x77, Value.int .i64 x78, Value.int .i64 x79, Value.int .u32 x80, Value.int .u32 x81, Value.int .u32 x82, Value.slice x83.a x83.n x83.c, Value.slice x84.a x84.n x84.c] h74 fun h85 => F_field_Cursor_Err a1 h85 fun r86 h87 => (bif r86 != 0 then gput g2 (0) [Value.int .i64 0, Value.int .i64 0, Value.int .i64 0, Value.int .i64 0, Value.int .i64 0, Value.int .u32 0, Value.int .u32 0, Value.int .u32 0, Value.slice none 0 0, Value.slice none 0 0, Value.int .i64 0, Value.int .i64 0, Value.int .i64 0, Value.int .u32 0, Value.int .u32 0, Value.slice none 0 0] h87 fun h88 => exI .i64 (h88.cell ⟨g2, 0, none⟩) fun x89 => exI .i64 (h88.cell ⟨g2, 0 + 1, none⟩) fun x90 => exI .i64 (h88.cell ⟨g2, 0 + 1 + 1, none⟩) fun x91 => exI .i64 (h88.cell ⟨g2, 0 + 1 + 1 + 1, none⟩) fun x92 => exI .i64 (h88.cell ⟨g2, 0 + 1 + 1 + 1 + 1, none⟩) fun x93 => exI .u32 (h88.cell ⟨g2, 0 + 1 + 1 + 1 + 1 + 1, none⟩) fun x94 => exI .u32 (h88.cell ⟨g2, 0 + 1 + 1 + 1 + 1 + 1 + 1, none⟩) fun x95 => exI .u32 (h88.cell ⟨g2, 0 + 1 + 1 + 1 + 1 + 1 + 1 + 1, none⟩) fun x96 => exS (h88.cell ⟨g2, 0 + 1 + 1 + 1 + 1 + 1 + 1 + 1 + 1, none⟩) fun x97 => exS (h88.cell ⟨g2, 0 + 1 + 1 + 1 + 1 + 1 + 1 + 1 + 1 + 1, none⟩) fun x98 => exI .i64 (h88.cell ⟨g2, 0 + 1 + 1 + 1 + 1 + 1 + 1 + 1 + 1 + 1 + 1, none⟩) fun x99 => exI .i64 (h88.cell ⟨g2, 0 + 1 + 1 + 1 + 1 + 1 + 1 + 1 + 1 + 1 + 1 + 1, none⟩) fun x100 => exI .i64 (h88.cell ⟨g2, 0 + 1 + 1 + 1 + 1 + 1 + 1 + 1 + 1 + 1 + 1 + 1 + 1, none⟩) fun x101 => exI .u32 (h88.cell ⟨g2, 0 + 1 + 1 + 1 + 1 + 1 + 1 + 1 + 1 + 1 + 1 + 1 + 1 + 1, none⟩) fun x102 => exI .u32 (h88.cell ⟨g2, 0 + 1 + 1 + 1 + 1 + 1 + 1 + 1 + 1 + 1 + 1 + 1 + 1 + 1 + 1, none⟩) fun x103 => exS (h88.cell ⟨g2, 0 + 1 + 1 + 1 + 1 + 1 + 1 + 1 + 1 + 1 + 1 + 1 + 1 + 1 + 1 + 1, none⟩) fun x104 => K x89 x90 x91 x92 x93 x94 x95 x96 x97 x98 x99 x100 x101 x102 x103 x104 r86 h88 else exI .i64 (h87.cell ⟨g25, 0, none⟩) fun x105 => exI .i64 (h87.cell ⟨g25, 0 + 1, none⟩) fun x106 => exI .i64 (h87.cell ⟨g25, 0 + 1 + 1, none⟩) fun x107 => exI .i64 (h87.cell ⟨g25, 0 + 1 + 1 + 1, none⟩) fun x108 => exI .i64 (h87.cell ⟨g25, 0 + 1 + 1 + 1 + 1, none⟩) fun x109 => exI .u32 (h87.cell ⟨g25, 0 + 1 + 1 + 1 + 1 + 1, none⟩) fun x110 => exI .u32 (h87.cell ⟨g25, 0 + 1 + 1 + 1 + 1 + 1 + 1, none⟩) fun x111 => exI .u32 (h87.cell ⟨g25, 0 + 1 + 1 + 1 + 1 + 1 + 1 + 1, none⟩) fun x112 => exS (h87.cell ⟨g25, 0 + 1 + 1 + 1 + 1 + 1 + 1 + 1 + 1, none⟩) fun x113 => exS (h87.cell ⟨g25, 0 + 1 + 1 + 1 + 1 + 1 + 1 + 1 + 1 + 1, none⟩) fun x114 => exI .i64 (h87.cell ⟨g25, 0 + 1 + 1 + 1 + 1 + 1 + 1 + 1 + 1 + 1 + 1, none⟩) fun x115 => exI .i64 (h87.cell ⟨g25, 0 + 1 + 1 + 1 + 1 + 1 + 1 + 1 + 1 + 1 + 1 + 1, none⟩) fun x116 => exI .i64 (h87.cell ⟨g25, 0 + 1 + 1 + 1 + 1 + 1 + 1 + 1 + 1 + 1 + 1 + 1 + 1, none⟩) fun x117 => exI .u32 (h87.cell ⟨g25, 0 + 1 + 1 + 1 + 1 + 1 + 1 + 1 + 1 + 1 + 1 + 1 + 1 + 1, none⟩) fun x118 => exI .u32 (h87.cell ⟨g25, 0 + 1 + 1 + 1 + 1 + 1 + 1 + 1 + 1 + 1 + 1 + 1 + 1 + 1 + 1, none⟩) fun x119 => exS (h87.cell ⟨g25, 0 + 1 + 1 + 1 + 1 + 1 + 1 + 1 + 1 + 1 + 1 + 1 + 1 + 1 + 1 + 1, none⟩) fun x120 => gput g2 (0) [Value.int .i64 x105, Value.int .i64 x106, Value.int .i64 x107, Value.int .i64 x108, Value.int .i64 x109, Value.int .u32 x110, Value.int .u32 x111, Value.int .u32 x112, Value.slice x113.a x113.n x113.c, Value.slice x114.a x114.n x114.c, Value.int .i64 x115, Value.int .i64 x116, Value.int .i64 x117, Value.int .u32 x118, Value.int .u32 x119, Value.slice x120.a x120.n x120.c] h87 fun h121 => exI .i64 (h121.cell ⟨g2, 0, none⟩) fun x122 => exI .i64 (h121.cell ⟨g2, 0 + 1, none⟩) fun x123 => exI .i64 (h121.cell ⟨g2, 0 + 1 + 1, none⟩) fun x124 => exI .i64 (h121.cell ⟨g2, 0 + 1 + 1 + 1, none⟩) fun x125 => exI .i64 (h121.cell ⟨g2, 0 + 1 + 1 + 1 + 1, none⟩) fun x126 => exI .u32 (h121.cell ⟨g2, 0 + 1 + 1 + 1 + 1 + 1, none⟩) fun x127 => exI .u32 (h121.cell ⟨g2, 0 + 1 + 1 + 1 + 1 + 1 + 1, none⟩) fun x128 => exI .u32 (h121.cell ⟨g2, 0 + 1 + 1 + 1 + 1 + 1 + 1 + 1, none⟩) fun x129 => exS (h121.cell ⟨g2, 0 + 1 + 1 + 1 + 1 + 1 + 1 + 1 + 1, none⟩) fun x130 => exS (h121.cell ⟨g2, 0 + 1 + 1 + 1 + 1 + 1 + 1 + 1 + 1 + 1, none⟩) fun x131 => exI .i64 (h121.cell ⟨g2, 0 + 1 + 1 + 1 + 1 + 1 + 1 + 1 + 1 + 1 + 1, none⟩) fun x132 => exI .i64 (h121.cell ⟨g2, 0 + 1 + 1 + 1 + 1 + 1 + 1 + 1 + 1 + 1 + 1 + 1, none⟩) fun x133 => exI .i64 (h121.cell ⟨g2, 0 + 1 + 1 + 1 + 1 + 1 + 1 + 1 + 1 + 1 + 1 + 1 + 1, none⟩) fun x134 => exI .u32 (h121.cell ⟨g2, 0 + 1 + 1 + 1 + 1 + 1 + 1 + 1 + 1 + 1 + 1 + 1 + 1 + 1, none⟩) fun x135 => exI .u32 (h121.cell ⟨g2, 0 + 1 + 1 + 1 + 1 + 1 + 1 + 1 + 1 + 1 + 1 + 1 + 1 + 1 + 1, none⟩) fun x136 => exS (h121.cell ⟨g2, 0 + 1 + 1 + 1 + 1 + 1 + 1 + 1 + 1 + 1 + 1 + 1 + 1 + 1 + 1 + 1, none⟩) fun x137 => K x122 x123 x124 x125 x126 x127 x128 x129 x130 x131 x132 x133 x134 x135 x136 x137 0 h121) else none) else none) else none)) := by kernel_rfl
noncomputable def F_record_ReadCentral (R : Nat) (a1 : Option Addr) (h : GH) (K : Int → Int → Int → Int → Int → Int → Int → Int → Sl → Sl → Int → Int → Int → Int → Int → Sl → Int → GH → Option β) : Option β := G_record_ReadCentral (F_record_sign R) (F_field_Cursor_U16 R) (F_record_head R) (F_field_Cursor_U32 R) (F_field_Cursor_Bytes R) (F_field_Cursor_Err R) R a1 h K
set_option maxRecDepth 100000 in
theorem CF_record_ReadCentral_sim {R : Nat} : SimOrc Try.prog (CF_record_ReadCentral (F_record_sign R) (F_field_Cursor_U16 R) (F_record_head R) (F_field_Cursor_U32 R) (F_field_Cursor_Bytes R) (F_field_Cursor_Err R) (β := β)) := by
  intro f args h K r hc
  unfold CF_record_ReadCentral at hc
  cases hb : Nat.beq f 89 with
  | true =>
    rw [hb] at hc
    simp only [cond_true] at hc
    obtain rfl := Nat.eq_of_beq_eq_true hb
    split at hc
    · exact any_call (F_record_sign_sim (K := K) hc)
    · cases hc
  | false =>
  rw [hb] at hc
  simp only [cond_false] at hc
  cases hb : Nat.beq f 84 with
  | true =>
    rw [hb] at hc
    simp only [cond_true] at hc
    obtain rfl := Nat.eq_of_beq_eq_true hb
    split at hc
    · exact any_call (F_field_Cursor_U16_sim (K := K) hc)
    · cases hc
  | false =>
  rw [hb] at hc
  simp only [cond_false] at hc
  cases hb : Nat.beq f 91 with
  | true =>
    rw [hb] at hc
    simp only [cond_true] at hc
    obtain rfl := Nat.eq_of_beq_eq_true hb
    split at hc
    · exact any_call (F_record_head_sim (K := K) hc)
    · cases hc
  | false =>
  rw [hb] at hc
  simp only [cond_false] at hc
  cases hb : Nat.beq f 90 with
  | true =>
    rw [hb] at hc
    simp only [cond_true] at hc
    obtain rfl := Nat.eq_of_beq_eq_true hb
    split at hc
    · exact any_call (F_field_Cursor_U32_sim (K := K) hc)
    · cases hc
  | false =>
  rw [hb] at hc
  simp only [cond_false] at hc
  cases hb : Nat.beq f 66 with
  | true =>
    rw [hb] at hc
    simp only [cond_true] at hc
    obtain rfl := Nat.eq_of_beq_eq_true hb
    split at hc
    · exact any_call (F_field_Cursor_Bytes_sim (K := K) hc)
    · cases hc
  | false =>
  rw [hb] at hc
  simp only [cond_false] at hc
  cases hb : Nat.beq f 67 with
  | true =>
    rw [hb] at hc
    simp only [cond_true] at hc
    obtain rfl := Nat.eq_of_beq_eq_true hb
    split at hc
    · exact any_call (F_field_Cursor_Err_sim (K := K) hc)
    · cases hc
  | false =>
  rw [hb] at hc
  simp only [cond_false] at hc
  cases hc
set_option maxRecDepth 100000 in
theorem F_record_ReadCentral_sim {R : Nat} {r : β} {a1 : Option Addr} {h : GH} {K : Value → GH → Option β} (hc : F_record_ReadCentral R a1 h (fun q0 q1 q2 q3 q4 q5 q6 q7 q8 q9 q10 q11 q12 q13 q14 q15 q16 h' => K (Value.tuple #[Value.agg #[Value.int .i64 q0, Value.int .i64 q1, Value.int .i64 q2, Value.int .i64 q3, Value.int .i64 q4, Value.int .u32 q5, Value.int .u32 q6, Value.int .u32 q7, Value.slice q8.a q8.n q8.c, Value.slice q9.a q9.n q9.c, Value.int .i64 q10, Value.int .i64 q11, Value.int .i64 q12, Value.int .u32 q13, Value.int .u32 q14, Value.slice q15.a q15.n q15.c], Value.int .i64 q16]) h') = some r) : ∃ v h', K v h' = some r ∧ CallSim Try.prog 61 [Value.pointer a1] h v h' := by
  unfold F_record_ReadCentral G_record_ReadCentral at hc
  obtain ⟨v, h', hk, hs⟩ := gfun_sim (CF_record_ReadCentral_sim (R := R)) mixed_ok (fun f h => by cases h) Try.func61 (by kernel_rfl) hc
  obtain ⟨vs, rfl, hl, hk⟩ := exTup_v hk
  obtain ⟨v0, t0, hk⟩ := exV_v hk
  obtain ⟨cs0, f0, hk⟩ := exAg_v hk; cases f0; obtain ⟨hl0, hk⟩ := beq_v hk
  obtain ⟨u1, e1, hk⟩ := exI_v hk
  obtain ⟨u2, e2, hk⟩ := exI_v hk
  obtain ⟨u3, e3, hk⟩ := exI_v hk
  obtain ⟨u4, e4, hk⟩ := exI_v hk
  obtain ⟨u5, e5, hk⟩ := exI_v hk
  obtain ⟨u6, e6, hk⟩ := exI_v hk
  obtain ⟨u7, e7, hk⟩ := exI_v hk
  obtain ⟨u8, e8, hk⟩ := exI_v hk
  obtain ⟨u9, e9, hk⟩ := exS_v hk
  obtain ⟨u10, e10, hk⟩ := exS_v hk
  obtain ⟨u11, e11, hk⟩ := exI_v hk
  obtain ⟨u12, e12, hk⟩ := exI_v hk
  obtain ⟨u13, e13, hk⟩ := exI_v hk
  obtain ⟨u14, e14, hk⟩ := exI_v hk
  obtain ⟨u15, e15, hk⟩ := exI_v hk
  obtain ⟨u16, e16, hk⟩ := exS_v hk
  obtain rfl := arr16 hl0 e1 e2 e3 e4 e5 e6 e7 e8 e9 e10 e11 e12 e13 e14 e15 e16
  obtain ⟨v1, t1, hk⟩ := exV_v hk
  obtain ⟨u17, e17, hk⟩ := exI_v hk; cases e17
  obtain rfl := arr2 hl t0 t1
  exact ⟨_, h', hk, hs⟩
/-! F38 (*duffel/field.Cursor).Left -/
def CF_field_Cursor_Left (F_field_Cursor_Err : Option Addr → GH → (Int → GH → Option β) → Option β) : Orc β := fun f args h K => bif Nat.beq f 67 then (match args with | [.pointer p1] => F_field_Cursor_Err p1 h (fun q8 h' => K (Value.int .i64 q8) h') | _ => none) else none
def HF_field_Cursor_Left : Hints := ⟨[], [], []⟩
noncomputable def G_field_Cursor_Left (F_field_Cursor_Err : Option Addr → GH → (Int → GH → Option β) → Option β) (R : Nat) (a1 : Option Addr) (h : GH) (K : Int → GH → Option β) : Option β := gfun Try.prog (CF_field_Cursor_Left F_field_Cursor_Err) HF_field_Cursor_Left R Try.f38 [Value.pointer a1] h (fun v h' => exI .i64 (some v) fun u11 => K u11 h')
set_option maxRecDepth 100000 in
theorem F_field_Cursor_Left_gen (F_field_Cursor_Err : Option Addr → GH → (Int → GH → Option β) → Option β) (R : Nat) (a1 : Option Addr) (h : GH) (K : Int → GH → Option β) : G_field_Cursor_Left F_field_Cursor_Err R a1 h K =
    F_field_Cursor_Err a1 h fun r2 h3 => (bif r2 != 0 then K 0 h3 else exA a1 fun g4 o5 => exS (h3.cell ⟨g4, o5 + 0, none⟩) fun x6 => exA a1 fun g7 o8 => exI .i64 (h3.cell ⟨g7, o8 + 1, none⟩) fun x9 => K (IntKind.wrap .i64 (((x6.n : Nat) : Int) - x9)) h3) := by kernel_rfl
noncomputable def F_field_Cursor_Left (R : Nat) (a1 : Option Addr) (h : GH) (K : Int → GH → Option β) : Option β := G_field_Cursor_Left (F_field_Cursor_Err R) R a1 h K
set_option maxRecDepth 100000 in
theorem CF_field_Cursor_Left_sim {R : Nat} : SimOrc Try.prog (CF_field_Cursor_Left (F_field_Cursor_Err R) (β := β)) := by
  intro f args h K r hc
  unfold CF_field_Cursor_Left at hc
  cases hb : Nat.beq f 67 with
  | true =>
    rw [hb] at hc
    simp only [cond_true] at hc
    obtain rfl := Nat.eq_of_beq_eq_true hb
    split at hc
    · exact any_call (F_field_Cursor_Err_sim (K := K) hc)
    · cases hc
  | false =>
  rw [hb] at hc
  simp only [cond_false] at hc
  cases hc
set_option maxRecDepth 100000 in
theorem F_field_Cursor_Left_sim {R : Nat} {r : β} {a1 : Option Addr} {h : GH} {K : Value → GH → Option β} (hc : F_field_Cursor_Left R a1 h (fun q0 h' => K (Value.int .i64 q0) h') = some r) : ∃ v h', K v h' = some r ∧ CallSim Try.prog 38 [Value.pointer a1] h v h' := by
  unfold F_field_Cursor_Left G_field_Cursor_Left at hc
  obtain ⟨v, h', hk, hs⟩ := gfun_sim (CF_field_Cursor_Left_sim (R := R)) mixed_ok (fun f h => by cases h) Try.func38 (by kernel_rfl) hc
  obtain ⟨u0, e0, hk⟩ := exI_v hk; cases e0
  exact ⟨_, h', hk, hs⟩
/-! F25 duffel/denote.halves -/
def CF_denote_halves  : Orc β := fun f args h K => none
def HF_denote_halves : Hints := ⟨[(2, [5, 6, 7], [(0, [])], some [(2, .ty 4)])], [], []⟩
noncomputable def BF_denote_halves : Code := match Try.f25.body with | some c => c | none => .skip
noncomputable def F_denote_halves_l0  (R : Nat) (n : Nat) (y2 : Sl) (y3 : Int) (y4 : Int) (h : GH) (K0 : GH → Option β) (Kr : Bool → GH → Option β) : Option β := gloop (gcode Try.prog (CF_denote_halves ) Try.f25.ntmps HF_denote_halves R (at_ [true, false, true, false, false] BF_denote_halves)) [5, 6, 7] n [(5, Value.slice y2.a y2.n y2.c), (6, Value.int .i64 y3), (7, Value.int .i64 y4)] h (fun i e' h' => bif Nat.beq i 0 then (K0 h') else none) (fun e' h' => exB (some (e'.get 2)) fun u13 => Kr u13 h')
set_option maxRecDepth 100000 in
theorem F_denote_halves_l0_succ  (R : Nat) (n : Nat) (y2 : Sl) (y3 : Int) (y4 : Int) (h : GH) (K0 : GH → Option β) (Kr : Bool → GH → Option β) : F_denote_halves_l0  R (n + 1) y2 y3 y4 h K0 Kr =
    (bif decide (y4 < y3) then exA y2.a fun g6 o7 => within y4 y2.n (exI .i64 (h.cell ⟨g6, o7 + y4.toNat * 1, none⟩) fun x8 => (bif decide (x8 < 0) then Kr false h else (bif decide (x8 > 65535) then Kr false h else F_denote_halves_l0 R n y2 y3 (IntKind.wrap .i64 (y4 + 1)) h K0 Kr))) else K0 h) := by kernel_rfl
noncomputable def G_denote_halves  (R : Nat) (a1 : Sl) (h : GH) (K : Bool → GH → Option β) : Option β := gfun Try.prog (CF_denote_halves ) HF_denote_halves R Try.f25 [Value.slice a1.a a1.n a1.c] h (fun v h' => exB (some v) fun u14 => K u14 h')
set_option maxRecDepth 100000 in
theorem F_denote_halves_gen  (R : Nat) (a1 : Sl) (h : GH) (K : Bool → GH → Option β) : G_denote_halves  R a1 h K =
    F_denote_halves_l0 R R a1 ((a1.n : Nat) : Int) 0 h (fun h9 => K true h9) (fun w10 h11 => K w10 h11) := by kernel_rfl
noncomputable def F_denote_halves (R : Nat) (a1 : Sl) (h : GH) (K : Bool → GH → Option β) : Option β := G_denote_halves  R a1 h K
theorem CF_denote_halves_sim : SimOrc Try.prog (CF_denote_halves (β := β)) := by
  intro f args h K r hc
  cases hc
set_option maxRecDepth 100000 in
theorem F_denote_halves_sim {R : Nat} {r : β} {a1 : Sl} {h : GH} {K : Value → GH → Option β} (hc : F_denote_halves R a1 h (fun q0 h' => K (Value.bool q0) h') = some r) : ∃ v h', K v h' = some r ∧ CallSim Try.prog 25 [Value.slice a1.a a1.n a1.c] h v h' := by
  unfold F_denote_halves G_denote_halves at hc
  obtain ⟨v, h', hk, hs⟩ := gfun_sim CF_denote_halves_sim mixed_ok (fun f h => by cases h) Try.func25 (by kernel_rfl) hc
  obtain ⟨u0, e0, hk⟩ := exB_v hk; cases e0
  exact ⟨_, h', hk, hs⟩
/-! F53 duffel/method.known -/
def CF_method_known  : Orc β := fun f args h K => none
def HF_method_known : Hints := ⟨[], [], []⟩
noncomputable def G_method_known  (R : Nat) (a1 : Int) (h : GH) (K : Bool → GH → Option β) : Option β := gfun Try.prog (CF_method_known ) HF_method_known R Try.f53 [Value.int .i64 a1] h (fun v h' => exB (some v) fun u3 => K u3 h')
set_option maxRecDepth 100000 in
theorem F_method_known_gen  (R : Nat) (a1 : Int) (h : GH) (K : Bool → GH → Option β) : G_method_known  R a1 h K =
    (bif decide (a1 ≥ 0) then (bif decide (a1 ≤ 6) then K true h else (bif a1 == 8 then K true h else K (a1 == 9) h)) else (bif a1 == 8 then K true h else K (a1 == 9) h)) := by kernel_rfl
noncomputable def F_method_known (R : Nat) (a1 : Int) (h : GH) (K : Bool → GH → Option β) : Option β := G_method_known  R a1 h K
theorem CF_method_known_sim : SimOrc Try.prog (CF_method_known (β := β)) := by
  intro f args h K r hc
  cases hc
set_option maxRecDepth 100000 in
theorem F_method_known_sim {R : Nat} {r : β} {a1 : Int} {h : GH} {K : Value → GH → Option β} (hc : F_method_known R a1 h (fun q0 h' => K (Value.bool q0) h') = some r) : ∃ v h', K v h' = some r ∧ CallSim Try.prog 53 [Value.int .i64 a1] h v h' := by
  unfold F_method_known G_method_known at hc
  obtain ⟨v, h', hk, hs⟩ := gfun_sim CF_method_known_sim mixed_ok (fun f h => by cases h) Try.func53 (by kernel_rfl) hc
  obtain ⟨u0, e0, hk⟩ := exB_v hk; cases e0
  exact ⟨_, h', hk, hs⟩
/-! F26 duffel/method.Need -/
def CF_method_Need (F_method_known : Int → GH → (Bool → GH → Option β) → Option β) : Orc β := fun f args h K => bif Nat.beq f 53 then (match args with | [.int .i64 p1] => F_method_known p1 h (fun q2 h' => K (Value.bool q2) h') | _ => none) else none
def HF_method_Need : Hints := ⟨[], [], []⟩
noncomputable def G_method_Need (F_method_known : Int → GH → (Bool → GH → Option β) → Option β) (R : Nat) (a1 : Int) (h : GH) (K : Int → GH → Option β) : Option β := gfun Try.prog (CF_method_Need F_method_known) HF_method_Need R Try.f26 [Value.int .i64 a1] h (fun v h' => exI .i64 (some v) fun u5 => K u5 h')
set_option maxRecDepth 100000 in
theorem F_method_Need_gen (F_method_known : Int → GH → (Bool → GH → Option β) → Option β) (R : Nat) (a1 : Int) (h : GH) (K : Int → GH → Option β) : G_method_Need F_method_known R a1 h K =
    (bif a1 == 8 then K 20 h else (bif a1 == 9 then K 21 h else F_method_known a1 h fun r2 h3 => (bif r2 then K 10 h3 else K 0 h3))) := by kernel_rfl
noncomputable def F_method_Need (R : Nat) (a1 : Int) (h : GH) (K : Int → GH → Option β) : Option β := G_method_Need (F_method_known R) R a1 h K
set_option maxRecDepth 100000 in
theorem CF_method_Need_sim {R : Nat} : SimOrc Try.prog (CF_method_Need (F_method_known R) (β := β)) := by
  intro f args h K r hc
  unfold CF_method_Need at hc
  cases hb : Nat.beq f 53 with
  | true =>
    rw [hb] at hc
    simp only [cond_true] at hc
    obtain rfl := Nat.eq_of_beq_eq_true hb
    split at hc
    · exact any_call (F_method_known_sim (K := K) hc)
    · cases hc
  | false =>
  rw [hb] at hc
  simp only [cond_false] at hc
  cases hc
set_option maxRecDepth 100000 in
theorem F_method_Need_sim {R : Nat} {r : β} {a1 : Int} {h : GH} {K : Value → GH → Option β} (hc : F_method_Need R a1 h (fun q0 h' => K (Value.int .i64 q0) h') = some r) : ∃ v h', K v h' = some r ∧ CallSim Try.prog 26 [Value.int .i64 a1] h v h' := by
  unfold F_method_Need G_method_Need at hc
  obtain ⟨v, h', hk, hs⟩ := gfun_sim (CF_method_Need_sim (R := R)) mixed_ok (fun f h => by cases h) Try.func26 (by kernel_rfl) hc
  obtain ⟨u0, e0, hk⟩ := exI_v hk; cases e0
  exact ⟨_, h', hk, hs⟩
/-! F54 duffel/method.leveled -/
def CF_method_leveled  : Orc β := fun f args h K => none
def HF_method_leveled : Hints := ⟨[], [], []⟩
noncomputable def G_method_leveled  (R : Nat) (a1 : Int) (h : GH) (K : Bool → GH → Option β) : Option β := gfun Try.prog (CF_method_leveled ) HF_method_leveled R Try.f54 [Value.int .i64 a1] h (fun v h' => exB (some v) fun u3 => K u3 h')
set_option maxRecDepth 100000 in
theorem F_method_leveled_gen  (R : Nat) (a1 : Int) (h : GH) (K : Bool → GH → Option β) : G_method_leveled  R a1 h K =
    (bif a1 == 8 then K true h else K (a1 == 9) h) := by kernel_rfl
noncomputable def F_method_leveled (R : Nat) (a1 : Int) (h : GH) (K : Bool → GH → Option β) : Option β := G_method_leveled  R a1 h K
theorem CF_method_leveled_sim : SimOrc Try.prog (CF_method_leveled (β := β)) := by
  intro f args h K r hc
  cases hc
set_option maxRecDepth 100000 in
theorem F_method_leveled_sim {R : Nat} {r : β} {a1 : Int} {h : GH} {K : Value → GH → Option β} (hc : F_method_leveled R a1 h (fun q0 h' => K (Value.bool q0) h') = some r) : ∃ v h', K v h' = some r ∧ CallSim Try.prog 54 [Value.int .i64 a1] h v h' := by
  unfold F_method_leveled G_method_leveled at hc
  obtain ⟨v, h', hk, hs⟩ := gfun_sim CF_method_leveled_sim mixed_ok (fun f h => by cases h) Try.func54 (by kernel_rfl) hc
  obtain ⟨u0, e0, hk⟩ := exB_v hk; cases e0
  exact ⟨_, h', hk, hs⟩
/-! F27 duffel/method.Allowed -/
def CF_method_Allowed (F_method_leveled : Int → GH → (Bool → GH → Option β) → Option β) : Orc β := fun f args h K => bif Nat.beq f 54 then (match args with | [.int .i64 p1] => F_method_leveled p1 h (fun q2 h' => K (Value.bool q2) h') | _ => none) else none
def HF_method_Allowed : Hints := ⟨[], [], []⟩
noncomputable def G_method_Allowed (F_method_leveled : Int → GH → (Bool → GH → Option β) → Option β) (R : Nat) (a1 : Int) (h : GH) (K : Int → GH → Option β) : Option β := gfun Try.prog (CF_method_Allowed F_method_leveled) HF_method_Allowed R Try.f27 [Value.int .i64 a1] h (fun v h' => exI .i64 (some v) fun u5 => K u5 h')
set_option maxRecDepth 100000 in
theorem F_method_Allowed_gen (F_method_leveled : Int → GH → (Bool → GH → Option β) → Option β) (R : Nat) (a1 : Int) (h : GH) (K : Int → GH → Option β) : G_method_Allowed F_method_leveled R a1 h K =
    (bif a1 == 6 then K 6 h else F_method_leveled a1 h fun r2 h3 => (bif r2 then K 6 h3 else K 0 h3)) := by kernel_rfl
noncomputable def F_method_Allowed (R : Nat) (a1 : Int) (h : GH) (K : Int → GH → Option β) : Option β := G_method_Allowed (F_method_leveled R) R a1 h K
set_option maxRecDepth 100000 in
theorem CF_method_Allowed_sim {R : Nat} : SimOrc Try.prog (CF_method_Allowed (F_method_leveled R) (β := β)) := by
  intro f args h K r hc
  unfold CF_method_Allowed at hc
  cases hb : Nat.beq f 54 with
  | true =>
    rw [hb] at hc
    simp only [cond_true] at hc
    obtain rfl := Nat.eq_of_beq_eq_true hb
    split at hc
    · exact any_call (F_method_leveled_sim (K := K) hc)
    · cases hc
  | false =>
  rw [hb] at hc
  simp only [cond_false] at hc
  cases hc
set_option maxRecDepth 100000 in
theorem F_method_Allowed_sim {R : Nat} {r : β} {a1 : Int} {h : GH} {K : Value → GH → Option β} (hc : F_method_Allowed R a1 h (fun q0 h' => K (Value.int .i64 q0) h') = some r) : ∃ v h', K v h' = some r ∧ CallSim Try.prog 27 [Value.int .i64 a1] h v h' := by
  unfold F_method_Allowed G_method_Allowed at hc
  obtain ⟨v, h', hk, hs⟩ := gfun_sim (CF_method_Allowed_sim (R := R)) mixed_ok (fun f h => by cases h) Try.func27 (by kernel_rfl) hc
  obtain ⟨u0, e0, hk⟩ := exI_v hk; cases e0
  exact ⟨_, h', hk, hs⟩
/-! F55 duffel/extra.Read -/
def CF_extra_Read (F_field_Open : Sl → GH → (Option Addr → GH → Option β) → Option β) (F_field_Cursor_Left : Option Addr → GH → (Int → GH → Option β) → Option β) (F_field_Cursor_U16 : Option Addr → GH → (Int → GH → Option β) → Option β) (F_field_Cursor_Bytes : Option Addr → Int → GH → (Sl → GH → Option β) → Option β) (F_field_Cursor_Err : Option Addr → GH → (Int → GH → Option β) → Option β) : Orc β := fun f args h K => bif Nat.beq f 36 then (match args with | [.slice p1a p1n p1c] => F_field_Open ⟨p1a, p1n, p1c⟩ h (fun q6 h' => K (Value.pointer q6) h') | _ => none) else (bif Nat.beq f 38 then (match args with | [.pointer p1] => F_field_Cursor_Left p1 h (fun q10 h' => K (Value.int .i64 q10) h') | _ => none) else (bif Nat.beq f 84 then (match args with | [.pointer p1] => F_field_Cursor_U16 p1 h (fun q4 h' => K (Value.int .i64 q4) h') | _ => none) else (bif Nat.beq f 66 then (match args with | [.pointer p1, .int .i64 p2] => F_field_Cursor_Bytes p1 p2 h (fun q7 h' => K (Value.slice q7.a q7.n q7.c) h') | _ => none) else (bif Nat.beq f 67 then (match args with | [.pointer p1] => F_field_Cursor_Err p1 h (fun q8 h' => K (Value.int .i64 q8) h') | _ => none) else none))))
def HF_extra_Read : Hints := ⟨[(3, [4, 5], [(0, [(4, .ty 103)])], some [(2, .ty 103), (3, .ty 29)])], [], []⟩
noncomputable def BF_extra_Read : Code := match Try.f55.body with | some c => c | none => .skip
noncomputable def F_extra_Read_l0 (F_field_Open : Sl → GH → (Option Addr → GH → Option β) → Option β) (F_field_Cursor_Left : Option Addr → GH → (Int → GH → Option β) → Option β) (F_field_Cursor_U16 : Option Addr → GH → (Int → GH → Option β) → Option β) (F_field_Cursor_Bytes : Option Addr → Int → GH → (Sl → GH → Option β) → Option β) (F_field_Cursor_Err : Option Addr → GH → (Int → GH → Option β) → Option β) (R : Nat) (n : Nat) (y4 : Sl) (y5 : Option Addr) (h : GH) (K0 : Sl → GH → Option β) (Kr : Sl → Int → GH → Option β) : Option β := gloop (gcode Try.prog (CF_extra_Read F_field_Open F_field_Cursor_Left F_field_Cursor_U16 F_field_Cursor_Bytes F_field_Cursor_Err) Try.f55.ntmps HF_extra_Read R (at_ [true, true, true, false, false, false] BF_extra_Read)) [4, 5] n [(4, Value.slice y4.a y4.n y4.c), (5, Value.pointer y5)] h (fun i e' h' => bif Nat.beq i 0 then (exS (some (e'.get 4)) fun u30 => K0 u30 h') else none) (fun e' h' => exS (some (e'.get 2)) fun u31 => exI .i64 (some (e'.get 3)) fun u32 => Kr u31 u32 h')
set_option maxRecDepth 100000 in
theorem F_extra_Read_l0_succ (F_field_Open : Sl → GH → (Option Addr → GH → Option β) → Option β) (F_field_Cursor_Left : Option Addr → GH → (Int → GH → Option β) → Option β) (F_field_Cursor_U16 : Option Addr → GH → (Int → GH → Option β) → Option β) (F_field_Cursor_Bytes : Option Addr → Int → GH → (Sl → GH → Option β) → Option β) (F_field_Cursor_Err : Option Addr → GH → (Int → GH → Option β) → Option β) (R : Nat) (n : Nat) (y4 : Sl) (y5 : Option Addr) (h : GH) (K0 : Sl → GH → Option β) (Kr : Sl → Int → GH → Option β) : F_extra_Read_l0 F_field_Open F_field_Cursor_Left F_field_Cursor_U16 F_field_Cursor_Bytes F_field_Cursor_Err R (n + 1) y4 y5 h K0 Kr =
    F_field_Cursor_Left y5 h fun r9 h10 => (bif decide (r9 > 0) then F_field_Cursor_U16 y5 h10 fun r11 h12 => F_field_Cursor_U16 y5 h12 fun r13 h14 => F_field_Cursor_Bytes y5 r13 h14 fun r15 h16 => F_field_Cursor_Err y5 h16 fun r17 h18 => (bif r17 != 0 then Kr ⟨none, 0, 0⟩ r17 h18 else gnew [Value.int .i64 r11, Value.slice r15.a r15.n r15.c] 2 h18 fun g19 h20 => gappS 2 32 y4 ⟨(some ⟨g19, 0, none⟩), 1, 1⟩ h20 fun s21 h22 => F_extra_Read_l0 F_field_Open F_field_Cursor_Left F_field_Cursor_U16 F_field_Cursor_Bytes F_field_Cursor_Err R n s21 y5 h22 K0 Kr) else K0 y4 h10) := by kernel_rfl
noncomputable def G_extra_Read (F_field_Open : Sl → GH → (Option Addr → GH → Option β) → Option β) (F_field_Cursor_Left : Option Addr → GH → (Int → GH → Option β) → Option β) (F_field_Cursor_U16 : Option Addr → GH → (Int → GH → Option β) → Option β) (F_field_Cursor_Bytes : Option Addr → Int → GH → (Sl → GH → Option β) → Option β) (F_field_Cursor_Err : Option Addr → GH → (Int → GH → Option β) → Option β) (R : Nat) (a1 : Sl) (h : GH) (K : Sl → Int → GH → Option β) : Option β := gfun Try.prog (CF_extra_Read F_field_Open F_field_Cursor_Left F_field_Cursor_U16 F_field_Cursor_Bytes F_field_Cursor_Err) HF_extra_Read R Try.f55 [Value.slice a1.a a1.n a1.c] h (fun v h' => exTup 2 v fun vs => exV (nth vs 0) fun v0 => exS (some v0) fun u33 => exV (nth vs 1) fun v1 => exI .i64 (some v1) fun u34 => K u33 u34 h')
set_option maxRecDepth 100000 in
theorem F_extra_Read_gen (F_field_Open : Sl → GH → (Option Addr → GH → Option β) → Option β) (F_field_Cursor_Left : Option Addr → GH → (Int → GH → Option β) → Option β) (F_field_Cursor_U16 : Option Addr → GH → (Int → GH → Option β) → Option β) (F_field_Cursor_Bytes : Option Addr → Int → GH → (Sl → GH → Option β) → Option β) (F_field_Cursor_Err : Option Addr → GH → (Int → GH → Option β) → Option β) (R : Nat) (a1 : Sl) (h : GH) (K : Sl → Int → GH → Option β) : G_extra_Read F_field_Open F_field_Cursor_Left F_field_Cursor_U16 F_field_Cursor_Bytes F_field_Cursor_Err R a1 h K =
    F_field_Open a1 h fun r2 h3 => F_extra_Read_l0 F_field_Open F_field_Cursor_Left F_field_Cursor_U16 F_field_Cursor_Bytes F_field_Cursor_Err R R ⟨none, 0, 0⟩ r2 h3 (fun w23 h24 => K w23 0 h24) (fun w25 w26 h27 => K w25 w26 h27) := by kernel_rfl
noncomputable def F_extra_Read (R : Nat) (a1 : Sl) (h : GH) (K : Sl → Int → GH → Option β) : Option β := G_extra_Read (F_field_Open R) (F_field_Cursor_Left R) (F_field_Cursor_U16 R) (F_field_Cursor_Bytes R) (F_field_Cursor_Err R) R a1 h K
set_option maxRecDepth 100000 in
theorem CF_extra_Read_sim {R : Nat} : SimOrc Try.prog (CF_extra_Read (F_field_Open R) (F_field_Cursor_Left R) (F_field_Cursor_U16 R) (F_field_Cursor_Bytes R) (F_field_Cursor_Err R) (β := β)) := by
  intro f args h K r hc
  unfold CF_extra_Read at hc
  cases hb : Nat.beq f 36 with
  | true =>
    rw [hb] at hc
    simp only [cond_true] at hc
    obtain rfl := Nat.eq_of_beq_eq_true hb
    split at hc
    · exact any_call (F_field_Open_sim (K := K) hc)
    · cases hc
  | false =>
  rw [hb] at hc
  simp only [cond_false] at hc
  cases hb : Nat.beq f 38 with
  | true =>
    rw [hb] at hc
    simp only [cond_true] at hc
    obtain rfl := Nat.eq_of_beq_eq_true hb
    split at hc
    · exact any_call (F_field_Cursor_Left_sim (K := K) hc)
    · cases hc
  | false =>
  rw [hb] at hc
  simp only [cond_false] at hc
  cases hb : Nat.beq f 84 with
  | true =>
    rw [hb] at hc
    simp only [cond_true] at hc
    obtain rfl := Nat.eq_of_beq_eq_true hb
    split at hc
    · exact any_call (F_field_Cursor_U16_sim (K := K) hc)
    · cases hc
  | false =>
  rw [hb] at hc
  simp only [cond_false] at hc
  cases hb : Nat.beq f 66 with
  | true =>
    rw [hb] at hc
    simp only [cond_true] at hc
    obtain rfl := Nat.eq_of_beq_eq_true hb
    split at hc
    · exact any_call (F_field_Cursor_Bytes_sim (K := K) hc)
    · cases hc
  | false =>
  rw [hb] at hc
  simp only [cond_false] at hc
  cases hb : Nat.beq f 67 with
  | true =>
    rw [hb] at hc
    simp only [cond_true] at hc
    obtain rfl := Nat.eq_of_beq_eq_true hb
    split at hc
    · exact any_call (F_field_Cursor_Err_sim (K := K) hc)
    · cases hc
  | false =>
  rw [hb] at hc
  simp only [cond_false] at hc
  cases hc
set_option maxRecDepth 100000 in
theorem F_extra_Read_sim {R : Nat} {r : β} {a1 : Sl} {h : GH} {K : Value → GH → Option β} (hc : F_extra_Read R a1 h (fun q0 q1 h' => K (Value.tuple #[Value.slice q0.a q0.n q0.c, Value.int .i64 q1]) h') = some r) : ∃ v h', K v h' = some r ∧ CallSim Try.prog 55 [Value.slice a1.a a1.n a1.c] h v h' := by
  unfold F_extra_Read G_extra_Read at hc
  obtain ⟨v, h', hk, hs⟩ := gfun_sim (CF_extra_Read_sim (R := R)) mixed_ok (fun f h => by cases h) Try.func55 (by kernel_rfl) hc
  obtain ⟨vs, rfl, hl, hk⟩ := exTup_v hk
  obtain ⟨v0, t0, hk⟩ := exV_v hk
  obtain ⟨u0, e0, hk⟩ := exS_v hk; cases e0
  obtain ⟨v1, t1, hk⟩ := exV_v hk
  obtain ⟨u1, e1, hk⟩ := exI_v hk; cases e1
  obtain rfl := arr2 hl t0 t1
  exact ⟨_, h', hk, hs⟩
/-! F86 duffel/extra.Find$1 -/
def CF_extra_Find_1_s1  : Orc β := fun f args h K => none
def HF_extra_Find_1_s1 : Hints := ⟨[], [], []⟩
noncomputable def G_extra_Find_1_s1  (R : Nat) (a1 : Int) (a2 : Sl) (y3 : Option Addr) (h : GH) (K : Bool → GH → Option β) : Option β := gfun Try.prog (CF_extra_Find_1_s1 ) HF_extra_Find_1_s1 R Try.f86 [Value.agg #[Value.int .i64 a1, Value.slice a2.a a2.n a2.c], Value.pointer y3] h (fun v h' => exB (some v) fun u11 => K u11 h')
set_option maxRecDepth 100000 in
theorem F_extra_Find_1_s1_gen  (R : Nat) (a1 : Int) (a2 : Sl) (y3 : Option Addr) (h : GH) (K : Bool → GH → Option β) : G_extra_Find_1_s1  R a1 a2 y3 h K =
    gnew [Value.int .i64 a1, Value.slice a2.a a2.n a2.c] 0 h fun g4 h5 => exI .i64 (h5.cell ⟨g4, 0 + 0, none⟩) fun x6 => exA y3 fun g7 o8 => exI .i64 (h5.cell ⟨g7, o8, none⟩) fun x9 => K (x6 == x9) h5 := by kernel_rfl
noncomputable def F_extra_Find_1_s1 (R : Nat) (a1 : Int) (a2 : Sl) (y3 : Option Addr) (h : GH) (K : Bool → GH → Option β) : Option β := G_extra_Find_1_s1  R a1 a2 y3 h K
theorem CF_extra_Find_1_s1_sim : SimOrc Try.prog (CF_extra_Find_1_s1 (β := β)) := by
  intro f args h K r hc
  cases hc
set_option maxRecDepth 100000 in
theorem F_extra_Find_1_s1_sim {R : Nat} {r : β} {a1 : Int} {a2 : Sl} {y3 : Option Addr} {h : GH} {K : Value → GH → Option β} (hc : F_extra_Find_1_s1 R a1 a2 y3 h (fun q0 h' => K (Value.bool q0) h') = some r) : ∃ v h', K v h' = some r ∧ CallSim Try.prog 86 [Value.agg #[Value.int .i64 a1, Value.slice a2.a a2.n a2.c], Value.pointer y3] h v h' := by
  unfold F_extra_Find_1_s1 G_extra_Find_1_s1 at hc
  obtain ⟨v, h', hk, hs⟩ := gfun_sim CF_extra_Find_1_s1_sim mixed_ok (fun f h => by cases h) Try.func86 (by kernel_rfl) hc
  obtain ⟨u0, e0, hk⟩ := exB_v hk; cases e0
  exact ⟨_, h', hk, hs⟩
/-! F85 slices.IndexFunc[[]duffel/api.Field,duffel/api.Field] -/
def CF_slices_IndexFunc_api_Field_s1 (F_extra_Find_1_s1 : Int → Sl → Option Addr → GH → (Bool → GH → Option β) → Option β) : Orc β := fun f args h K => bif Nat.beq f 86 then (match args with | [.agg ⟨[.int .i64 p1, .slice p2a p2n p2c]⟩, .pointer p3] => F_extra_Find_1_s1 p1 ⟨p2a, p2n, p2c⟩ p3 h (fun q10 h' => K (Value.bool q10) h') | _ => none) else none
def HF_slices_IndexFunc_api_Field_s1 : Hints := ⟨[(2, [0, 1, 7, 8], [(0, [])], some [(4, .ty 3)])], [], []⟩
noncomputable def BF_slices_IndexFunc_api_Field_s1 : Code := match Try.f85.body with | some c => c | none => .skip
noncomputable def F_slices_IndexFunc_api_Field_s1_l0 (F_extra_Find_1_s1 : Int → Sl → Option Addr → GH → (Bool → GH → Option β) → Option β) (R : Nat) (n : Nat) (y3 : Sl) (y4 : Option Addr) (y5 : Int) (y6 : Int) (h : GH) (K0 : GH → Option β) (Kr : Int → GH → Option β) : Option β := gloop (gcode Try.prog (CF_slices_IndexFunc_api_Field_s1 F_extra_Find_1_s1) Try.f85.ntmps HF_slices_IndexFunc_api_Field_s1 R (at_ [true, false, true, false, false] BF_slices_IndexFunc_api_Field_s1)) [0, 1, 7, 8] n [(0, Value.slice y3.a y3.n y3.c), (1, Value.func (.func 86) #[] #[Value.pointer y4]), (7, Value.int .i64 y5), (8, Value.int .i64 y6)] h (fun i e' h' => bif Nat.beq i 0 then (K0 h') else none) (fun e' h' => exI .i64 (some (e'.get 4)) fun u18 => Kr u18 h')
set_option maxRecDepth 100000 in
theorem F_slices_IndexFunc_api_Field_s1_l0_succ (F_extra_Find_1_s1 : Int → Sl → Option Addr → GH → (Bool → GH → Option β) → Option β) (R : Nat) (n : Nat) (y3 : Sl) (y4 : Option Addr) (y5 : Int) (y6 : Int) (h : GH) (K0 : GH → Option β) (Kr : Int → GH → Option β) : F_slices_IndexFunc_api_Field_s1_l0 F_extra_Find_1_s1 R (n + 1) y3 y4 y5 y6 h K0 Kr =
    (bif decide (y6 < y5) then exA y3.a fun g8 o9 => within y6 y3.n (exI .i64 (h.cell ⟨g8, o9 + y6.toNat * 2, none⟩) fun x10 => exS (h.cell ⟨g8, o9 + y6.toNat * 2 + 1, none⟩) fun x11 => F_extra_Find_1_s1 x10 x11 y4 h fun r12 h13 => (bif r12 then Kr y6 h13 else F_slices_IndexFunc_api_Field_s1_l0 F_extra_Find_1_s1 R n y3 y4 y5 (IntKind.wrap .i64 (y6 + 1)) h13 K0 Kr)) else K0 h) := by kernel_rfl
noncomputable def G_slices_IndexFunc_api_Field_s1 (F_extra_Find_1_s1 : Int → Sl → Option Addr → GH → (Bool → GH → Option β) → Option β) (R : Nat) (a1 : Sl) (y2 : Option Addr) (h : GH) (K : Int → GH → Option β) : Option β := gfun Try.prog (CF_slices_IndexFunc_api_Field_s1 F_extra_Find_1_s1) HF_slices_IndexFunc_api_Field_s1 R Try.f85 [Value.slice a1.a a1.n a1.c, Value.func (.func 86) #[] #[Value.pointer y2]] h (fun v h' => exI .i64 (some v) fun u19 => K u19 h')
set_option maxRecDepth 100000 in
theorem F_slices_IndexFunc_api_Field_s1_gen (F_extra_Find_1_s1 : Int → Sl → Option Addr → GH → (Bool → GH → Option β) → Option β) (R : Nat) (a1 : Sl) (y2 : Option Addr) (h : GH) (K : Int → GH → Option β) : G_slices_IndexFunc_api_Field_s1 F_extra_Find_1_s1 R a1 y2 h K =
    F_slices_IndexFunc_api_Field_s1_l0 F_extra_Find_1_s1 R R a1 y2 ((a1.n : Nat) : Int) 0 h (fun h14 => K (-1) h14) (fun w15 h16 => K w15 h16) := by kernel_rfl
noncomputable def F_slices_IndexFunc_api_Field_s1 (R : Nat) (a1 : Sl) (y2 : Option Addr) (h : GH) (K : Int → GH → Option β) : Option β := G_slices_IndexFunc_api_Field_s1 (F_extra_Find_1_s1 R) R a1 y2 h K
set_option maxRecDepth 100000 in
theorem CF_slices_IndexFunc_api_Field_s1_sim {R : Nat} : SimOrc Try.prog (CF_slices_IndexFunc_api_Field_s1 (F_extra_Find_1_s1 R) (β := β)) := by
  intro f args h K r hc
  unfold CF_slices_IndexFunc_api_Field_s1 at hc
  cases hb : Nat.beq f 86 with
  | true =>
    rw [hb] at hc
    simp only [cond_true] at hc
    obtain rfl := Nat.eq_of_beq_eq_true hb
    split at hc
    · exact any_call (F_extra_Find_1_s1_sim (K := K) hc)
    · cases hc
  | false =>
  rw [hb] at hc
  simp only [cond_false] at hc
  cases hc
set_option maxRecDepth 100000 in
theorem F_slices_IndexFunc_api_Field_s1_sim {R : Nat} {r : β} {a1 : Sl} {y2 : Option Addr} {h : GH} {K : Value → GH → Option β} (hc : F_slices_IndexFunc_api_Field_s1 R a1 y2 h (fun q0 h' => K (Value.int .i64 q0) h') = some r) : ∃ v h', K v h' = some r ∧ CallSim Try.prog 85 [Value.slice a1.a a1.n a1.c, Value.func (.func 86) #[] #[Value.pointer y2]] h v h' := by
  unfold F_slices_IndexFunc_api_Field_s1 G_slices_IndexFunc_api_Field_s1 at hc
  obtain ⟨v, h', hk, hs⟩ := gfun_sim (CF_slices_IndexFunc_api_Field_s1_sim (R := R)) mixed_ok (fun f h => by cases h) Try.func85 (by kernel_rfl) hc
  obtain ⟨u0, e0, hk⟩ := exI_v hk; cases e0
  exact ⟨_, h', hk, hs⟩
/-! F56 duffel/extra.Find -/
def CF_extra_Find (F_extra_Read : Sl → GH → (Sl → Int → GH → Option β) → Option β) (F_slices_IndexFunc_api_Field_s1 : Sl → Option Addr → GH → (Int → GH → Option β) → Option β) : Orc β := fun f args h K => bif Nat.beq f 55 then (match args with | [.slice p1a p1n p1c] => F_extra_Read ⟨p1a, p1n, p1c⟩ h (fun q28 q29 h' => K (Value.tuple #[Value.slice q28.a q28.n q28.c, Value.int .i64 q29]) h') | _ => none) else (bif Nat.beq f 85 then (match args with | [.slice p1a p1n p1c, .func (.func 86) ⟨[]⟩ ⟨[.pointer p2]⟩] => F_slices_IndexFunc_api_Field_s1 ⟨p1a, p1n, p1c⟩ p2 h (fun q17 h' => K (Value.int .i64 q17) h') | _ => none) else none)
def HF_extra_Find : Hints := ⟨[], [], []⟩
noncomputable def G_extra_Find (F_extra_Read : Sl → GH → (Sl → Int → GH → Option β) → Option β) (F_slices_IndexFunc_api_Field_s1 : Sl → Option Addr → GH → (Int → GH → Option β) → Option β) (R : Nat) (a1 : Sl) (a2 : Int) (h : GH) (K : Sl → Bool → GH → Option β) : Option β := gfun Try.prog (CF_extra_Find F_extra_Read F_slices_IndexFunc_api_Field_s1) HF_extra_Find R Try.f56 [Value.slice a1.a a1.n a1.c, Value.int .i64 a2] h (fun v h' => exTup 2 v fun vs => exV (nth vs 0) fun v0 => exS (some v0) fun u15 => exV (nth vs 1) fun v1 => exB (some v1) fun u16 => K u15 u16 h')
set_option maxRecDepth 100000 in
theorem F_extra_Find_gen (F_extra_Read : Sl → GH → (Sl → Int → GH → Option β) → Option β) (F_slices_IndexFunc_api_Field_s1 : Sl → Option Addr → GH → (Int → GH → Option β) → Option β) (R : Nat) (a1 : Sl) (a2 : Int) (h : GH) (K : Sl → Bool → GH → Option β) : G_extra_Find F_extra_Read F_slices_IndexFunc_api_Field_s1 R a1 a2 h K =
    gnew [Value.int .i64 a2] 0 h fun g3 h4 => F_extra_Read a1 h4 fun r5 r6 h7 => F_slices_IndexFunc_api_Field_s1 r5 (some ⟨g3, 0, none⟩) h7 fun r8 h9 => (bif r6 != 0 then K ⟨none, 0, 0⟩ false h9 else (bif decide (r8 < 0) then K ⟨none, 0, 0⟩ false h9 else exA r5.a fun g10 o11 => within r8 r5.n (exS (h9.cell ⟨g10, o11 + r8.toNat * 2 + 1, none⟩) fun x12 => K x12 true h9))) := by kernel_rfl
noncomputable def F_extra_Find (R : Nat) (a1 : Sl) (a2 : Int) (h : GH) (K : Sl → Bool → GH → Option β) : Option β := G_extra_Find (F_extra_Read R) (F_slices_IndexFunc_api_Field_s1 R) R a1 a2 h K
set_option maxRecDepth 100000 in
theorem CF_extra_Find_sim {R : Nat} : SimOrc Try.prog (CF_extra_Find (F_extra_Read R) (F_slices_IndexFunc_api_Field_s1 R) (β := β)) := by
  intro f args h K r hc
  unfold CF_extra_Find at hc
  cases hb : Nat.beq f 55 with
  | true =>
    rw [hb] at hc
    simp only [cond_true] at hc
    obtain rfl := Nat.eq_of_beq_eq_true hb
    split at hc
    · exact any_call (F_extra_Read_sim (K := K) hc)
    · cases hc
  | false =>
  rw [hb] at hc
  simp only [cond_false] at hc
  cases hb : Nat.beq f 85 with
  | true =>
    rw [hb] at hc
    simp only [cond_true] at hc
    obtain rfl := Nat.eq_of_beq_eq_true hb
    split at hc
    · exact any_call (F_slices_IndexFunc_api_Field_s1_sim (K := K) hc)
    · cases hc
  | false =>
  rw [hb] at hc
  simp only [cond_false] at hc
  cases hc
set_option maxRecDepth 100000 in
theorem F_extra_Find_sim {R : Nat} {r : β} {a1 : Sl} {a2 : Int} {h : GH} {K : Value → GH → Option β} (hc : F_extra_Find R a1 a2 h (fun q0 q1 h' => K (Value.tuple #[Value.slice q0.a q0.n q0.c, Value.bool q1]) h') = some r) : ∃ v h', K v h' = some r ∧ CallSim Try.prog 56 [Value.slice a1.a a1.n a1.c, Value.int .i64 a2] h v h' := by
  unfold F_extra_Find G_extra_Find at hc
  obtain ⟨v, h', hk, hs⟩ := gfun_sim (CF_extra_Find_sim (R := R)) mixed_ok (fun f h => by cases h) Try.func56 (by kernel_rfl) hc
  obtain ⟨vs, rfl, hl, hk⟩ := exTup_v hk
  obtain ⟨v0, t0, hk⟩ := exV_v hk
  obtain ⟨u0, e0, hk⟩ := exS_v hk; cases e0
  obtain ⟨v1, t1, hk⟩ := exV_v hk
  obtain ⟨u1, e1, hk⟩ := exB_v hk; cases e1
  obtain rfl := arr2 hl t0 t1
  exact ⟨_, h', hk, hs⟩
/-! F28 duffel/denote.checkExtra -/
def CF_denote_checkExtra (F_extra_Read : Sl → GH → (Sl → Int → GH → Option β) → Option β) (F_extra_Find : Sl → Int → GH → (Sl → Bool → GH → Option β) → Option β) : Orc β := fun f args h K => bif Nat.beq f 55 then (match args with | [.slice p1a p1n p1c] => F_extra_Read ⟨p1a, p1n, p1c⟩ h (fun q28 q29 h' => K (Value.tuple #[Value.slice q28.a q28.n q28.c, Value.int .i64 q29]) h') | _ => none) else (bif Nat.beq f 56 then (match args with | [.slice p1a p1n p1c, .int .i64 p2] => F_extra_Find ⟨p1a, p1n, p1c⟩ p2 h (fun q13 q14 h' => K (Value.tuple #[Value.slice q13.a q13.n q13.c, Value.bool q14]) h') | _ => none) else none)
def HF_denote_checkExtra : Hints := ⟨[], [], []⟩
noncomputable def G_denote_checkExtra (F_extra_Read : Sl → GH → (Sl → Int → GH → Option β) → Option β) (F_extra_Find : Sl → Int → GH → (Sl → Bool → GH → Option β) → Option β) (R : Nat) (a1 : Sl) (h : GH) (K : Int → GH → Option β) : Option β := gfun Try.prog (CF_denote_checkExtra F_extra_Read F_extra_Find) HF_denote_checkExtra R Try.f28 [Value.slice a1.a a1.n a1.c] h (fun v h' => exI .i64 (some v) fun u9 => K u9 h')
set_option maxRecDepth 100000 in
theorem F_denote_checkExtra_gen (F_extra_Read : Sl → GH → (Sl → Int → GH → Option β) → Option β) (F_extra_Find : Sl → Int → GH → (Sl → Bool → GH → Option β) → Option β) (R : Nat) (a1 : Sl) (h : GH) (K : Int → GH → Option β) : G_denote_checkExtra F_extra_Read F_extra_Find R a1 h K =
    F_extra_Read a1 h fun r2 r3 h4 => (bif r3 != 0 then K 4 h4 else F_extra_Find a1 1 h4 fun r5 r6 h7 => (bif r6 then K 12 h7 else K 0 h7)) := by kernel_rfl
noncomputable def F_denote_checkExtra (R : Nat) (a1 : Sl) (h : GH) (K : Int → GH → Option β) : Option β := G_denote_checkExtra (F_extra_Read R) (F_extra_Find R) R a1 h K
set_option maxRecDepth 100000 in
theorem CF_denote_checkExtra_sim {R : Nat} : SimOrc Try.prog (CF_denote_checkExtra (F_extra_Read R) (F_extra_Find R) (β := β)) := by
  intro f args h K r hc
  unfold CF_denote_checkExtra at hc
  cases hb : Nat.beq f 55 with
  | true =>
    rw [hb] at hc
    simp only [cond_true] at hc
    obtain rfl := Nat.eq_of_beq_eq_true hb
    split at hc
    · exact any_call (F_extra_Read_sim (K := K) hc)
    · cases hc
  | false =>
  rw [hb] at hc
  simp only [cond_false] at hc
  cases hb : Nat.beq f 56 with
  | true =>
    rw [hb] at hc
    simp only [cond_true] at hc
    obtain rfl := Nat.eq_of_beq_eq_true hb
    split at hc
    · exact any_call (F_extra_Find_sim (K := K) hc)
    · cases hc
  | false =>
  rw [hb] at hc
  simp only [cond_false] at hc
  cases hc
set_option maxRecDepth 100000 in
theorem F_denote_checkExtra_sim {R : Nat} {r : β} {a1 : Sl} {h : GH} {K : Value → GH → Option β} (hc : F_denote_checkExtra R a1 h (fun q0 h' => K (Value.int .i64 q0) h') = some r) : ∃ v h', K v h' = some r ∧ CallSim Try.prog 28 [Value.slice a1.a a1.n a1.c] h v h' := by
  unfold F_denote_checkExtra G_denote_checkExtra at hc
  obtain ⟨v, h', hk, hs⟩ := gfun_sim (CF_denote_checkExtra_sim (R := R)) mixed_ok (fun f h => by cases h) Try.func28 (by kernel_rfl) hc
  obtain ⟨u0, e0, hk⟩ := exI_v hk; cases e0
  exact ⟨_, h', hk, hs⟩
/-! F102 duffel/dos.leap -/
def CF_dos_leap  : Orc β := fun f args h K => none
def HF_dos_leap : Hints := ⟨[], [], []⟩
noncomputable def G_dos_leap  (R : Nat) (a1 : Int) (h : GH) (K : Bool → GH → Option β) : Option β := gfun Try.prog (CF_dos_leap ) HF_dos_leap R Try.f102 [Value.int .i64 a1] h (fun v h' => exB (some v) fun u3 => K u3 h')
set_option maxRecDepth 100000 in
theorem F_dos_leap_gen  (R : Nat) (a1 : Int) (h : GH) (K : Bool → GH → Option β) : G_dos_leap  R a1 h K =
    (bif (Int.tmod a1 4) == 0 then K (a1 != 2100) h else K false h) := by kernel_rfl
noncomputable def F_dos_leap (R : Nat) (a1 : Int) (h : GH) (K : Bool → GH → Option β) : Option β := G_dos_leap  R a1 h K
theorem CF_dos_leap_sim : SimOrc Try.prog (CF_dos_leap (β := β)) := by
  intro f args h K r hc
  cases hc
set_option maxRecDepth 100000 in
theorem F_dos_leap_sim {R : Nat} {r : β} {a1 : Int} {h : GH} {K : Value → GH → Option β} (hc : F_dos_leap R a1 h (fun q0 h' => K (Value.bool q0) h') = some r) : ∃ v h', K v h' = some r ∧ CallSim Try.prog 102 [Value.int .i64 a1] h v h' := by
  unfold F_dos_leap G_dos_leap at hc
  obtain ⟨v, h', hk, hs⟩ := gfun_sim CF_dos_leap_sim mixed_ok (fun f h => by cases h) Try.func102 (by kernel_rfl) hc
  obtain ⟨u0, e0, hk⟩ := exB_v hk; cases e0
  exact ⟨_, h', hk, hs⟩
/-! F87 duffel/dos.days -/
def CF_dos_days (F_dos_leap : Int → GH → (Bool → GH → Option β) → Option β) : Orc β := fun f args h K => bif Nat.beq f 102 then (match args with | [.int .i64 p1] => F_dos_leap p1 h (fun q2 h' => K (Value.bool q2) h') | _ => none) else none
def HF_dos_days : Hints := ⟨[], [], []⟩
noncomputable def G_dos_days (F_dos_leap : Int → GH → (Bool → GH → Option β) → Option β) (R : Nat) (a1 : Int) (a2 : Int) (h : GH) (K : Int → GH → Option β) : Option β := gfun Try.prog (CF_dos_days F_dos_leap) HF_dos_days R Try.f87 [Value.int .i64 a1, Value.int .i64 a2] h (fun v h' => exI .i64 (some v) fun u6 => K u6 h')
set_option maxRecDepth 100000 in
theorem F_dos_days_gen (F_dos_leap : Int → GH → (Bool → GH → Option β) → Option β) (R : Nat) (a1 : Int) (a2 : Int) (h : GH) (K : Int → GH → Option β) : G_dos_days F_dos_leap R a1 a2 h K =
    (bif a2 == 2 then F_dos_leap a1 h fun r3 h4 => (bif r3 then K 29 h4 else K 28 h4) else (bif a2 == 4 then (bif a2 == 4 then K 30 h else K 31 h) else (bif a2 == 6 then (bif a2 == 6 then K 30 h else K 31 h) else (bif a2 == 9 then (bif a2 == 9 then K 30 h else K 31 h) else (bif a2 == 11 then K 30 h else K 31 h))))) := by kernel_rfl
noncomputable def F_dos_days (R : Nat) (a1 : Int) (a2 : Int) (h : GH) (K : Int → GH → Option β) : Option β := G_dos_days (F_dos_leap R) R a1 a2 h K
set_option maxRecDepth 100000 in
theorem CF_dos_days_sim {R : Nat} : SimOrc Try.prog (CF_dos_days (F_dos_leap R) (β := β)) := by
  intro f args h K r hc
  unfold CF_dos_days at hc
  cases hb : Nat.beq f 102 with
  | true =>
    rw [hb] at hc
    simp only [cond_true] at hc
    obtain rfl := Nat.eq_of_beq_eq_true hb
    split at hc
    · exact any_call (F_dos_leap_sim (K := K) hc)
    · cases hc
  | false =>
  rw [hb] at hc
  simp only [cond_false] at hc
  cases hc
set_option maxRecDepth 100000 in
theorem F_dos_days_sim {R : Nat} {r : β} {a1 : Int} {a2 : Int} {h : GH} {K : Value → GH → Option β} (hc : F_dos_days R a1 a2 h (fun q0 h' => K (Value.int .i64 q0) h') = some r) : ∃ v h', K v h' = some r ∧ CallSim Try.prog 87 [Value.int .i64 a1, Value.int .i64 a2] h v h' := by
  unfold F_dos_days G_dos_days at hc
  obtain ⟨v, h', hk, hs⟩ := gfun_sim (CF_dos_days_sim (R := R)) mixed_ok (fun f h => by cases h) Try.func87 (by kernel_rfl) hc
  obtain ⟨u0, e0, hk⟩ := exI_v hk; cases e0
  exact ⟨_, h', hk, hs⟩
/-! F57 duffel/dos.Check -/
def CF_dos_Check (F_dos_days : Int → Int → GH → (Int → GH → Option β) → Option β) : Orc β := fun f args h K => bif Nat.beq f 87 then (match args with | [.int .i64 p1, .int .i64 p2] => F_dos_days p1 p2 h (fun q5 h' => K (Value.int .i64 q5) h') | _ => none) else none
def HF_dos_Check : Hints := ⟨[], [], []⟩
noncomputable def G_dos_Check (F_dos_days : Int → Int → GH → (Int → GH → Option β) → Option β) (R : Nat) (a1 : Int) (a2 : Int) (a3 : Int) (a4 : Int) (a5 : Int) (a6 : Int) (h : GH) (K : Int → GH → Option β) : Option β := gfun Try.prog (CF_dos_Check F_dos_days) HF_dos_Check R Try.f57 [Value.agg #[Value.int .i64 a1, Value.int .i64 a2, Value.int .i64 a3, Value.int .i64 a4, Value.int .i64 a5, Value.int .i64 a6]] h (fun v h' => exI .i64 (some v) fun u27 => K u27 h')
set_option maxRecDepth 100000 in
theorem F_dos_Check_gen (F_dos_days : Int → Int → GH → (Int → GH → Option β) → Option β) (R : Nat) (a1 : Int) (a2 : Int) (a3 : Int) (a4 : Int) (a5 : Int) (a6 : Int) (h : GH) (K : Int → GH → Option β) : G_dos_Check F_dos_days R a1 a2 a3 a4 a5 a6 h K =
    gnew [Value.int .i64 a1, Value.int .i64 a2, Value.int .i64 a3, Value.int .i64 a4, Value.int .i64 a5, Value.int .i64 a6] 0 h fun g7 h8 => exI .i64 (h8.cell ⟨g7, 0 + 0, none⟩) fun x9 => (bif decide (x9 < 1980) then K 17 h8 else exI .i64 (h8.cell ⟨g7, 0 + 0, none⟩) fun x10 => (bif decide (x10 > 2107) then K 17 h8 else exI .i64 (h8.cell ⟨g7, 0 + 1, none⟩) fun x11 => (bif decide (x11 < 1) then K 17 h8 else exI .i64 (h8.cell ⟨g7, 0 + 1, none⟩) fun x12 => (bif decide (x12 > 12) then K 17 h8 else exI .i64 (h8.cell ⟨g7, 0 + 2, none⟩) fun x13 => (bif decide (x13 < 1) then K 17 h8 else exI .i64 (h8.cell ⟨g7, 0 + 2, none⟩) fun x14 => exI .i64 (h8.cell ⟨g7, 0 + 0, none⟩) fun x15 => exI .i64 (h8.cell ⟨g7, 0 + 1, none⟩) fun x16 => F_dos_days x15 x16 h8 fun r17 h18 => (bif sameAt g7 (0 + 2) 1 h8 h18 then (bif decide (x14 > r17) then K 17 h18 else exI .i64 (h18.cell ⟨g7, 0 + 3, none⟩) fun x19 => (bif decide (x19 < 0) then K 17 h18 else exI .i64 (h18.cell ⟨g7, 0 + 3, none⟩) fun x20 => (bif decide (x20 > 23) then K 17 h18 else exI .i64 (h18.cell ⟨g7, 0 + 4, none⟩) fun x21 => (bif decide (x21 < 0) then K 17 h18 else exI .i64 (h18.cell ⟨g7, 0 + 4, none⟩) fun x22 => (bif decide (x22 > 59) then K 17 h18 else exI .i64 (h18.cell ⟨g7, 0 + 5, none⟩) fun x23 => (bif decide (x23 < 0) then K 17 h18 else exI .i64 (h18.cell ⟨g7, 0 + 5, none⟩) fun x24 => (bif decide (x24 > 58) then K 17 h18 else exI .i64 (h18.cell ⟨g7, 0 + 5, none⟩) fun x25 => (bif (IntKind.wrap .i64 (BitVec.ofInt (IntKind.bits .i64) x25 &&& BitVec.ofInt (IntKind.bits .i64) 1).toNat) == 1 then K 17 h18 else K 0 h18)))))))) else none)))))) := by kernel_rfl
noncomputable def F_dos_Check (R : Nat) (a1 : Int) (a2 : Int) (a3 : Int) (a4 : Int) (a5 : Int) (a6 : Int) (h : GH) (K : Int → GH → Option β) : Option β := G_dos_Check (F_dos_days R) R a1 a2 a3 a4 a5 a6 h K
set_option maxRecDepth 100000 in
theorem CF_dos_Check_sim {R : Nat} : SimOrc Try.prog (CF_dos_Check (F_dos_days R) (β := β)) := by
  intro f args h K r hc
  unfold CF_dos_Check at hc
  cases hb : Nat.beq f 87 with
  | true =>
    rw [hb] at hc
    simp only [cond_true] at hc
    obtain rfl := Nat.eq_of_beq_eq_true hb
    split at hc
    · exact any_call (F_dos_days_sim (K := K) hc)
    · cases hc
  | false =>
  rw [hb] at hc
  simp only [cond_false] at hc
  cases hc
set_option maxRecDepth 100000 in
theorem F_dos_Check_sim {R : Nat} {r : β} {a1 : Int} {a2 : Int} {a3 : Int} {a4 : Int} {a5 : Int} {a6 : Int} {h : GH} {K : Value → GH → Option β} (hc : F_dos_Check R a1 a2 a3 a4 a5 a6 h (fun q0 h' => K (Value.int .i64 q0) h') = some r) : ∃ v h', K v h' = some r ∧ CallSim Try.prog 57 [Value.agg #[Value.int .i64 a1, Value.int .i64 a2, Value.int .i64 a3, Value.int .i64 a4, Value.int .i64 a5, Value.int .i64 a6]] h v h' := by
  unfold F_dos_Check G_dos_Check at hc
  obtain ⟨v, h', hk, hs⟩ := gfun_sim (CF_dos_Check_sim (R := R)) mixed_ok (fun f h => by cases h) Try.func57 (by kernel_rfl) hc
  obtain ⟨u0, e0, hk⟩ := exI_v hk; cases e0
  exact ⟨_, h', hk, hs⟩
/-! F29 duffel/dos.Unpack -/
def CF_dos_Unpack (F_dos_Check : Int → Int → Int → Int → Int → Int → GH → (Int → GH → Option β) → Option β) : Orc β := fun f args h K => bif Nat.beq f 57 then (match args with | [.agg ⟨[.int .i64 p1, .int .i64 p2, .int .i64 p3, .int .i64 p4, .int .i64 p5, .int .i64 p6]⟩] => F_dos_Check p1 p2 p3 p4 p5 p6 h (fun q26 h' => K (Value.int .i64 q26) h') | _ => none) else none
def HF_dos_Unpack : Hints := ⟨[], [], []⟩
noncomputable def G_dos_Unpack (F_dos_Check : Int → Int → Int → Int → Int → Int → GH → (Int → GH → Option β) → Option β) (R : Nat) (a1 : Int) (a2 : Int) (h : GH) (K : Int → Int → Int → Int → Int → Int → Int → GH → Option β) : Option β := gfun Try.prog (CF_dos_Unpack F_dos_Check) HF_dos_Unpack R Try.f29 [Value.int .i64 a1, Value.int .i64 a2] h (fun v h' => exTup 2 v fun vs => exV (nth vs 0) fun v0 => exAg v0 fun c71 => (bif Nat.beq c71.length 6 then exI .i64 (nth c71 (0)) fun u72 => exI .i64 (nth c71 (0 + 1)) fun u73 => exI .i64 (nth c71 (0 + 1 + 1)) fun u74 => exI .i64 (nth c71 (0 + 1 + 1 + 1)) fun u75 => exI .i64 (nth c71 (0 + 1 + 1 + 1 + 1)) fun u76 => exI .i64 (nth c71 (0 + 1 + 1 + 1 + 1 + 1)) fun u77 => exV (nth vs 1) fun v1 => exI .i64 (some v1) fun u78 => K u72 u73 u74 u75 u76 u77 u78 h' else none))
set_option maxRecDepth 100000 in
theorem F_dos_Unpack_gen (F_dos_Check : Int → Int → Int → Int → Int → Int → GH → (Int → GH → Option β) → Option β) (R : Nat) (a1 : Int) (a2 : Int) (h : GH) (K : Int → Int → Int → Int → Int → Int → Int → GH → Option β) : G_dos_Unpack F_dos_Check R a1 a2 h K =
    gnew [Value.int .i64 0, Value.int .i64 0, Value.int .i64 0, Value.int .i64 0, Value.int .i64 0, Value.int .i64 0] 0 h fun g3 h4 => (bif decide (a1 < 0) then gput g3 (0) [Value.int .i64 0, Value.int .i64 0, Value.int .i64 0, Value.int .i64 0, Value.int .i64 0, Value.int .i64 0] h4 fun h5 => exI .i64 (h5.cell ⟨g3, 0, none⟩) fun x6 => exI .i64 (h5.cell ⟨g3, 0 + 1, none⟩) fun x7 => exI .i64 (h5.cell ⟨g3, 0 + 1 + 1, none⟩) fun x8 => exI .i64 (h5.cell ⟨g3, 0 + 1 + 1 + 1, none⟩) fun x9 => exI .i64 (h5.cell ⟨g3, 0 + 1 + 1 + 1 + 1, none⟩) fun x10 => exI .i64 (h5.cell ⟨g3, 0 + 1 + 1 + 1 + 1 + 1, none⟩) fun x11 => K x6 x7 x8 x9 x10 x11 2 h5 else (bif decide (a1 > 65535) then gput g3 (0) [Value.int .i64 0, Value.int .i64 0, Value.int .i64 0, Value.int .i64 0, Value.int .i64 0, Value.int .i64 0] h4 fun h12 => exI .i64 (h12.cell ⟨g3, 0, none⟩) fun x13 => exI .i64 (h12.cell ⟨g3, 0 + 1, none⟩) fun x14 => exI .i64 (h12.cell ⟨g3, 0 + 1 + 1, none⟩) fun x15 => exI .i64 (h12.cell ⟨g3, 0 + 1 + 1 + 1, none⟩) fun x16 => exI .i64 (h12.cell ⟨g3, 0 + 1 + 1 + 1 + 1, none⟩) fun x17 => exI .i64 (h12.cell ⟨g3, 0 + 1 + 1 + 1 + 1 + 1, none⟩) fun x18 => K x13 x14 x15 x16 x17 x18 2 h12 else (bif decide (a2 < 0) then gput g3 (0) [Value.int .i64 0, Value.int .i64 0, Value.int .i64 0, Value.int .i64 0, Value.int .i64 0, Value.int .i64 0] h4 fun h19 => exI .i64 (h19.cell ⟨g3, 0, none⟩) fun x20 => exI .i64 (h19.cell ⟨g3, 0 + 1, none⟩) fun x21 => exI .i64 (h19.cell ⟨g3, 0 + 1 + 1, none⟩) fun x22 => exI .i64 (h19.cell ⟨g3, 0 + 1 + 1 + 1, none⟩) fun x23 => exI .i64 (h19.cell ⟨g3, 0 + 1 + 1 + 1 + 1, none⟩) fun x24 => exI .i64 (h19.cell ⟨g3, 0 + 1 + 1 + 1 + 1 + 1, none⟩) fun x25 => K x20 x21 x22 x23 x24 x25 2 h19 else (bif decide (a2 > 65535) then gput g3 (0) [Value.int .i64 0, Value.int .i64 0, Value.int .i64 0, Value.int .i64 0, Value.int .i64 0, Value.int .i64 0] h4 fun h26 => exI .i64 (h26.cell ⟨g3, 0, none⟩) fun x27 => exI .i64 (h26.cell ⟨g3, 0 + 1, none⟩) fun x28 => exI .i64 (h26.cell ⟨g3, 0 + 1 + 1, none⟩) fun x29 => exI .i64 (h26.cell ⟨g3, 0 + 1 + 1 + 1, none⟩) fun x30 => exI .i64 (h26.cell ⟨g3, 0 + 1 + 1 + 1 + 1, none⟩) fun x31 => exI .i64 (h26.cell ⟨g3, 0 + 1 + 1 + 1 + 1 + 1, none⟩) fun x32 => K x27 x28 x29 x30 x31 x32 2 h26 else gnew [Value.int .i64 0, Value.int .i64 0, Value.int .i64 0, Value.int .i64 0, Value.int .i64 0, Value.int .i64 0] 0 h4 fun g33 h34 => gput g33 (0) [Value.int .i64 (IntKind.wrap .i64 ((shrI .i64 a2 9) + 1980)), Value.int .i64 (IntKind.wrap .i64 (BitVec.ofInt (IntKind.bits .i64) (shrI .i64 a2 5) &&& BitVec.ofInt (IntKind.bits .i64) 15).toNat), Value.int .i64 (IntKind.wrap .i64 (BitVec.ofInt (IntKind.bits .i64) a2 &&& BitVec.ofInt (IntKind.bits .i64) 31).toNat), Value.int .i64 (shrI .i64 a1 11), Value.int .i64 (IntKind.wrap .i64 (BitVec.ofInt (IntKind.bits .i64) (shrI .i64 a1 5) &&& BitVec.ofInt (IntKind.bits .i64) 63).toNat), Value.int .i64 (shlI .i64 (IntKind.wrap .i64 (BitVec.ofInt (IntKind.bits .i64) a1 &&& BitVec.ofInt (IntKind.bits .i64) 31).toNat) 1)] h34 fun h35 => exI .i64 (h35.cell ⟨g33, 0, none⟩) fun x36 => exI .i64 (h35.cell ⟨g33, 0 + 1, none⟩) fun x37 => exI .i64 (h35.cell ⟨g33, 0 + 1 + 1, none⟩) fun x38 => exI .i64 (h35.cell ⟨g33, 0 + 1 + 1 + 1, none⟩) fun x39 => exI .i64 (h35.cell ⟨g33, 0 + 1 + 1 + 1 + 1, none⟩) fun x40 => exI .i64 (h35.cell ⟨g33, 0 + 1 + 1 + 1 + 1 + 1, none⟩) fun x41 => F_dos_Check x36 x37 x38 x39 x40 x41 h35 fun r42 h43 => (bif r42 != 0 then gput g3 (0) [Value.int .i64 0, Value.int .i64 0, Value.int .i64 0, Value.int .i64 0, Value.int .i64 0, Value.int .i64 0] h43 fun h44 => exI .i64 (h44.cell ⟨g3, 0, none⟩) fun x45 => exI .i64 (h44.cell ⟨g3, 0 + 1, none⟩) fun x46 => exI .i64 (h44.cell ⟨g3, 0 + 1 + 1, none⟩) fun x47 => exI .i64 (h44.cell ⟨g3, 0 + 1 + 1 + 1, none⟩) fun x48 => exI .i64 (h44.cell ⟨g3, 0 + 1 + 1 + 1 + 1, none⟩) fun x49 => exI .i64 (h44.cell ⟨g3, 0 + 1 + 1 + 1 + 1 + 1, none⟩) fun x50 => K x45 x46 x47 x48 x49 x50 r42 h44 else exI .i64 (h43.cell ⟨g33, 0, none⟩) fun x51 => exI .i64 (h43.cell ⟨g33, 0 + 1, none⟩) fun x52 => exI .i64 (h43.cell ⟨g33, 0 + 1 + 1, none⟩) fun x53 => exI .i64 (h43.cell ⟨g33, 0 + 1 + 1 + 1, none⟩) fun x54 => exI .i64 (h43.cell ⟨g33, 0 + 1 + 1 + 1 + 1, none⟩) fun x55 => exI .i64 (h43.cell ⟨g33, 0 + 1 + 1 + 1 + 1 + 1, none⟩) fun x56 => gput g3 (0) [Value.int .i64 x51, Value.int .i64 x52, Value.int .i64 x53, Value.int .i64 x54, Value.int .i64 x55, Value.int .i64 x56] h43 fun h57 => exI .i64 (h57.cell ⟨g3, 0, none⟩) fun x58 => exI .i64 (h57.cell ⟨g3, 0 + 1, none⟩) fun x59 => exI .i64 (h57.cell ⟨g3, 0 + 1 + 1, none⟩) fun x60 => exI .i64 (h57.cell ⟨g3, 0 + 1 + 1 + 1, none⟩) fun x61 => exI .i64 (h57.cell ⟨g3, 0 + 1 + 1 + 1 + 1, none⟩) fun x62 => exI .i64 (h57.cell ⟨g3, 0 + 1 + 1 + 1 + 1 + 1, none⟩) fun x63 => K x58 x59 x60 x61 x62 x63 0 h57))))) := by kernel_rfl
noncomputable def F_dos_Unpack (R : Nat) (a1 : Int) (a2 : Int) (h : GH) (K : Int → Int → Int → Int → Int → Int → Int → GH → Option β) : Option β := G_dos_Unpack (F_dos_Check R) R a1 a2 h K
set_option maxRecDepth 100000 in
theorem CF_dos_Unpack_sim {R : Nat} : SimOrc Try.prog (CF_dos_Unpack (F_dos_Check R) (β := β)) := by
  intro f args h K r hc
  unfold CF_dos_Unpack at hc
  cases hb : Nat.beq f 57 with
  | true =>
    rw [hb] at hc
    simp only [cond_true] at hc
    obtain rfl := Nat.eq_of_beq_eq_true hb
    split at hc
    · exact any_call (F_dos_Check_sim (K := K) hc)
    · cases hc
  | false =>
  rw [hb] at hc
  simp only [cond_false] at hc
  cases hc
set_option maxRecDepth 100000 in
theorem F_dos_Unpack_sim {R : Nat} {r : β} {a1 : Int} {a2 : Int} {h : GH} {K : Value → GH → Option β} (hc : F_dos_Unpack R a1 a2 h (fun q0 q1 q2 q3 q4 q5 q6 h' => K (Value.tuple #[Value.agg #[Value.int .i64 q0, Value.int .i64 q1, Value.int .i64 q2, Value.int .i64 q3, Value.int .i64 q4, Value.int .i64 q5], Value.int .i64 q6]) h') = some r) : ∃ v h', K v h' = some r ∧ CallSim Try.prog 29 [Value.int .i64 a1, Value.int .i64 a2] h v h' := by
  unfold F_dos_Unpack G_dos_Unpack at hc
  obtain ⟨v, h', hk, hs⟩ := gfun_sim (CF_dos_Unpack_sim (R := R)) mixed_ok (fun f h => by cases h) Try.func29 (by kernel_rfl) hc
  obtain ⟨vs, rfl, hl, hk⟩ := exTup_v hk
  obtain ⟨v0, t0, hk⟩ := exV_v hk
  obtain ⟨cs0, f0, hk⟩ := exAg_v hk; cases f0; obtain ⟨hl0, hk⟩ := beq_v hk
  obtain ⟨u1, e1, hk⟩ := exI_v hk
  obtain ⟨u2, e2, hk⟩ := exI_v hk
  obtain ⟨u3, e3, hk⟩ := exI_v hk
  obtain ⟨u4, e4, hk⟩ := exI_v hk
  obtain ⟨u5, e5, hk⟩ := exI_v hk
  obtain ⟨u6, e6, hk⟩ := exI_v hk
  obtain rfl := arr6 hl0 e1 e2 e3 e4 e5 e6
  obtain ⟨v1, t1, hk⟩ := exV_v hk
  obtain ⟨u7, e7, hk⟩ := exI_v hk; cases e7
  obtain rfl := arr2 hl t0 t1
  exact ⟨_, h', hk, hs⟩
/-! F9 duffel/denote.CheckCentral -/
def CF_denote_CheckCentral (F_denote_halves : Sl → GH → (Bool → GH → Option β) → Option β) (F_method_Need : Int → GH → (Int → GH → Option β) → Option β) (F_method_Allowed : Int → GH → (Int → GH → Option β) → Option β) (F_denote_checkExtra : Sl → GH → (Int → GH → Option β) → Option β) (F_dos_Unpack : Int → Int → GH → (Int → Int → Int → Int → Int → Int → Int → GH → Option β) → Option β) : Orc β := fun f args h K => bif Nat.beq f 25 then (match args with | [.slice p1a p1n p1c] => F_denote_halves ⟨p1a, p1n, p1c⟩ h (fun q12 h' => K (Value.bool q12) h') | _ => none) else (bif Nat.beq f 26 then (match args with | [.int .i64 p1] => F_method_Need p1 h (fun q4 h' => K (Value.int .i64 q4) h') | _ => none) else (bif Nat.beq f 27 then (match args with | [.int .i64 p1] => F_method_Allowed p1 h (fun q4 h' => K (Value.int .i64 q4) h') | _ => none) else (bif Nat.beq f 28 then (match args with | [.slice p1a p1n p1c] => F_denote_checkExtra ⟨p1a, p1n, p1c⟩ h (fun q8 h' => K (Value.int .i64 q8) h') | _ => none) else (bif Nat.beq f 29 then (match args with | [.int .i64 p1, .int .i64 p2] => F_dos_Unpack p1 p2 h (fun q64 q65 q66 q67 q68 q69 q70 h' => K (Value.tuple #[Value.agg #[Value.int .i64 q64, Value.int .i64 q65, Value.int .i64 q66, Value.int .i64 q67, Value.int .i64 q68, Value.int .i64 q69], Value.int .i64 q70]) h') | _ => none) else none))))
def HF_denote_CheckCentral : Hints := ⟨[], [], []⟩
noncomputable def G_denote_CheckCentral (F_denote_halves : Sl → GH → (Bool → GH → Option β) → Option β) (F_method_Need : Int → GH → (Int → GH → Option β) → Option β) (F_method_Allowed : Int → GH → (Int → GH → Option β) → Option β) (F_denote_checkExtra : Sl → GH → (Int → GH → Option β) → Option β) (F_dos_Unpack : Int → Int → GH → (Int → Int → Int → Int → Int → Int → Int → GH → Option β) → Option β) (R : Nat) (a1 : Int) (a2 : Int) (a3 : Int) (a4 : Int) (a5 : Int) (a6 : Int) (a7 : Int) (a8 : Int) (a9 : Sl) (a10 : Sl) (a11 : Int) (a12 : Int) (a13 : Int) (a14 : Int) (a15 : Int) (a16 : Sl) (h : GH) (K : Int → GH → Option β) : Option β := gfun Try.prog (CF_denote_CheckCentral F_denote_halves F_method_Need F_method_Allowed F_denote_checkExtra F_dos_Unpack) HF_denote_CheckCentral R Try.f9 [Value.agg #[Value.int .i64 a1, Value.int .i64 a2, Value.int .i64 a3, Value.int .i64 a4, Value.int .i64 a5, Value.int .u32 a6, Value.int .u32 a7, Value.int .u32 a8, Value.slice a9.a a9.n a9.c, Value.slice a10.a a10.n a10.c, Value.int .i64 a11, Value.int .i64 a12, Value.int .i64 a13, Value.int .u32 a14, Value.int .u32 a15, Value.slice a16.a a16.n a16.c]] h (fun v h' => exI .i64 (some v) fun u92 => K u92 h')
set_option maxRecDepth 100000 in
theorem F_denote_CheckCentral_gen (F_denote_halves : Sl → GH → (Bool → GH → Option β) → Option β) (F_method_Need : Int → GH → (Int → GH → Option β) → Option β) (F_method_Allowed : Int → GH → (Int → GH → Option β) → Option β) (F_denote_checkExtra : Sl → GH → (Int → GH → Option β) → Option β) (F_dos_Unpack : Int → Int → GH → (Int → Int → Int → Int → Int → Int → Int → GH → Option β) → Option β) (R : Nat) (a1 : Int) (a2 : Int) (a3 : Int) (a4 : Int) (a5 : Int) (a6 : Int) (a7 : Int) (a8 : Int) (a9 : Sl) (a10 : Sl) (a11 : Int) (a12 : Int) (a13 : Int) (a14 : Int) (a15 : Int) (a16 : Sl) (h : GH) (K : Int → GH → Option β) : G_denote_CheckCentral F_denote_halves F_method_Need F_method_Allowed F_denote_checkExtra F_dos_Unpack R a1 a2 a3 a4 a5 a6 a7 a8 a9 a10 a11 a12 a13 a14 a15 a16 h K =
    gnew [Value.int .i64 a1, Value.int .i64 a2, Value.int .i64 a3, Value.int .i64 a4, Value.int .i64 a5, Value.int .u32 a6, Value.int .u32 a7, Value.int .u32 a8, Value.slice a9.a a9.n a9.c, Value.slice a10.a a10.n a10.c, Value.int .i64 a11, Value.int .i64 a12, Value.int .i64 a13, Value.int .u32 a14, Value.int .u32 a15, Value.slice a16.a a16.n a16.c] 0 h fun g17 h18 => exI .i64 (h18.cell ⟨g17, 0 + 0, none⟩) fun x19 => exI .i64 (h18.cell ⟨g17, 0 + 0 + 1, none⟩) fun x20 => exI .i64 (h18.cell ⟨g17, 0 + 0 + 1 + 1, none⟩) fun x21 => exI .i64 (h18.cell ⟨g17, 0 + 0 + 1 + 1 + 1, none⟩) fun x22 => exI .i64 (h18.cell ⟨g17, 0 + 0 + 1 + 1 + 1 + 1, none⟩) fun x23 => exI .u32 (h18.cell ⟨g17, 0 + 0 + 1 + 1 + 1 + 1 + 1, none⟩) fun x24 => exI .u32 (h18.cell ⟨g17, 0 + 0 + 1 + 1 + 1 + 1 + 1 + 1, none⟩) fun x25 => exI .u32 (h18.cell ⟨g17, 0 + 0 + 1 + 1 + 1 + 1 + 1 + 1 + 1, none⟩) fun x26 => exS (h18.cell ⟨g17, 0 + 0 + 1 + 1 + 1 + 1 + 1 + 1 + 1 + 1, none⟩) fun x27 => exS (h18.cell ⟨g17, 0 + 0 + 1 + 1 + 1 + 1 + 1 + 1 + 1 + 1 + 1, none⟩) fun x28 => gnew [Value.int .i64 0, Value.int .i64 0, Value.int .i64 0, Value.int .i64 0, Value.int .i64 0, Value.int .u32 0, Value.int .u32 0, Value.int .u32 0, Value.slice none 0 0, Value.slice none 0 0] 0 h18 fun g29 h30 => gput g29 (0) [Value.int .i64 x19, Value.int .i64 x20, Value.int .i64 x21, Value.int .i64 x22, Value.int .i64 x23, Value.int .u32 x24, Value.int .u32 x25, Value.int .u32 x26, Value.slice x27.a x27.n x27.c, Value.slice x28.a x28.n x28.c] h30 fun h31 => exI .i64 (h31.cell ⟨g29, 0 + 0, none⟩) fun x32 => exI .i64 (h31.cell ⟨g29, 0 + 1, none⟩) fun x33 => exI .i64 (h31.cell ⟨g29, 0 + 2, none⟩) fun x34 => exI .i64 (h31.cell ⟨g29, 0 + 3, none⟩) fun x35 => exI .i64 (h31.cell ⟨g29, 0 + 4, none⟩) fun x36 => exI .i64 (h31.cell ⟨g17, 0 + 10, none⟩) fun x37 => exI .i64 (h31.cell ⟨g17, 0 + 11, none⟩) fun x38 => exI .i64 (h31.cell ⟨g17, 0 + 12, none⟩) fun x39 => gnew [Value.int .i64 x32, Value.int .i64 x33, Value.int .i64 x34, Value.int .i64 x35, Value.int .i64 x36, Value.int .i64 x37, Value.int .i64 x38, Value.int .i64 x39] 1 h31 fun g40 h41 => F_denote_halves ⟨(some ⟨g40, 0, none⟩), 8, 8⟩ h41 fun r42 h43 => (bif !r42 then K 18 h43 else exI .i64 (h43.cell ⟨g17, 0 + 11, none⟩) fun x44 => (bif x44 != 0 then K 12 h43 else exI .u32 (h43.cell ⟨g29, 0 + 6, none⟩) fun x45 => (bif x45 == 4294967295 then K 12 h43 else exI .u32 (h43.cell ⟨g29, 0 + 7, none⟩) fun x46 => (bif x46 == 4294967295 then K 12 h43 else exI .u32 (h43.cell ⟨g17, 0 + 14, none⟩) fun x47 => (bif x47 == 4294967295 then K 12 h43 else exI .i64 (h43.cell ⟨g29, 0 + 2, none⟩) fun x48 => F_method_Need x48 h43 fun r49 h50 => (bif r49 == 0 then K 11 h50 else exI .i64 (h50.cell ⟨g29, 0 + 1, none⟩) fun x51 => exI .i64 (h50.cell ⟨g29, 0 + 2, none⟩) fun x52 => F_method_Allowed x52 h50 fun r53 h54 => (bif (IntKind.wrap .i64 (BitVec.ofInt (IntKind.bits .i64) x51 &&& ~~~ (BitVec.ofInt (IntKind.bits .i64) r53)).toNat) != 0 then (bif sameAt g29 (0 + 1) 1 h50 h54 then K 12 h54 else none) else exI .i64 (h54.cell ⟨g29, 0 + 0, none⟩) fun x55 => (bif sameAt g29 (0 + 1) 1 h50 h54 then (bif decide (x55 > 21) then K 12 h54 else exI .i64 (h54.cell ⟨g29, 0 + 2, none⟩) fun x56 => (bif x56 == 0 then exI .u32 (h54.cell ⟨g29, 0 + 6, none⟩) fun x57 => exI .u32 (h54.cell ⟨g29, 0 + 7, none⟩) fun x58 => (bif x57 != x58 then K 9 h54 else exS (h54.cell ⟨g29, 0 + 9, none⟩) fun x59 => F_denote_checkExtra x59 h54 fun r60 h61 => (bif r60 != 0 then K r60 h61 else exI .i64 (h61.cell ⟨g29, 0 + 3, none⟩) fun x62 => exI .i64 (h61.cell ⟨g29, 0 + 4, none⟩) fun x63 => F_dos_Unpack x62 x63 h61 fun r64 r65 r66 r67 r68 r69 r70 h71 => gnew [Value.int .i64 0, Value.int .i64 0, Value.int .i64 0, Value.int .i64 0, Value.int .i64 0, Value.int .i64 0] 0 h71 fun g72 h73 => gput g72 (0) [Value.int .i64 r64, Value.int .i64 r65, Value.int .i64 r66, Value.int .i64 r67, Value.int .i64 r68, Value.int .i64 r69] h73 fun h74 => K r70 h74)) else exS (h54.cell ⟨g29, 0 + 9, none⟩) fun x75 => F_denote_checkExtra x75 h54 fun r76 h77 => (bif r76 != 0 then K r76 h77 else exI .i64 (h77.cell ⟨g29, 0 + 3, none⟩) fun x78 => exI .i64 (h77.cell ⟨g29, 0 + 4, none⟩) fun x79 => F_dos_Unpack x78 x79 h77 fun r80 r81 r82 r83 r84 r85 r86 h87 => gnew [Value.int .i64 0, Value.int .i64 0, Value.int .i64 0, Value.int .i64 0, Value.int .i64 0, Value.int .i64 0] 0 h87 fun g88 h89 => gput g88 (0) [Value.int .i64 r80, Value.int .i64 r81, Value.int .i64 r82, Value.int .i64 r83, Value.int .i64 r84, Value.int .i64 r85] h89 fun h90 => K r86 h90))) else none)))))))) := by kernel_rfl
noncomputable def F_denote_CheckCentral (R : Nat) (a1 : Int) (a2 : Int) (a3 : Int) (a4 : Int) (a5 : Int) (a6 : Int) (a7 : Int) (a8 : Int) (a9 : Sl) (a10 : Sl) (a11 : Int) (a12 : Int) (a13 : Int) (a14 : Int) (a15 : Int) (a16 : Sl) (h : GH) (K : Int → GH → Option β) : Option β := G_denote_CheckCentral (F_denote_halves R) (F_method_Need R) (F_method_Allowed R) (F_denote_checkExtra R) (F_dos_Unpack R) R a1 a2 a3 a4 a5 a6 a7 a8 a9 a10 a11 a12 a13 a14 a15 a16 h K
set_option maxRecDepth 100000 in
theorem CF_denote_CheckCentral_sim {R : Nat} : SimOrc Try.prog (CF_denote_CheckCentral (F_denote_halves R) (F_method_Need R) (F_method_Allowed R) (F_denote_checkExtra R) (F_dos_Unpack R) (β := β)) := by
  intro f args h K r hc
  unfold CF_denote_CheckCentral at hc
  cases hb : Nat.beq f 25 with
  | true =>
    rw [hb] at hc
    simp only [cond_true] at hc
    obtain rfl := Nat.eq_of_beq_eq_true hb
    split at hc
    · exact any_call (F_denote_halves_sim (K := K) hc)
    · cases hc
  | false =>
  rw [hb] at hc
  simp only [cond_false] at hc
  cases hb : Nat.beq f 26 with
  | true =>
    rw [hb] at hc
    simp only [cond_true] at hc
    obtain rfl := Nat.eq_of_beq_eq_true hb
    split at hc
    · exact any_call (F_method_Need_sim (K := K) hc)
    · cases hc
  | false =>
  rw [hb] at hc
  simp only [cond_false] at hc
  cases hb : Nat.beq f 27 with
  | true =>
    rw [hb] at hc
    simp only [cond_true] at hc
    obtain rfl := Nat.eq_of_beq_eq_true hb
    split at hc
    · exact any_call (F_method_Allowed_sim (K := K) hc)
    · cases hc
  | false =>
  rw [hb] at hc
  simp only [cond_false] at hc
  cases hb : Nat.beq f 28 with
  | true =>
    rw [hb] at hc
    simp only [cond_true] at hc
    obtain rfl := Nat.eq_of_beq_eq_true hb
    split at hc
    · exact any_call (F_denote_checkExtra_sim (K := K) hc)
    · cases hc
  | false =>
  rw [hb] at hc
  simp only [cond_false] at hc
  cases hb : Nat.beq f 29 with
  | true =>
    rw [hb] at hc
    simp only [cond_true] at hc
    obtain rfl := Nat.eq_of_beq_eq_true hb
    split at hc
    · exact any_call (F_dos_Unpack_sim (K := K) hc)
    · cases hc
  | false =>
  rw [hb] at hc
  simp only [cond_false] at hc
  cases hc
set_option maxRecDepth 100000 in
theorem F_denote_CheckCentral_sim {R : Nat} {r : β} {a1 : Int} {a2 : Int} {a3 : Int} {a4 : Int} {a5 : Int} {a6 : Int} {a7 : Int} {a8 : Int} {a9 : Sl} {a10 : Sl} {a11 : Int} {a12 : Int} {a13 : Int} {a14 : Int} {a15 : Int} {a16 : Sl} {h : GH} {K : Value → GH → Option β} (hc : F_denote_CheckCentral R a1 a2 a3 a4 a5 a6 a7 a8 a9 a10 a11 a12 a13 a14 a15 a16 h (fun q0 h' => K (Value.int .i64 q0) h') = some r) : ∃ v h', K v h' = some r ∧ CallSim Try.prog 9 [Value.agg #[Value.int .i64 a1, Value.int .i64 a2, Value.int .i64 a3, Value.int .i64 a4, Value.int .i64 a5, Value.int .u32 a6, Value.int .u32 a7, Value.int .u32 a8, Value.slice a9.a a9.n a9.c, Value.slice a10.a a10.n a10.c, Value.int .i64 a11, Value.int .i64 a12, Value.int .i64 a13, Value.int .u32 a14, Value.int .u32 a15, Value.slice a16.a a16.n a16.c]] h v h' := by
  unfold F_denote_CheckCentral G_denote_CheckCentral at hc
  obtain ⟨v, h', hk, hs⟩ := gfun_sim (CF_denote_CheckCentral_sim (R := R)) mixed_ok (fun f h => by cases h) Try.func9 (by kernel_rfl) hc
  obtain ⟨u0, e0, hk⟩ := exI_v hk; cases e0
  exact ⟨_, h', hk, hs⟩
/-! F35 (*duffel/denote.scanner).centrals -/
def CF_denote_scanner_centrals (F_field_Open : Sl → GH → (Option Addr → GH → Option β) → Option β) (F_record_ReadCentral : Option Addr → GH → (Int → Int → Int → Int → Int → Int → Int → Int → Sl → Sl → Int → Int → Int → Int → Int → Sl → Int → GH → Option β) → Option β) (F_field_Cursor_Left : Option Addr → GH → (Int → GH → Option β) → Option β) (F_denote_CheckCentral : Int → Int → Int → Int → Int → Int → Int → Int → Sl → Sl → Int → Int → Int → Int → Int → Sl → GH → (Int → GH → Option β) → Option β) : Orc β := fun f args h K => bif Nat.beq f 36 then (match args with | [.slice p1a p1n p1c] => F_field_Open ⟨p1a, p1n, p1c⟩ h (fun q6 h' => K (Value.pointer q6) h') | _ => none) else (bif Nat.beq f 61 then (match args with | [.pointer p1] => F_record_ReadCentral p1 h (fun q138 q139 q140 q141 q142 q143 q144 q145 q146 q147 q148 q149 q150 q151 q152 q153 q154 h' => K (Value.tuple #[Value.agg #[Value.int .i64 q138, Value.int .i64 q139, Value.int .i64 q140, Value.int .i64 q141, Value.int .i64 q142, Value.int .u32 q143, Value.int .u32 q144, Value.int .u32 q145, Value.slice q146.a q146.n q146.c, Value.slice q147.a q147.n q147.c, Value.int .i64 q148, Value.int .i64 q149, Value.int .i64 q150, Value.int .u32 q151, Value.int .u32 q152, Value.slice q153.a q153.n q153.c], Value.int .i64 q154]) h') | _ => none) else (bif Nat.beq f 38 then (match args with | [.pointer p1] => F_field_Cursor_Left p1 h (fun q10 h' => K (Value.int .i64 q10) h') | _ => none) else (bif Nat.beq f 9 then (match args with | [.agg ⟨[.int .i64 p1, .int .i64 p2, .int .i64 p3, .int .i64 p4, .int .i64 p5, .int .u32 p6, .int .u32 p7, .int .u32 p8, .slice p9a p9n p9c, .slice p10a p10n p10c, .int .i64 p11, .int .i64 p12, .int .i64 p13, .int .u32 p14, .int .u32 p15, .slice p16a p16n p16c]⟩] => F_denote_CheckCentral p1 p2 p3 p4 p5 p6 p7 p8 ⟨p9a, p9n, p9c⟩ ⟨p10a, p10n, p10c⟩ p11 p12 p13 p14 p15 ⟨p16a, p16n, p16c⟩ h (fun q91 h' => K (Value.int .i64 q91) h') | _ => none) else none)))
def HF_denote_scanner_centrals : Hints := ⟨[(4, [4, 5, 30, 31], [(0, [(4, .ty 36), (5, .ty 78)])], some [(2, .ty 36), (3, .ty 29)]), (13, [4, 50, 51, 52], [(2, [(4, .ty 36)])], some [(2, .ty 36), (3, .ty 29)])], [], []⟩
noncomputable def BF_denote_scanner_centrals : Code := match Try.f35.body with | some c => c | none => .skip
noncomputable def F_denote_scanner_centrals_l0 (F_field_Open : Sl → GH → (Option Addr → GH → Option β) → Option β) (F_record_ReadCentral : Option Addr → GH → (Int → Int → Int → Int → Int → Int → Int → Int → Sl → Sl → Int → Int → Int → Int → Int → Sl → Int → GH → Option β) → Option β) (F_field_Cursor_Left : Option Addr → GH → (Int → GH → Option β) → Option β) (F_denote_CheckCentral : Int → Int → Int → Int → Int → Int → Int → Int → Sl → Sl → Int → Int → Int → Int → Int → Sl → GH → (Int → GH → Option β) → Option β) (R : Nat) (n : Nat) (y18 : Sl) (y19 : Option Addr) (y20 : Int) (y21 : Int) (h : GH) (K0 : Sl → Option Addr → GH → Option β) (Kr : Sl → Int → GH → Option β) : Option β := gloop (gcode Try.prog (CF_denote_scanner_centrals F_field_Open F_record_ReadCentral F_field_Cursor_Left F_denote_CheckCentral) Try.f35.ntmps HF_denote_scanner_centrals R (at_ [true, true, true, false, true, false, false] BF_denote_scanner_centrals)) [4, 5, 30, 31] n [(4, Value.slice y18.a y18.n y18.c), (5, Value.pointer y19), (30, Value.int .i64 y20), (31, Value.int .i64 y21)] h (fun i e' h' => bif Nat.beq i 0 then (exS (some (e'.get 4)) fun u130 => exP (some (e'.get 5)) fun u131 => K0 u130 u131 h') else none) (fun e' h' => exS (some (e'.get 2)) fun u132 => exI .i64 (some (e'.get 3)) fun u133 => Kr u132 u133 h')
noncomputable def F_denote_scanner_centrals_l1 (F_field_Open : Sl → GH → (Option Addr → GH → Option β) → Option β) (F_record_ReadCentral : Option Addr → GH → (Int → Int → Int → Int → Int → Int → Int → Int → Sl → Sl → Int → Int → Int → Int → Int → Sl → Int → GH → Option β) → Option β) (F_field_Cursor_Left : Option Addr → GH → (Int → GH → Option β) → Option β) (F_denote_CheckCentral : Int → Int → Int → Int → Int → Int → Int → Int → Sl → Sl → Int → Int → Int → Int → Int → Sl → GH → (Int → GH → Option β) → Option β) (R : Nat) (n : Nat) (y72 : Sl) (y73 : Sl) (y74 : Int) (y75 : Int) (h : GH) (K2 : Sl → GH → Option β) (Kr : Sl → Int → GH → Option β) : Option β := gloop (gcode Try.prog (CF_denote_scanner_centrals F_field_Open F_record_ReadCentral F_field_Cursor_Left F_denote_CheckCentral) Try.f35.ntmps HF_denote_scanner_centrals R (at_ [true, true, true, true, true, false, true, false, false] BF_denote_scanner_centrals)) [4, 50, 51, 52] n [(4, Value.slice y72.a y72.n y72.c), (50, Value.slice y73.a y73.n y73.c), (51, Value.int .i64 y74), (52, Value.int .i64 y75)] h (fun i e' h' => bif Nat.beq i 2 then (exS (some (e'.get 4)) fun u134 => K2 u134 h') else none) (fun e' h' => exS (some (e'.get 2)) fun u135 => exI .i64 (some (e'.get 3)) fun u136 => Kr u135 u136 h')
set_option maxRecDepth 100000 in
theorem F_denote_scanner_centrals_l1_succ (F_field_Open : Sl → GH → (Option Addr → GH → Option β) → Option β) (F_record_ReadCentral : Option Addr → GH → (Int → Int → Int → Int → Int → Int → Int → Int → Sl → Sl → Int → Int → Int → Int → Int → Sl → Int → GH → Option β) → Option β) (F_field_Cursor_Left : Option Addr → GH → (Int → GH → Option β) → Option β) (F_denote_CheckCentral : Int → Int → Int → Int → Int → Int → Int → Int → Sl → Sl → Int → Int → Int → Int → Int → Sl → GH → (Int → GH → Option β) → Option β) (R : Nat) (n : Nat) (y72 : Sl) (y73 : Sl) (y74 : Int) (y75 : Int) (h : GH) (K2 : Sl → GH → Option β) (Kr : Sl → Int → GH → Option β) : F_denote_scanner_centrals_l1 F_field_Open F_record_ReadCentral F_field_Cursor_Left F_denote_CheckCentral R (n + 1) y72 y73 y74 y75 h K2 Kr =
    (bif decide (y75 < y74) then exA y73.a fun g79 o80 => within y75 y73.n (exI .i64 (h.cell ⟨g79, o80 + y75.toNat * 18, none⟩) fun x81 => exI .i64 (h.cell ⟨g79, o80 + y75.toNat * 18 + 1, none⟩) fun x82 => exI .i64 (h.cell ⟨g79, o80 + y75.toNat * 18 + 1 + 1, none⟩) fun x83 => exI .i64 (h.cell ⟨g79, o80 + y75.toNat * 18 + 1 + 1 + 1, none⟩) fun x84 => exI .i64 (h.cell ⟨g79, o80 + y75.toNat * 18 + 1 + 1 + 1 + 1, none⟩) fun x85 => exI .u32 (h.cell ⟨g79, o80 + y75.toNat * 18 + 1 + 1 + 1 + 1 + 1, none⟩) fun x86 => exI .u32 (h.cell ⟨g79, o80 + y75.toNat * 18 + 1 + 1 + 1 + 1 + 1 + 1, none⟩) fun x87 => exI .u32 (h.cell ⟨g79, o80 + y75.toNat * 18 + 1 + 1 + 1 + 1 + 1 + 1 + 1, none⟩) fun x88 => exS (h.cell ⟨g79, o80 + y75.toNat * 18 + 1 + 1 + 1 + 1 + 1 + 1 + 1 + 1, none⟩) fun x89 => exS (h.cell ⟨g79, o80 + y75.toNat * 18 + 1 + 1 + 1 + 1 + 1 + 1 + 1 + 1 + 1, none⟩) fun x90 => exI .i64 (h.cell ⟨g79, o80 + y75.toNat * 18 + 1 + 1 + 1 + 1 + 1 + 1 + 1 + 1 + 1 + 1, none⟩) fun x91 => exI .i64 (h.cell ⟨g79, o80 + y75.toNat * 18 + 1 + 1 + 1 + 1 + 1 + 1 + 1 + 1 + 1 + 1 + 1, none⟩) fun x92 => exI .i64 (h.cell ⟨g79, o80 + y75.toNat * 18 + 1 + 1 + 1 + 1 + 1 + 1 + 1 + 1 + 1 + 1 + 1 + 1, none⟩) fun x93 => exI .u32 (h.cell ⟨g79, o80 + y75.toNat * 18 + 1 + 1 + 1 + 1 + 1 + 1 + 1 + 1 + 1 + 1 + 1 + 1 + 1, none⟩) fun x94 => exI .u32 (h.cell ⟨g79, o80 + y75.toNat * 18 + 1 + 1 + 1 + 1 + 1 + 1 + 1 + 1 + 1 + 1 + 1 + 1 + 1 + 1, none⟩) fun x95 => exS (h.cell ⟨g79, o80 + y75.toNat * 18 + 1 + 1 + 1 + 1 + 1 + 1 + 1 + 1 + 1 + 1 + 1 + 1 + 1 + 1 + 1, none⟩) fun x96 => exS (h.cell ⟨g79, o80 + y75.toNat * 18 + 1 + 1 + 1 + 1 + 1 + 1 + 1 + 1 + 1 + 1 + 1 + 1 + 1 + 1 + 1 + 1, none⟩) fun x97 => exS (h.cell ⟨g79, o80 + y75.toNat * 18 + 1 + 1 + 1 + 1 + 1 + 1 + 1 + 1 + 1 + 1 + 1 + 1 + 1 + 1 + 1 + 1 + 1, none⟩) fun x98 => gnew [Value.int .i64 0, Value.int .i64 0, Value.int .i64 0, Value.int .i64 0, Value.int .i64 0, Value.int .u32 0, Value.int .u32 0, Value.int .u32 0, Value.slice none 0 0, Value.slice none 0 0, Value.int .i64 0, Value.int .i64 0, Value.int .i64 0, Value.int .u32 0, Value.int .u32 0, Value.slice none 0 0, Value.slice none 0 0, Value.slice none 0 0] 0 h fun g99 h100 => gput g99 (0) [Value.int .i64 x81, Value.int .i64 x82, Value.int .i64 x83, Value.int .i64 x84, Value.int .i64 x85, Value.int .u32 x86, Value.int .u32 x87, Value.int .u32 x88, Value.slice x89.a x89.n x89.c, Value.slice x90.a x90.n x90.c, Value.int .i64 x91, Value.int .i64 x92, Value.int .i64 x93, Value.int .u32 x94, Value.int .u32 x95, Value.slice x96.a x96.n x96.c, Value.slice x97.a x97.n x97.c, Value.slice x98.a x98.n x98.c] h100 fun h101 => exI .i64 (h101.cell ⟨g99, 0 + 0, none⟩) fun x102 => exI .i64 (h101.cell ⟨g99, 0 + 0 + 1, none⟩) fun x103 => exI .i64 (h101.cell ⟨g99, 0 + 0 + 1 + 1, none⟩) fun x104 => exI .i64 (h101.cell ⟨g99, 0 + 0 + 1 + 1 + 1, none⟩) fun x105 => exI .i64 (h101.cell ⟨g99, 0 + 0 + 1 + 1 + 1 + 1, none⟩) fun x106 => exI .u32 (h101.cell ⟨g99, 0 + 0 + 1 + 1 + 1 + 1 + 1, none⟩) fun x107 => exI .u32 (h101.cell ⟨g99, 0 + 0 + 1 + 1 + 1 + 1 + 1 + 1, none⟩) fun x108 => exI .u32 (h101.cell ⟨g99, 0 + 0 + 1 + 1 + 1 + 1 + 1 + 1 + 1, none⟩) fun x109 => exS (h101.cell ⟨g99, 0 + 0 + 1 + 1 + 1 + 1 + 1 + 1 + 1 + 1, none⟩) fun x110 => exS (h101.cell ⟨g99, 0 + 0 + 1 + 1 + 1 + 1 + 1 + 1 + 1 + 1 + 1, none⟩) fun x111 => exI .i64 (h101.cell ⟨g99, 0 + 0 + 1 + 1 + 1 + 1 + 1 + 1 + 1 + 1 + 1 + 1, none⟩) fun x112 => exI .i64 (h101.cell ⟨g99, 0 + 0 + 1 + 1 + 1 + 1 + 1 + 1 + 1 + 1 + 1 + 1 + 1, none⟩) fun x113 => exI .i64 (h101.cell ⟨g99, 0 + 0 + 1 + 1 + 1 + 1 + 1 + 1 + 1 + 1 + 1 + 1 + 1 + 1, none⟩) fun x114 => exI .u32 (h101.cell ⟨g99, 0 + 0 + 1 + 1 + 1 + 1 + 1 + 1 + 1 + 1 + 1 + 1 + 1 + 1 + 1, none⟩) fun x115 => exI .u32 (h101.cell ⟨g99, 0 + 0 + 1 + 1 + 1 + 1 + 1 + 1 + 1 + 1 + 1 + 1 + 1 + 1 + 1 + 1, none⟩) fun x116 => exS (h101.cell ⟨g99, 0 + 0 + 1 + 1 + 1 + 1 + 1 + 1 + 1 + 1 + 1 + 1 + 1 + 1 + 1 + 1 + 1, none⟩) fun x117 => F_denote_CheckCentral x102 x103 x104 x105 x106 x107 x108 x109 x110 x111 x112 x113 x114 x115 x116 x117 h101 fun r118 h119 => (bif r118 != 0 then Kr ⟨none, 0, 0⟩ r118 h119 else F_denote_scanner_centrals_l1 F_field_Open F_record_ReadCentral F_field_Cursor_Left F_denote_CheckCentral R n y72 y73 y74 (IntKind.wrap .i64 (y75 + 1)) h119 K2 Kr)) else K2 y72 h) := by kernel_rfl
set_option maxRecDepth 100000 in
theorem F_denote_scanner_centrals_l0_succ (F_field_Open : Sl → GH → (Option Addr → GH → Option β) → Option β) (F_record_ReadCentral : Option Addr → GH → (Int → Int → Int → Int → Int → Int → Int → Int → Sl → Sl → Int → Int → Int → Int → Int → Sl → Int → GH → Option β) → Option β) (F_field_Cursor_Left : Option Addr → GH → (Int → GH → Option β) → Option β) (F_denote_CheckCentral : Int → Int → Int → Int → Int → Int → Int → Int → Sl → Sl → Int → Int → Int → Int → Int → Sl → GH → (Int → GH → Option β) → Option β) (R : Nat) (n : Nat) (y18 : Sl) (y19 : Option Addr) (y20 : Int) (y21 : Int) (h : GH) (K0 : Sl → Option Addr → GH → Option β) (Kr : Sl → Int → GH → Option β) : F_denote_scanner_centrals_l0 F_field_Open F_record_ReadCentral F_field_Cursor_Left F_denote_CheckCentral R (n + 1) y18 y19 y20 y21 h K0 Kr =
    (bif decide (y21 < y20) then F_record_ReadCentral y19 h fun r26 r27 r28 r29 r30 r31 r32 r33 r34 r35 r36 r37 r38 r39 r40 r41 r42 h43 => gnew [Value.int .i64 0, Value.int .i64 0, Value.int .i64 0, Value.int .i64 0, Value.int .i64 0, Value.int .u32 0, Value.int .u32 0, Value.int .u32 0, Value.slice none 0 0, Value.slice none 0 0, Value.int .i64 0, Value.int .i64 0, Value.int .i64 0, Value.int .u32 0, Value.int .u32 0, Value.slice none 0 0] 0 h43 fun g44 h45 => gput g44 (0) [Value.int .i64 r26, Value.int .i64 r27, Value.int .i64 r28, Value.int .i64 r29, Value.int .i64 r30, Value.int .u32 r31, Value.int .u32 r32, Value.int .u32 r33, Value.slice r34.a r34.n r34.c, Value.slice r35.a r35.n r35.c, Value.int .i64 r36, Value.int .i64 r37, Value.int .i64 r38, Value.int .u32 r39, Value.int .u32 r40, Value.slice r41.a r41.n r41.c] h45 fun h46 => (bif r42 != 0 then Kr ⟨none, 0, 0⟩ r42 h46 else exI .i64 (h46.cell ⟨g44, 0, none⟩) fun x47 => exI .i64 (h46.cell ⟨g44, 0 + 1, none⟩) fun x48 => exI .i64 (h46.cell ⟨g44, 0 + 1 + 1, none⟩) fun x49 => exI .i64 (h46.cell ⟨g44, 0 + 1 + 1 + 1, none⟩) fun x50 => exI .i64 (h46.cell ⟨g44, 0 + 1 + 1 + 1 + 1, none⟩) fun x51 => exI .u32 (h46.cell ⟨g44, 0 + 1 + 1 + 1 + 1 + 1, none⟩) fun x52 => exI .u32 (h46.cell ⟨g44, 0 + 1 + 1 + 1 + 1 + 1 + 1, none⟩) fun x53 => exI .u32 (h46.cell ⟨g44, 0 + 1 + 1 + 1 + 1 + 1 + 1 + 1, none⟩) fun x54 => exS (h46.cell ⟨g44, 0 + 1 + 1 + 1 + 1 + 1 + 1 + 1 + 1, none⟩) fun x55 => exS (h46.cell ⟨g44, 0 + 1 + 1 + 1 + 1 + 1 + 1 + 1 + 1 + 1, none⟩) fun x56 => exI .i64 (h46.cell ⟨g44, 0 + 1 + 1 + 1 + 1 + 1 + 1 + 1 + 1 + 1 + 1, none⟩) fun x57 => exI .i64 (h46.cell ⟨g44, 0 + 1 + 1 + 1 + 1 + 1 + 1 + 1 + 1 + 1 + 1 + 1, none⟩) fun x58 => exI .i64 (h46.cell ⟨g44, 0 + 1 + 1 + 1 + 1 + 1 + 1 + 1 + 1 + 1 + 1 + 1 + 1, none⟩) fun x59 => exI .u32 (h46.cell ⟨g44, 0 + 1 + 1 + 1 + 1 + 1 + 1 + 1 + 1 + 1 + 1 + 1 + 1 + 1, none⟩) fun x60 => exI .u32 (h46.cell ⟨g44, 0 + 1 + 1 + 1 + 1 + 1 + 1 + 1 + 1 + 1 + 1 + 1 + 1 + 1 + 1, none⟩) fun x61 => exS (h46.cell ⟨g44, 0 + 1 + 1 + 1 + 1 + 1 + 1 + 1 + 1 + 1 + 1 + 1 + 1 + 1 + 1 + 1, none⟩) fun x62 => gnew [Value.int .i64 x47, Value.int .i64 x48, Value.int .i64 x49, Value.int .i64 x50, Value.int .i64 x51, Value.int .u32 x52, Value.int .u32 x53, Value.int .u32 x54, Value.slice x55.a x55.n x55.c, Value.slice x56.a x56.n x56.c, Value.int .i64 x57, Value.int .i64 x58, Value.int .i64 x59, Value.int .u32 x60, Value.int .u32 x61, Value.slice x62.a x62.n x62.c, Value.slice none 0 0, Value.slice none 0 0] 18 h46 fun g63 h64 => gappS 18 208 y18 ⟨(some ⟨g63, 0, none⟩), 1, 1⟩ h64 fun s65 h66 => F_denote_scanner_centrals_l0 F_field_Open F_record_ReadCentral F_field_Cursor_Left F_denote_CheckCentral R n s65 y19 y20 (IntKind.wrap .i64 (y21 + 1)) h66 K0 Kr) else K0 y18 y19 h) := by kernel_rfl
noncomputable def G_denote_scanner_centrals (F_field_Open : Sl → GH → (Option Addr → GH → Option β) → Option β) (F_record_ReadCentral : Option Addr → GH → (Int → Int → Int → Int → Int → Int → Int → Int → Sl → Sl → Int → Int → Int → Int → Int → Sl → Int → GH → Option β) → Option β) (F_field_Cursor_Left : Option Addr → GH → (Int → GH → Option β) → Option β) (F_denote_CheckCentral : Int → Int → Int → Int → Int → Int → Int → Int → Sl → Sl → Int → Int → Int → Int → Int → Sl → GH → (Int → GH → Option β) → Option β) (R : Nat) (a1 : Option Addr) (h : GH) (K : Sl → Int → GH → Option β) : Option β := gfun Try.prog (CF_denote_scanner_centrals F_field_Open F_record_ReadCentral F_field_Cursor_Left F_denote_CheckCentral) HF_denote_scanner_centrals R Try.f35 [Value.pointer a1] h (fun v h' => exTup 2 v fun vs => exV (nth vs 0) fun v0 => exS (some v0) fun u137 => exV (nth vs 1) fun v1 => exI .i64 (some v1) fun u138 => K u137 u138 h')
set_option maxRecDepth 100000 in
theorem F_denote_scanner_centrals_gen (F_field_Open : Sl → GH → (Option Addr → GH → Option β) → Option β) (F_record_ReadCentral : Option Addr → GH → (Int → Int → Int → Int → Int → Int → Int → Int → Sl → Sl → Int → Int → Int → Int → Int → Sl → Int → GH → Option β) → Option β) (F_field_Cursor_Left : Option Addr → GH → (Int → GH → Option β) → Option β) (F_denote_CheckCentral : Int → Int → Int → Int → Int → Int → Int → Int → Sl → Sl → Int → Int → Int → Int → Int → Sl → GH → (Int → GH → Option β) → Option β) (R : Nat) (a1 : Option Addr) (h : GH) (K : Sl → Int → GH → Option β) : G_denote_scanner_centrals F_field_Open F_record_ReadCentral F_field_Cursor_Left F_denote_CheckCentral R a1 h K =
    exA a1 fun g2 o3 => exS (h.cell ⟨g2, o3 + 0, none⟩) fun x4 => exA a1 fun g5 o6 => exI .u32 (h.cell ⟨g5, o6 + 1 + 5, none⟩) fun x7 => exA a1 fun g8 o9 => exI .i64 (h.cell ⟨g8, o9 + 8, none⟩) fun x10 => bnd x10 x4.c fun m11 => bnd x7 m11 fun m12 => F_field_Open ⟨addO x4.a (m12 * 1), m11 - m12, x4.c - m12⟩ h fun r13 h14 => exA a1 fun g15 o16 => exI .i64 (h14.cell ⟨g15, o16 + 1 + 3, none⟩) fun x17 => F_denote_scanner_centrals_l0 F_field_Open F_record_ReadCentral F_field_Cursor_Left F_denote_CheckCentral R R ⟨none, 0, 0⟩ r13 x17 0 h14 (fun w67 w68 h69 => F_field_Cursor_Left w68 h69 fun r70 h71 => (bif decide (r70 > 0) then K ⟨none, 0, 0⟩ 14 h71 else F_denote_scanner_centrals_l1 F_field_Open F_record_ReadCentral F_field_Cursor_Left F_denote_CheckCentral R R w67 w67 ((w67.n : Nat) : Int) 0 h71 (fun w120 h121 => K w120 0 h121) (fun w122 w123 h124 => K w122 w123 h124))) (fun w125 w126 h127 => K w125 w126 h127) := by kernel_rfl
noncomputable def F_denote_scanner_centrals (R : Nat) (a1 : Option Addr) (h : GH) (K : Sl → Int → GH → Option β) : Option β := G_denote_scanner_centrals (F_field_Open R) (F_record_ReadCentral R) (F_field_Cursor_Left R) (F_denote_CheckCentral R) R a1 h K
set_option maxRecDepth 100000 in
theorem CF_denote_scanner_centrals_sim {R : Nat} : SimOrc Try.prog (CF_denote_scanner_centrals (F_field_Open R) (F_record_ReadCentral R) (F_field_Cursor_Left R) (F_denote_CheckCentral R) (β := β)) := by
  intro f args h K r hc
  unfold CF_denote_scanner_centrals at hc
  cases hb : Nat.beq f 36 with
  | true =>
    rw [hb] at hc
    simp only [cond_true] at hc
    obtain rfl := Nat.eq_of_beq_eq_true hb
    split at hc
    · exact any_call (F_field_Open_sim (K := K) hc)
    · cases hc
  | false =>
  rw [hb] at hc
  simp only [cond_false] at hc
  cases hb : Nat.beq f 61 with
  | true =>
    rw [hb] at hc
    simp only [cond_true] at hc
    obtain rfl := Nat.eq_of_beq_eq_true hb
    split at hc
    · exact any_call (F_record_ReadCentral_sim (K := K) hc)
    · cases hc
  | false =>
  rw [hb] at hc
  simp only [cond_false] at hc
  cases hb : Nat.beq f 38 with
  | true =>
    rw [hb] at hc
    simp only [cond_true] at hc
    obtain rfl := Nat.eq_of_beq_eq_true hb
    split at hc
    · exact any_call (F_field_Cursor_Left_sim (K := K) hc)
    · cases hc
  | false =>
  rw [hb] at hc
  simp only [cond_false] at hc
  cases hb : Nat.beq f 9 with
  | true =>
    rw [hb] at hc
    simp only [cond_true] at hc
    obtain rfl := Nat.eq_of_beq_eq_true hb
    split at hc
    · exact any_call (F_denote_CheckCentral_sim (K := K) hc)
    · cases hc
  | false =>
  rw [hb] at hc
  simp only [cond_false] at hc
  cases hc
set_option maxRecDepth 100000 in
theorem F_denote_scanner_centrals_sim {R : Nat} {r : β} {a1 : Option Addr} {h : GH} {K : Value → GH → Option β} (hc : F_denote_scanner_centrals R a1 h (fun q0 q1 h' => K (Value.tuple #[Value.slice q0.a q0.n q0.c, Value.int .i64 q1]) h') = some r) : ∃ v h', K v h' = some r ∧ CallSim Try.prog 35 [Value.pointer a1] h v h' := by
  unfold F_denote_scanner_centrals G_denote_scanner_centrals at hc
  obtain ⟨v, h', hk, hs⟩ := gfun_sim (CF_denote_scanner_centrals_sim (R := R)) mixed_ok (fun f h => by cases h) Try.func35 (by kernel_rfl) hc
  obtain ⟨vs, rfl, hl, hk⟩ := exTup_v hk
  obtain ⟨v0, t0, hk⟩ := exV_v hk
  obtain ⟨u0, e0, hk⟩ := exS_v hk; cases e0
  obtain ⟨v1, t1, hk⟩ := exV_v hk
  obtain ⟨u1, e1, hk⟩ := exI_v hk; cases e1
  obtain rfl := arr2 hl t0 t1
  exact ⟨_, h', hk, hs⟩
/-! F63 (*duffel/field.Cursor).At -/
def CF_field_Cursor_At  : Orc β := fun f args h K => none
def HF_field_Cursor_At : Hints := ⟨[], [], []⟩
noncomputable def G_field_Cursor_At  (R : Nat) (a1 : Option Addr) (h : GH) (K : Int → GH → Option β) : Option β := gfun Try.prog (CF_field_Cursor_At ) HF_field_Cursor_At R Try.f63 [Value.pointer a1] h (fun v h' => exI .i64 (some v) fun u6 => K u6 h')
set_option maxRecDepth 100000 in
theorem F_field_Cursor_At_gen  (R : Nat) (a1 : Option Addr) (h : GH) (K : Int → GH → Option β) : G_field_Cursor_At  R a1 h K =
    (bif a1.isNone then K 0 h else exA a1 fun g2 o3 => exI .i64 (h.cell ⟨g2, o3 + 1, none⟩) fun x4 => K x4 h) := by kernel_rfl
noncomputable def F_field_Cursor_At (R : Nat) (a1 : Option Addr) (h : GH) (K : Int → GH → Option β) : Option β := G_field_Cursor_At  R a1 h K
theorem CF_field_Cursor_At_sim : SimOrc Try.prog (CF_field_Cursor_At (β := β)) := by
  intro f args h K r hc
  cases hc
set_option maxRecDepth 100000 in
theorem F_field_Cursor_At_sim {R : Nat} {r : β} {a1 : Option Addr} {h : GH} {K : Value → GH → Option β} (hc : F_field_Cursor_At R a1 h (fun q0 h' => K (Value.int .i64 q0) h') = some r) : ∃ v h', K v h' = some r ∧ CallSim Try.prog 63 [Value.pointer a1] h v h' := by
  unfold F_field_Cursor_At G_field_Cursor_At at hc
  obtain ⟨v, h', hk, hs⟩ := gfun_sim CF_field_Cursor_At_sim mixed_ok (fun f h => by cases h) Try.func63 (by kernel_rfl) hc
  obtain ⟨u0, e0, hk⟩ := exI_v hk; cases e0
  exact ⟨_, h', hk, hs⟩
/-! F64 duffel/record.ReadLocal -/
def CF_record_ReadLocal (F_record_sign : Option Addr → Int → GH → (Int → GH → Option β) → Option β) (F_record_head : Option Addr → GH → (Int → Int → Int → Int → Int → Int → Int → Int → Sl → Sl → Int → Int → Int → GH → Option β) → Option β) (F_field_Cursor_Bytes : Option Addr → Int → GH → (Sl → GH → Option β) → Option β) (F_field_Cursor_Err : Option Addr → GH → (Int → GH → Option β) → Option β) : Orc β := fun f args h K => bif Nat.beq f 89 then (match args with | [.pointer p1, .int .u32 p2] => F_record_sign p1 p2 h (fun q9 h' => K (Value.int .i64 q9) h') | _ => none) else (bif Nat.beq f 91 then (match args with | [.pointer p1] => F_record_head p1 h (fun q57 q58 q59 q60 q61 q62 q63 q64 q65 q66 q67 q68 q69 h' => K (Value.tuple #[Value.agg #[Value.int .i64 q57, Value.int .i64 q58, Value.int .i64 q59, Value.int .i64 q60, Value.int .i64 q61, Value.int .u32 q62, Value.int .u32 q63, Value.int .u32 q64, Value.slice q65.a q65.n q65.c, Value.slice q66.a q66.n q66.c], Value.agg #[Value.int .i64 q67, Value.int .i64 q68, Value.int .i64 q69]]) h') | _ => none) else (bif Nat.beq f 66 then (match args with | [.pointer p1, .int .i64 p2] => F_field_Cursor_Bytes p1 p2 h (fun q7 h' => K (Value.slice q7.a q7.n q7.c) h') | _ => none) else (bif Nat.beq f 67 then (match args with | [.pointer p1] => F_field_Cursor_Err p1 h (fun q8 h' => K (Value.int .i64 q8) h') | _ => none) else none)))
def HF_record_ReadLocal : Hints := ⟨[], [], []⟩
noncomputable def G_record_ReadLocal (F_record_sign : Option Addr → Int → GH → (Int → GH → Option β) → Option β) (F_record_head : Option Addr → GH → (Int → Int → Int → Int → Int → Int → Int → Int → Sl → Sl → Int → Int → Int → GH → Option β) → Option β) (F_field_Cursor_Bytes : Option Addr → Int → GH → (Sl → GH → Option β) → Option β) (F_field_Cursor_Err : Option Addr → GH → (Int → GH → Option β) → Option β) (R : Nat) (a1 : Option Addr) (h : GH) (K : Int → Int → Int → Int → Int → Int → Int → Int → Sl → Sl → Int → GH → Option β) : Option β := gfun Try.prog (CF_record_ReadLocal F_record_sign F_record_head F_field_Cursor_Bytes F_field_Cursor_Err) HF_record_ReadLocal R Try.f64 [Value.pointer a1] h (fun v h' => exTup 2 v fun vs => exV (nth vs 0) fun v0 => exAg v0 fun c90 => (bif Nat.beq c90.length 10 then exI .i64 (nth c90 (0)) fun u91 => exI .i64 (nth c90 (0 + 1)) fun u92 => exI .i64 (nth c90 (0 + 1 + 1)) fun u93 => exI .i64 (nth c90 (0 + 1 + 1 + 1)) fun u94 => exI .i64 (nth c90 (0 + 1 + 1 + 1 + 1)) fun u95 => exI .u32 (nth c90 (0 + 1 + 1 + 1 + 1 + 1)) fun u96 => exI .u32 (nth c90 (0 + 1 + 1 + 1 + 1 + 1 + 1)) fun u97 => exI .u32 (nth c90 (0 + 1 + 1 + 1 + 1 + 1 + 1 + 1)) fun u98 => exS (nth c90 (0 + 1 + 1 + 1 + 1 + 1 + 1 + 1 + 1)) fun u99 => exS (nth c90 (0 + 1 + 1 + 1 + 1 + 1 + 1 + 1 + 1 + 1)) fun u100 => exV (nth vs 1) fun v1 => exI .i64 (some v1) fun u101 => K u91 u92 u93 u94 u95 u96 u97 u98 u99 u100 u101 h' else none))
set_option maxRecDepth 100000 in
theorem F_record_ReadLocal_gen (F_record_sign : Option Addr → Int → GH → (Int → GH → Option β) → Option β) (F_record_head : Option Addr → GH → (Int → Int → Int → Int → Int → Int → Int → Int → Sl → Sl → Int → Int → Int → GH → Option β) → Option β) (F_field_Cursor_Bytes : Option Addr → Int → GH → (Sl → GH → Option β) → Option β) (F_field_Cursor_Err : Option Addr → GH → (Int → GH → Option β) → Option β) (R : Nat) (a1 : Option Addr) (h : GH) (K : Int → Int → Int → Int → Int → Int → Int → Int → Sl → Sl → Int → GH → Option β) : G_record_ReadLocal F_record_sign F_record_head F_field_Cursor_Bytes F_field_Cursor_Err R a1 h K =
    gnew [Value.int .i64 0, Value.int .i64 0, Value.int .i64 0, Value.int .i64 0, Value.int .i64 0, Value.int .u32 0, Value.int .u32 0, Value.int .u32 0, Value.slice none 0 0, Value.slice none 0 0] 0 h fun g2 h3 => F_record_sign a1 67324752 h3 fun r4 h5 => (bif r4 != 0 then gput g2 (0) [Value.int .i64 0, Value.int .i64 0, Value.int .i64 0, Value.int .i64 0, Value.int .i64 0, Value.int .u32 0, Value.int .u32 0, Value.int .u32 0, Value.slice none 0 0, Value.slice none 0 0] h5 fun h6 => exI .i64 (h6.cell ⟨g2, 0, none⟩) fun x7 => exI .i64 (h6.cell ⟨g2, 0 + 1, none⟩) fun x8 => exI .i64 (h6.cell ⟨g2, 0 + 1 + 1, none⟩) fun x9 => exI .i64 (h6.cell ⟨g2, 0 + 1 + 1 + 1, none⟩) fun x10 => exI .i64 (h6.cell ⟨g2, 0 + 1 + 1 + 1 + 1, none⟩) fun x11 => exI .u32 (h6.cell ⟨g2, 0 + 1 + 1 + 1 + 1 + 1, none⟩) fun x12 => exI .u32 (h6.cell ⟨g2, 0 + 1 + 1 + 1 + 1 + 1 + 1, none⟩) fun x13 => exI .u32 (h6.cell ⟨g2, 0 + 1 + 1 + 1 + 1 + 1 + 1 + 1, none⟩) fun x14 => exS (h6.cell ⟨g2, 0 + 1 + 1 + 1 + 1 + 1 + 1 + 1 + 1, none⟩) fun x15 => exS (h6.cell ⟨g2, 0 + 1 + 1 + 1 + 1 + 1 + 1 + 1 + 1 + 1, none⟩) fun x16 => K x7 x8 x9 x10 x11 x12 x13 x14 x15 x16 r4 h6 else F_record_head a1 h5 fun r17 r18 r19 r20 r21 r22 r23 r24 r25 r26 r27 r28 r29 h30 => gnew [Value.int .i64 0, Value.int .i64 0, Value.int .i64 0, Value.int .i64 0, Value.int .i64 0, Value.int .u32 0, Value.int .u32 0, Value.int .u32 0, Value.slice none 0 0, Value.slice none 0 0] 0 h30 fun g31 h32 => gnew [Value.int .i64 0, Value.int .i64 0, Value.int .i64 0] 0 h32 fun g33 h34 => gput g31 (0) [Value.int .i64 r17, Value.int .i64 r18, Value.int .i64 r19, Value.int .i64 r20, Value.int .i64 r21, Value.int .u32 r22, Value.int .u32 r23, Value.int .u32 r24, Value.slice r25.a r25.n r25.c, Value.slice r26.a r26.n r26.c] h34 fun h35 => gput g33 (0) [Value.int .i64 r27, Value.int .i64 r28, Value.int .i64 r29] h35 fun h36 => exI .i64 (h36.cell ⟨g33, 0 + 0, none⟩) fun x37 => F_field_Cursor_Bytes a1 x37 h36 fun r38 h39 => exI .i64 (h39.cell ⟨g33, 0 + 1, none⟩) fun x40 => F_field_Cursor_Bytes a1 x40 h39 fun r41 h42 => gput g31 (0 + 8) [Value.slice r38.a r38.n r38.c] h42 fun h43 => gput g31 (0 + 9) [Value.slice r41.a r41.n r41.c] h43 fun h44 => (bif sameAt g33 (0 + 1) 1 h36 h39 then F_field_Cursor_Err a1 h44 fun r45 h46 => (bif r45 != 0 then gput g2 (0) [Value.int .i64 0, Value.int .i64 0, Value.int .i64 0, Value.int .i64 0, Value.int .i64 0, Value.int .u32 0, Value.int .u32 0, Value.int .u32 0, Value.slice none 0 0, Value.slice none 0 0] h46 fun h47 => exI .i64 (h47.cell ⟨g2, 0, none⟩) fun x48 => exI .i64 (h47.cell ⟨g2, 0 + 1, none⟩) fun x49 => exI .i64 (h47.cell ⟨g2, 0 + 1 + 1, none⟩) fun x50 => exI .i64 (h47.cell ⟨g2, 0 + 1 + 1 + 1, none⟩) fun x51 => exI .i64 (h47.cell ⟨g2, 0 + 1 + 1 + 1 + 1, none⟩) fun x52 => exI .u32 (h47.cell ⟨g2, 0 + 1 + 1 + 1 + 1 + 1, none⟩) fun x53 => exI .u32 (h47.cell ⟨g2, 0 + 1 + 1 + 1 + 1 + 1 + 1, none⟩) fun x54 => exI .u32 (h47.cell ⟨g2, 0 + 1 + 1 + 1 + 1 + 1 + 1 + 1, none⟩) fun x55 => exS (h47.cell ⟨g2, 0 + 1 + 1 + 1 + 1 + 1 + 1 + 1 + 1, none⟩) fun x56 => exS (h47.cell ⟨g2, 0 + 1 + 1 + 1 + 1 + 1 + 1 + 1 + 1 + 1, none⟩) fun x57 => K x48 x49 x50 x51 x52 x53 x54 x55 x56 x57 r45 h47 else exI .i64 (h46.cell ⟨g31, 0, none⟩) fun x58 => exI .i64 (h46.cell ⟨g31, 0 + 1, none⟩) fun x59 => exI .i64 (h46.cell ⟨g31, 0 + 1 + 1, none⟩) fun x60 => exI .i64 (h46.cell ⟨g31, 0 + 1 + 1 + 1, none⟩) fun x61 => exI .i64 (h46.cell ⟨g31, 0 + 1 + 1 + 1 + 1, none⟩) fun x62 => exI .u32 (h46.cell ⟨g31, 0 + 1 + 1 + 1 + 1 + 1, none⟩) fun x63 => exI .u32 (h46.cell ⟨g31, 0 + 1 + 1 + 1 + 1 + 1 + 1, none⟩) fun x64 => exI .u32 (h46.cell ⟨g31, 0 + 1 + 1 + 1 + 1 + 1 + 1 + 1, none⟩) fun x65 => exS (h46.cell ⟨g31, 0 + 1 + 1 + 1 + 1 + 1 + 1 + 1 + 1, none⟩) fun x66 => exS (h46.cell ⟨g31, 0 + 1 + 1 + 1 + 1 + 1 + 1 + 1 + 1 + 1, none⟩) fun x67 => gput g2 (0) [Value.int .i64 x58, Value.int .i64 x59, Value.int .i64 x60, Value.int .i64 x61, Value.int .i64 x62, Value.int .u32 x63, Value.int .u32 x64, Value.int .u32 x65, Value.slice x66.a x66.n x66.c, Value.slice x67.a x67.n x67.c] h46 fun h68 => exI .i64 (h68.cell ⟨g2, 0, none⟩) fun x69 => exI .i64 (h68.cell ⟨g2, 0 + 1, none⟩) fun x70 => exI .i64 (h68.cell ⟨g2, 0 + 1 + 1, none⟩) fun x71 => exI .i64 (h68.cell ⟨g2, 0 + 1 + 1 + 1, none⟩) fun x72 => exI .i64 (h68.cell ⟨g2, 0 + 1 + 1 + 1 + 1, none⟩) fun x73 => exI .u32 (h68.cell ⟨g2, 0 + 1 + 1 + 1 + 1 + 1, none⟩) fun x74 => exI .u32 (h68.cell ⟨g2, 0 + 1 + 1 + 1 + 1 + 1 + 1, none⟩) fun x75 => exI .u32 (h68.cell ⟨g2, 0 + 1 + 1 + 1 + 1 + 1 + 1 + 1, none⟩) fun x76 => exS (h68.cell ⟨g2, 0 + 1 + 1 + 1 + 1 + 1 + 1 + 1 + 1, none⟩) fun x77 => exS (h68.cell ⟨g2, 0 + 1 + 1 + 1 + 1 + 1 + 1 + 1 + 1 + 1, none⟩) fun x78 => K x69 x70 x71 x72 x73 x74 x75 x76 x77 x78 0 h68) else none)) := by kernel_rfl
noncomputable def F_record_ReadLocal (R : Nat) (a1 : Option Addr) (h : GH) (K : Int → Int → Int → Int → Int → Int → Int → Int → Sl → Sl → Int → GH → Option β) : Option β := G_record_ReadLocal (F_record_sign R) (F_record_head R) (F_field_Cursor_Bytes R) (F_field_Cursor_Err R) R a1 h K
set_option maxRecDepth 100000 in
theorem CF_record_ReadLocal_sim {R : Nat} : SimOrc Try.prog (CF_record_ReadLocal (F_record_sign R) (F_record_head R) (F_field_Cursor_Bytes R) (F_field_Cursor_Err R) (β := β)) := by
  intro f args h K r hc
  unfold CF_record_ReadLocal at hc
  cases hb : Nat.beq f 89 with
  | true =>
    rw [hb] at hc
    simp only [cond_true] at hc
    obtain rfl := Nat.eq_of_beq_eq_true hb
    split at hc
    · exact any_call (F_record_sign_sim (K := K) hc)
    · cases hc
  | false =>
  rw [hb] at hc
  simp only [cond_false] at hc
  cases hb : Nat.beq f 91 with
  | true =>
    rw [hb] at hc
    simp only [cond_true] at hc
    obtain rfl := Nat.eq_of_beq_eq_true hb
    split at hc
    · exact any_call (F_record_head_sim (K := K) hc)
    · cases hc
  | false =>
  rw [hb] at hc
  simp only [cond_false] at hc
  cases hb : Nat.beq f 66 with
  | true =>
    rw [hb] at hc
    simp only [cond_true] at hc
    obtain rfl := Nat.eq_of_beq_eq_true hb
    split at hc
    · exact any_call (F_field_Cursor_Bytes_sim (K := K) hc)
    · cases hc
  | false =>
  rw [hb] at hc
  simp only [cond_false] at hc
  cases hb : Nat.beq f 67 with
  | true =>
    rw [hb] at hc
    simp only [cond_true] at hc
    obtain rfl := Nat.eq_of_beq_eq_true hb
    split at hc
    · exact any_call (F_field_Cursor_Err_sim (K := K) hc)
    · cases hc
  | false =>
  rw [hb] at hc
  simp only [cond_false] at hc
  cases hc
set_option maxRecDepth 100000 in
theorem F_record_ReadLocal_sim {R : Nat} {r : β} {a1 : Option Addr} {h : GH} {K : Value → GH → Option β} (hc : F_record_ReadLocal R a1 h (fun q0 q1 q2 q3 q4 q5 q6 q7 q8 q9 q10 h' => K (Value.tuple #[Value.agg #[Value.int .i64 q0, Value.int .i64 q1, Value.int .i64 q2, Value.int .i64 q3, Value.int .i64 q4, Value.int .u32 q5, Value.int .u32 q6, Value.int .u32 q7, Value.slice q8.a q8.n q8.c, Value.slice q9.a q9.n q9.c], Value.int .i64 q10]) h') = some r) : ∃ v h', K v h' = some r ∧ CallSim Try.prog 64 [Value.pointer a1] h v h' := by
  unfold F_record_ReadLocal G_record_ReadLocal at hc
  obtain ⟨v, h', hk, hs⟩ := gfun_sim (CF_record_ReadLocal_sim (R := R)) mixed_ok (fun f h => by cases h) Try.func64 (by kernel_rfl) hc
  obtain ⟨vs, rfl, hl, hk⟩ := exTup_v hk
  obtain ⟨v0, t0, hk⟩ := exV_v hk
  obtain ⟨cs0, f0, hk⟩ := exAg_v hk; cases f0; obtain ⟨hl0, hk⟩ := beq_v hk
  obtain ⟨u1, e1, hk⟩ := exI_v hk
  obtain ⟨u2, e2, hk⟩ := exI_v hk
  obtain ⟨u3, e3, hk⟩ := exI_v hk
  obtain ⟨u4, e4, hk⟩ := exI_v hk
  obtain ⟨u5, e5, hk⟩ := exI_v hk
  obtain ⟨u6, e6, hk⟩ := exI_v hk
  obtain ⟨u7, e7, hk⟩ := exI_v hk
  obtain ⟨u8, e8, hk⟩ := exI_v hk
  obtain ⟨u9, e9, hk⟩ := exS_v hk
  obtain ⟨u10, e10, hk⟩ := exS_v hk
  obtain rfl := arr10 hl0 e1 e2 e3 e4 e5 e6 e7 e8 e9 e10
  obtain ⟨v1, t1, hk⟩ := exV_v hk
  obtain ⟨u11, e11, hk⟩ := exI_v hk; cases e11
  obtain rfl := arr2 hl t0 t1
  exact ⟨_, h', hk, hs⟩
/-! F92 bytes.Equal -/
def CF_bytes_Equal  : Orc β := fun f args h K => none
def HF_bytes_Equal : Hints := ⟨[], [], []⟩
noncomputable def G_bytes_Equal  (R : Nat) (a1 : Sl) (a2 : Sl) (h : GH) (K : Bool → GH → Option β) : Option β := gfun Try.prog (CF_bytes_Equal ) HF_bytes_Equal R Try.f92 [Value.slice a1.a a1.n a1.c, Value.slice a2.a a2.n a2.c] h (fun v h' => exB (some v) fun u8 => K u8 h')
set_option maxRecDepth 100000 in
theorem F_bytes_Equal_gen  (R : Nat) (a1 : Sl) (a2 : Sl) (h : GH) (K : Bool → GH → Option β) : G_bytes_Equal  R a1 a2 h K =
    slCells a1 1 h fun v3 => exBs v3 fun b4 => slCells a2 1 h fun v5 => exBs v5 fun b6 => K (beqS (bytesB b4) (bytesB b6)) h := by kernel_rfl
noncomputable def F_bytes_Equal (R : Nat) (a1 : Sl) (a2 : Sl) (h : GH) (K : Bool → GH → Option β) : Option β := G_bytes_Equal  R a1 a2 h K
theorem CF_bytes_Equal_sim : SimOrc Try.prog (CF_bytes_Equal (β := β)) := by
  intro f args h K r hc
  cases hc
set_option maxRecDepth 100000 in
theorem F_bytes_Equal_sim {R : Nat} {r : β} {a1 : Sl} {a2 : Sl} {h : GH} {K : Value → GH → Option β} (hc : F_bytes_Equal R a1 a2 h (fun q0 h' => K (Value.bool q0) h') = some r) : ∃ v h', K v h' = some r ∧ CallSim Try.prog 92 [Value.slice a1.a a1.n a1.c, Value.slice a2.a a2.n a2.c] h v h' := by
  unfold F_bytes_Equal G_bytes_Equal at hc
  obtain ⟨v, h', hk, hs⟩ := gfun_sim CF_bytes_Equal_sim mixed_ok (fun f h => by cases h) Try.func92 (by kernel_rfl) hc
  obtain ⟨u0, e0, hk⟩ := exB_v hk; cases e0
  exact ⟨_, h', hk, hs⟩
/-! F65 duffel/denote.same -/
def CF_denote_same (F_bytes_Equal : Sl → Sl → GH → (Bool → GH → Option β) → Option β) : Orc β := fun f args h K => bif Nat.beq f 92 then (match args with | [.slice p1a p1n p1c, .slice p2a p2n p2c] => F_bytes_Equal ⟨p1a, p1n, p1c⟩ ⟨p2a, p2n, p2c⟩ h (fun q7 h' => K (Value.bool q7) h') | _ => none) else none
def HF_denote_same : Hints := ⟨[], [], []⟩
noncomputable def G_denote_same (F_bytes_Equal : Sl → Sl → GH → (Bool → GH → Option β) → Option β) (R : Nat) (a1 : Int) (a2 : Int) (a3 : Int) (a4 : Int) (a5 : Int) (a6 : Int) (a7 : Int) (a8 : Int) (a9 : Sl) (a10 : Sl) (a11 : Int) (a12 : Int) (a13 : Int) (a14 : Int) (a15 : Int) (a16 : Int) (a17 : Int) (a18 : Int) (a19 : Sl) (a20 : Sl) (h : GH) (K : Bool → GH → Option β) : Option β := gfun Try.prog (CF_denote_same F_bytes_Equal) HF_denote_same R Try.f65 [Value.agg #[Value.int .i64 a1, Value.int .i64 a2, Value.int .i64 a3, Value.int .i64 a4, Value.int .i64 a5, Value.int .u32 a6, Value.int .u32 a7, Value.int .u32 a8, Value.slice a9.a a9.n a9.c, Value.slice a10.a a10.n a10.c], Value.agg #[Value.int .i64 a11, Value.int .i64 a12, Value.int .i64 a13, Value.int .i64 a14, Value.int .i64 a15, Value.int .u32 a16, Value.int .u32 a17, Value.int .u32 a18, Value.slice a19.a a19.n a19.c, Value.slice a20.a a20.n a20.c]] h (fun v h' => exB (some v) fun u46 => K u46 h')
set_option maxRecDepth 100000 in
theorem F_denote_same_gen (F_bytes_Equal : Sl → Sl → GH → (Bool → GH → Option β) → Option β) (R : Nat) (a1 : Int) (a2 : Int) (a3 : Int) (a4 : Int) (a5 : Int) (a6 : Int) (a7 : Int) (a8 : Int) (a9 : Sl) (a10 : Sl) (a11 : Int) (a12 : Int) (a13 : Int) (a14 : Int) (a15 : Int) (a16 : Int) (a17 : Int) (a18 : Int) (a19 : Sl) (a20 : Sl) (h : GH) (K : Bool → GH → Option β) : G_denote_same F_bytes_Equal R a1 a2 a3 a4 a5 a6 a7 a8 a9 a10 a11 a12 a13 a14 a15 a16 a17 a18 a19 a20 h K =
    gnew [Value.int .i64 a1, Value.int .i64 a2, Value.int .i64 a3, Value.int .i64 a4, Value.int .i64 a5, Value.int .u32 a6, Value.int .u32 a7, Value.int .u32 a8, Value.slice a9.a a9.n a9.c, Value.slice a10.a a10.n a10.c] 0 h fun g21 h22 => gnew [Value.int .i64 a11, Value.int .i64 a12, Value.int .i64 a13, Value.int .i64 a14, Value.int .i64 a15, Value.int .u32 a16, Value.int .u32 a17, Value.int .u32 a18, Value.slice a19.a a19.n a19.c, Value.slice a20.a a20.n a20.c] 0 h22 fun g23 h24 => exI .i64 (h24.cell ⟨g21, 0 + 0, none⟩) fun x25 => exI .i64 (h24.cell ⟨g23, 0 + 0, none⟩) fun x26 => (bif x25 == x26 then exI .i64 (h24.cell ⟨g21, 0 + 1, none⟩) fun x27 => exI .i64 (h24.cell ⟨g23, 0 + 1, none⟩) fun x28 => (bif x27 == x28 then exI .i64 (h24.cell ⟨g21, 0 + 2, none⟩) fun x29 => exI .i64 (h24.cell ⟨g23, 0 + 2, none⟩) fun x30 => (bif x29 == x30 then exI .i64 (h24.cell ⟨g21, 0 + 3, none⟩) fun x31 => exI .i64 (h24.cell ⟨g23, 0 + 3, none⟩) fun x32 => (bif x31 == x32 then exI .i64 (h24.cell ⟨g21, 0 + 4, none⟩) fun x33 => exI .i64 (h24.cell ⟨g23, 0 + 4, none⟩) fun x34 => (bif x33 == x34 then exI .u32 (h24.cell ⟨g21, 0 + 5, none⟩) fun x35 => exI .u32 (h24.cell ⟨g23, 0 + 5, none⟩) fun x36 => (bif x35 == x36 then exI .u32 (h24.cell ⟨g21, 0 + 6, none⟩) fun x37 => exI .u32 (h24.cell ⟨g23, 0 + 6, none⟩) fun x38 => (bif x37 == x38 then exI .u32 (h24.cell ⟨g21, 0 + 7, none⟩) fun x39 => exI .u32 (h24.cell ⟨g23, 0 + 7, none⟩) fun x40 => (bif x39 == x40 then exS (h24.cell ⟨g21, 0 + 8, none⟩) fun x41 => exS (h24.cell ⟨g23, 0 + 8, none⟩) fun x42 => F_bytes_Equal x41 x42 h24 fun r43 h44 => K r43 h44 else K false h24) else K false h24) else K false h24) else K false h24) else K false h24) else K false h24) else K false h24) else K false h24) := by kernel_rfl
noncomputable def F_denote_same (R : Nat) (a1 : Int) (a2 : Int) (a3 : Int) (a4 : Int) (a5 : Int) (a6 : Int) (a7 : Int) (a8 : Int) (a9 : Sl) (a10 : Sl) (a11 : Int) (a12 : Int) (a13 : Int) (a14 : Int) (a15 : Int) (a16 : Int) (a17 : Int) (a18 : Int) (a19 : Sl) (a20 : Sl) (h : GH) (K : Bool → GH → Option β) : Option β := G_denote_same (F_bytes_Equal R) R a1 a2 a3 a4 a5 a6 a7 a8 a9 a10 a11 a12 a13 a14 a15 a16 a17 a18 a19 a20 h K
set_option maxRecDepth 100000 in
theorem CF_denote_same_sim {R : Nat} : SimOrc Try.prog (CF_denote_same (F_bytes_Equal R) (β := β)) := by
  intro f args h K r hc
  unfold CF_denote_same at hc
  cases hb : Nat.beq f 92 with
  | true =>
    rw [hb] at hc
    simp only [cond_true] at hc
    obtain rfl := Nat.eq_of_beq_eq_true hb
    split at hc
    · exact any_call (F_bytes_Equal_sim (K := K) hc)
    · cases hc
  | false =>
  rw [hb] at hc
  simp only [cond_false] at hc
  cases hc
set_option maxRecDepth 100000 in
theorem F_denote_same_sim {R : Nat} {r : β} {a1 : Int} {a2 : Int} {a3 : Int} {a4 : Int} {a5 : Int} {a6 : Int} {a7 : Int} {a8 : Int} {a9 : Sl} {a10 : Sl} {a11 : Int} {a12 : Int} {a13 : Int} {a14 : Int} {a15 : Int} {a16 : Int} {a17 : Int} {a18 : Int} {a19 : Sl} {a20 : Sl} {h : GH} {K : Value → GH → Option β} (hc : F_denote_same R a1 a2 a3 a4 a5 a6 a7 a8 a9 a10 a11 a12 a13 a14 a15 a16 a17 a18 a19 a20 h (fun q0 h' => K (Value.bool q0) h') = some r) : ∃ v h', K v h' = some r ∧ CallSim Try.prog 65 [Value.agg #[Value.int .i64 a1, Value.int .i64 a2, Value.int .i64 a3, Value.int .i64 a4, Value.int .i64 a5, Value.int .u32 a6, Value.int .u32 a7, Value.int .u32 a8, Value.slice a9.a a9.n a9.c, Value.slice a10.a a10.n a10.c], Value.agg #[Value.int .i64 a11, Value.int .i64 a12, Value.int .i64 a13, Value.int .i64 a14, Value.int .i64 a15, Value.int .u32 a16, Value.int .u32 a17, Value.int .u32 a18, Value.slice a19.a a19.n a19.c, Value.slice a20.a a20.n a20.c]] h v h' := by
  unfold F_denote_same G_denote_same at hc
  obtain ⟨v, h', hk, hs⟩ := gfun_sim (CF_denote_same_sim (R := R)) mixed_ok (fun f h => by cases h) Try.func65 (by kernel_rfl) hc
  obtain ⟨u0, e0, hk⟩ := exB_v hk; cases e0
  exact ⟨_, h', hk, hs⟩
/-! F37 (*duffel/denote.scanner).local -/
def CF_denote_scanner_local (F_field_Cursor_At : Option Addr → GH → (Int → GH → Option β) → Option β) (F_record_ReadLocal : Option Addr → GH → (Int → Int → Int → Int → Int → Int → Int → Int → Sl → Sl → Int → GH → Option β) → Option β) (F_denote_same : Int → Int → Int → Int → Int → Int → Int → Int → Sl → Sl → Int → Int → Int → Int → Int → Int → Int → Int → Sl → Sl → GH → (Bool → GH → Option β) → Option β) (F_denote_checkExtra : Sl → GH → (Int → GH → Option β) → Option β) (F_field_Cursor_Left : Option Addr → GH → (Int → GH → Option β) → Option β) (F_field_Cursor_Bytes : Option Addr → Int → GH → (Sl → GH → Option β) → Option β) : Orc β := fun f args h K => bif Nat.beq f 63 then (match args with | [.pointer p1] => F_field_Cursor_At p1 h (fun q5 h' => K (Value.int .i64 q5) h') | _ => none) else (bif Nat.beq f 64 then (match args with | [.pointer p1] => F_record_ReadLocal p1 h (fun q79 q80 q81 q82 q83 q84 q85 q86 q87 q88 q89 h' => K (Value.tuple #[Value.agg #[Value.int .i64 q79, Value.int .i64 q80, Value.int .i64 q81, Value.int .i64 q82, Value.int .i64 q83, Value.int .u32 q84, Value.int .u32 q85, Value.int .u32 q86, Value.slice q87.a q87.n q87.c, Value.slice q88.a q88.n q88.c], Value.int .i64 q89]) h') | _ => none) else (bif Nat.beq f 65 then (match args with | [.agg ⟨[.int .i64 p1, .int .i64 p2, .int .i64 p3, .int .i64 p4, .int .i64 p5, .int .u32 p6, .int .u32 p7, .int .u32 p8, .slice p9a p9n p9c, .slice p10a p10n p10c]⟩, .agg ⟨[.int .i64 p11, .int .i64 p12, .int .i64 p13, .int .i64 p14, .int .i64 p15, .int .u32 p16, .int .u32 p17, .int .u32 p18, .slice p19a p19n p19c, .slice p20a p20n p20c]⟩] => F_denote_same p1 p2 p3 p4 p5 p6 p7 p8 ⟨p9a, p9n, p9c⟩ ⟨p10a, p10n, p10c⟩ p11 p12 p13 p14 p15 p16 p17 p18 ⟨p19a, p19n, p19c⟩ ⟨p20a, p20n, p20c⟩ h (fun q45 h' => K (Value.bool q45) h') | _ => none) else (bif Nat.beq f 28 then (match args with | [.slice p1a p1n p1c] => F_denote_checkExtra ⟨p1a, p1n, p1c⟩ h (fun q8 h' => K (Value.int .i64 q8) h') | _ => none) else (bif Nat.beq f 38 then (match args with | [.pointer p1] => F_field_Cursor_Left p1 h (fun q10 h' => K (Value.int .i64 q10) h') | _ => none) else (bif Nat.beq f 66 then (match args with | [.pointer p1, .int .i64 p2] => F_field_Cursor_Bytes p1 p2 h (fun q7 h' => K (Value.slice q7.a q7.n q7.c) h') | _ => none) else none)))))
def HF_denote_scanner_local : Hints := ⟨[], [], []⟩
noncomputable def G_denote_scanner_local (F_field_Cursor_At : Option Addr → GH → (Int → GH → Option β) → Option β) (F_record_ReadLocal : Option Addr → GH → (Int → Int → Int → Int → Int → Int → Int → Int → Sl → Sl → Int → GH → Option β) → Option β) (F_denote_same : Int → Int → Int → Int → Int → Int → Int → Int → Sl → Sl → Int → Int → Int → Int → Int → Int → Int → Int → Sl → Sl → GH → (Bool → GH → Option β) → Option β) (F_denote_checkExtra : Sl → GH → (Int → GH → Option β) → Option β) (F_field_Cursor_Left : Option Addr → GH → (Int → GH → Option β) → Option β) (F_field_Cursor_Bytes : Option Addr → Int → GH → (Sl → GH → Option β) → Option β) (R : Nat) (a1 : Option Addr) (a2 : Option Addr) (a3 : Option Addr) (h : GH) (K : Int → GH → Option β) : Option β := gfun Try.prog (CF_denote_scanner_local F_field_Cursor_At F_record_ReadLocal F_denote_same F_denote_checkExtra F_field_Cursor_Left F_field_Cursor_Bytes) HF_denote_scanner_local R Try.f37 [Value.pointer a1, Value.pointer a2, Value.pointer a3] h (fun v h' => exI .i64 (some v) fun u65 => K u65 h')
set_option maxRecDepth 100000 in
theorem F_denote_scanner_local_gen (F_field_Cursor_At : Option Addr → GH → (Int → GH → Option β) → Option β) (F_record_ReadLocal : Option Addr → GH → (Int → Int → Int → Int → Int → Int → Int → Int → Sl → Sl → Int → GH → Option β) → Option β) (F_denote_same : Int → Int → Int → Int → Int → Int → Int → Int → Sl → Sl → Int → Int → Int → Int → Int → Int → Int → Int → Sl → Sl → GH → (Bool → GH → Option β) → Option β) (F_denote_checkExtra : Sl → GH → (Int → GH → Option β) → Option β) (F_field_Cursor_Left : Option Addr → GH → (Int → GH → Option β) → Option β) (F_field_Cursor_Bytes : Option Addr → Int → GH → (Sl → GH → Option β) → Option β) (R : Nat) (a1 : Option Addr) (a2 : Option Addr) (a3 : Option Addr) (h : GH) (K : Int → GH → Option β) : G_denote_scanner_local F_field_Cursor_At F_record_ReadLocal F_denote_same F_denote_checkExtra F_field_Cursor_Left F_field_Cursor_Bytes R a1 a2 a3 h K =
    exA a3 fun g4 o5 => exI .u32 (h.cell ⟨g4, o5 + 0 + 14, none⟩) fun x6 => F_field_Cursor_At a2 h fun r7 h8 => (bif sameAt g4 (o5 + 0 + 14) 1 h h8 then (bif (IntKind.wrap .i64 x6) != r7 then K 14 h8 else F_record_ReadLocal a2 h8 fun r9 r10 r11 r12 r13 r14 r15 r16 r17 r18 r19 h20 => gnew [Value.int .i64 0, Value.int .i64 0, Value.int .i64 0, Value.int .i64 0, Value.int .i64 0, Value.int .u32 0, Value.int .u32 0, Value.int .u32 0, Value.slice none 0 0, Value.slice none 0 0] 0 h20 fun g21 h22 => gput g21 (0) [Value.int .i64 r9, Value.int .i64 r10, Value.int .i64 r11, Value.int .i64 r12, Value.int .i64 r13, Value.int .u32 r14, Value.int .u32 r15, Value.int .u32 r16, Value.slice r17.a r17.n r17.c, Value.slice r18.a r18.n r18.c] h22 fun h23 => (bif r19 != 0 then K r19 h23 else exI .i64 (h23.cell ⟨g21, 0, none⟩) fun x24 => exI .i64 (h23.cell ⟨g21, 0 + 1, none⟩) fun x25 => exI .i64 (h23.cell ⟨g21, 0 + 1 + 1, none⟩) fun x26 => exI .i64 (h23.cell ⟨g21, 0 + 1 + 1 + 1, none⟩) fun x27 => exI .i64 (h23.cell ⟨g21, 0 + 1 + 1 + 1 + 1, none⟩) fun x28 => exI .u32 (h23.cell ⟨g21, 0 + 1 + 1 + 1 + 1 + 1, none⟩) fun x29 => exI .u32 (h23.cell ⟨g21, 0 + 1 + 1 + 1 + 1 + 1 + 1, none⟩) fun x30 => exI .u32 (h23.cell ⟨g21, 0 + 1 + 1 + 1 + 1 + 1 + 1 + 1, none⟩) fun x31 => exS (h23.cell ⟨g21, 0 + 1 + 1 + 1 + 1 + 1 + 1 + 1 + 1, none⟩) fun x32 => exS (h23.cell ⟨g21, 0 + 1 + 1 + 1 + 1 + 1 + 1 + 1 + 1 + 1, none⟩) fun x33 => exA a3 fun g34 o35 => exI .i64 (h23.cell ⟨g34, o35 + 0 + 0, none⟩) fun x36 => exI .i64 (h23.cell ⟨g34, o35 + 0 + 0 + 1, none⟩) fun x37 => exI .i64 (h23.cell ⟨g34, o35 + 0 + 0 + 1 + 1, none⟩) fun x38 => exI .i64 (h23.cell ⟨g34, o35 + 0 + 0 + 1 + 1 + 1, none⟩) fun x39 => exI .i64 (h23.cell ⟨g34, o35 + 0 + 0 + 1 + 1 + 1 + 1, none⟩) fun x40 => exI .u32 (h23.cell ⟨g34, o35 + 0 + 0 + 1 + 1 + 1 + 1 + 1, none⟩) fun x41 => exI .u32 (h23.cell ⟨g34, o35 + 0 + 0 + 1 + 1 + 1 + 1 + 1 + 1, none⟩) fun x42 => exI .u32 (h23.cell ⟨g34, o35 + 0 + 0 + 1 + 1 + 1 + 1 + 1 + 1 + 1, none⟩) fun x43 => exS (h23.cell ⟨g34, o35 + 0 + 0 + 1 + 1 + 1 + 1 + 1 + 1 + 1 + 1, none⟩) fun x44 => exS (h23.cell ⟨g34, o35 + 0 + 0 + 1 + 1 + 1 + 1 + 1 + 1 + 1 + 1 + 1, none⟩) fun x45 => F_denote_same x24 x25 x26 x27 x28 x29 x30 x31 x32 x33 x36 x37 x38 x39 x40 x41 x42 x43 x44 x45 h23 fun r46 h47 => (bif !r46 then K 15 h47 else exS (h47.cell ⟨g21, 0 + 9, none⟩) fun x48 => F_denote_checkExtra x48 h47 fun r49 h50 => (bif r49 != 0 then K r49 h50 else exI .u32 (h50.cell ⟨g21, 0 + 6, none⟩) fun x51 => F_field_Cursor_Left a2 h50 fun r52 h53 => (bif sameAt g21 (0 + 6) 1 h50 h53 then (bif decide ((IntKind.wrap .i64 x51) > r52) then K 14 h53 else exS (h53.cell ⟨g21, 0 + 9, none⟩) fun x54 => exI .u32 (h53.cell ⟨g21, 0 + 6, none⟩) fun x55 => F_field_Cursor_Bytes a2 (IntKind.wrap .i64 x55) h53 fun r56 h57 => exA a3 fun g58 o59 => gput g58 (o59 + 16) [Value.slice x54.a x54.n x54.c] h57 fun h60 => exA a3 fun g61 o62 => gput g61 (o62 + 17) [Value.slice r56.a r56.n r56.c] h60 fun h63 => (bif sameAt g21 (0 + 9) 1 h53 h57 then K 0 h63 else none)) else none))))) else none) := by kernel_rfl
noncomputable def F_denote_scanner_local (R : Nat) (a1 : Option Addr) (a2 : Option Addr) (a3 : Option Addr) (h : GH) (K : Int → GH → Option β) : Option β := G_denote_scanner_local (F_field_Cursor_At R) (F_record_ReadLocal R) (F_denote_same R) (F_denote_checkExtra R) (F_field_Cursor_Left R) (F_field_Cursor_Bytes R) R a1 a2 a3 h K
set_option maxRecDepth 100000 in
theorem CF_denote_scanner_local_sim {R : Nat} : SimOrc Try.prog (CF_denote_scanner_local (F_field_Cursor_At R) (F_record_ReadLocal R) (F_denote_same R) (F_denote_checkExtra R) (F_field_Cursor_Left R) (F_field_Cursor_Bytes R) (β := β)) := by
  intro f args h K r hc
  unfold CF_denote_scanner_local at hc
  cases hb : Nat.beq f 63 with
  | true =>
    rw [hb] at hc
    simp only [cond_true] at hc
    obtain rfl := Nat.eq_of_beq_eq_true hb
    split at hc
    · exact any_call (F_field_Cursor_At_sim (K := K) hc)
    · cases hc
  | false =>
  rw [hb] at hc
  simp only [cond_false] at hc
  cases hb : Nat.beq f 64 with
  | true =>
    rw [hb] at hc
    simp only [cond_true] at hc
    obtain rfl := Nat.eq_of_beq_eq_true hb
    split at hc
    · exact any_call (F_record_ReadLocal_sim (K := K) hc)
    · cases hc
  | false =>
  rw [hb] at hc
  simp only [cond_false] at hc
  cases hb : Nat.beq f 65 with
  | true =>
    rw [hb] at hc
    simp only [cond_true] at hc
    obtain rfl := Nat.eq_of_beq_eq_true hb
    split at hc
    · exact any_call (F_denote_same_sim (K := K) hc)
    · cases hc
  | false =>
  rw [hb] at hc
  simp only [cond_false] at hc
  cases hb : Nat.beq f 28 with
  | true =>
    rw [hb] at hc
    simp only [cond_true] at hc
    obtain rfl := Nat.eq_of_beq_eq_true hb
    split at hc
    · exact any_call (F_denote_checkExtra_sim (K := K) hc)
    · cases hc
  | false =>
  rw [hb] at hc
  simp only [cond_false] at hc
  cases hb : Nat.beq f 38 with
  | true =>
    rw [hb] at hc
    simp only [cond_true] at hc
    obtain rfl := Nat.eq_of_beq_eq_true hb
    split at hc
    · exact any_call (F_field_Cursor_Left_sim (K := K) hc)
    · cases hc
  | false =>
  rw [hb] at hc
  simp only [cond_false] at hc
  cases hb : Nat.beq f 66 with
  | true =>
    rw [hb] at hc
    simp only [cond_true] at hc
    obtain rfl := Nat.eq_of_beq_eq_true hb
    split at hc
    · exact any_call (F_field_Cursor_Bytes_sim (K := K) hc)
    · cases hc
  | false =>
  rw [hb] at hc
  simp only [cond_false] at hc
  cases hc
set_option maxRecDepth 100000 in
theorem F_denote_scanner_local_sim {R : Nat} {r : β} {a1 : Option Addr} {a2 : Option Addr} {a3 : Option Addr} {h : GH} {K : Value → GH → Option β} (hc : F_denote_scanner_local R a1 a2 a3 h (fun q0 h' => K (Value.int .i64 q0) h') = some r) : ∃ v h', K v h' = some r ∧ CallSim Try.prog 37 [Value.pointer a1, Value.pointer a2, Value.pointer a3] h v h' := by
  unfold F_denote_scanner_local G_denote_scanner_local at hc
  obtain ⟨v, h', hk, hs⟩ := gfun_sim (CF_denote_scanner_local_sim (R := R)) mixed_ok (fun f h => by cases h) Try.func37 (by kernel_rfl) hc
  obtain ⟨u0, e0, hk⟩ := exI_v hk; cases e0
  exact ⟨_, h', hk, hs⟩
/-! F14 duffel/denote.Scan -/
def CF_denote_Scan (F_denote_scanner_findEnd : Option Addr → GH → (Int → GH → Option β) → Option β) (F_denote_scanner_centrals : Option Addr → GH → (Sl → Int → GH → Option β) → Option β) (F_field_Open : Sl → GH → (Option Addr → GH → Option β) → Option β) (F_denote_scanner_local : Option Addr → Option Addr → Option Addr → GH → (Int → GH → Option β) → Option β) (F_field_Cursor_Left : Option Addr → GH → (Int → GH → Option β) → Option β) : Orc β := fun f args h K => bif Nat.beq f 34 then (match args with | [.pointer p1] => F_denote_scanner_findEnd p1 h (fun q55 h' => K (Value.int .i64 q55) h') | _ => none) else (bif Nat.beq f 35 then (match args with | [.pointer p1] => F_denote_scanner_centrals p1 h (fun q128 q129 h' => K (Value.tuple #[Value.slice q128.a q128.n q128.c, Value.int .i64 q129]) h') | _ => none) else (bif Nat.beq f 36 then (match args with | [.slice p1a p1n p1c] => F_field_Open ⟨p1a, p1n, p1c⟩ h (fun q6 h' => K (Value.pointer q6) h') | _ => none) else (bif Nat.beq f 37 then (match args with | [.pointer p1, .pointer p2, .pointer p3] => F_denote_scanner_local p1 p2 p3 h (fun q64 h' => K (Value.int .i64 q64) h') | _ => none) else (bif Nat.beq f 38 then (match args with | [.pointer p1] => F_field_Cursor_Left p1 h (fun q10 h' => K (Value.int .i64 q10) h') | _ => none) else none))))
def HF_denote_Scan : Hints := ⟨[(10, [5, 7, 9, 37, 38], [(0, [(5, .ty 70), (7, .ty 36), (9, .ty 78)])], some [(2, .ty 36), (3, .ty 23), (4, .ty 29)])], [], []⟩
noncomputable def BF_denote_Scan : Code := match Try.f14.body with | some c => c | none => .skip
noncomputable def F_denote_Scan_l0 (F_denote_scanner_findEnd : Option Addr → GH → (Int → GH → Option β) → Option β) (F_denote_scanner_centrals : Option Addr → GH → (Sl → Int → GH → Option β) → Option β) (F_field_Open : Sl → GH → (Option Addr → GH → Option β) → Option β) (F_denote_scanner_local : Option Addr → Option Addr → Option Addr → GH → (Int → GH → Option β) → Option β) (F_field_Cursor_Left : Option Addr → GH → (Int → GH → Option β) → Option β) (R : Nat) (n : Nat) (y13 : Option Addr) (y14 : Sl) (y15 : Option Addr) (y16 : Int) (y17 : Int) (h : GH) (K0 : Option Addr → Sl → Option Addr → GH → Option β) (Kr : Sl → Sl → Int → GH → Option β) : Option β := gloop (gcode Try.prog (CF_denote_Scan F_denote_scanner_findEnd F_denote_scanner_centrals F_field_Open F_denote_scanner_local F_field_Cursor_Left) Try.f14.ntmps HF_denote_Scan R (at_ [true, true, true, true, true, true, false, true, false, false] BF_denote_Scan)) [5, 7, 9, 37, 38] n [(5, Value.pointer y13), (7, Value.slice y14.a y14.n y14.c), (9, Value.pointer y15), (37, Value.int .i64 y16), (38, Value.int .i64 y17)] h (fun i e' h' => bif Nat.beq i 0 then (exP (some (e'.get 5)) fun u44 => exS (some (e'.get 7)) fun u45 => exP (some (e'.get 9)) fun u46 => K0 u44 u45 u46 h') else none) (fun e' h' => exS (some (e'.get 2)) fun u47 => exS (some (e'.get 3)) fun u48 => exI .i64 (some (e'.get 4)) fun u49 => Kr u47 u48 u49 h')
set_option maxRecDepth 100000 in
theorem F_denote_Scan_l0_succ (F_denote_scanner_findEnd : Option Addr → GH → (Int → GH → Option β) → Option β) (F_denote_scanner_centrals : Option Addr → GH → (Sl → Int → GH → Option β) → Option β) (F_field_Open : Sl → GH → (Option Addr → GH → Option β) → Option β) (F_denote_scanner_local : Option Addr → Option Addr → Option Addr → GH → (Int → GH → Option β) → Option β) (F_field_Cursor_Left : Option Addr → GH → (Int → GH → Option β) → Option β) (R : Nat) (n : Nat) (y13 : Option Addr) (y14 : Sl) (y15 : Option Addr) (y16 : Int) (y17 : Int) (h : GH) (K0 : Option Addr → Sl → Option Addr → GH → Option β) (Kr : Sl → Sl → Int → GH → Option β) : F_denote_Scan_l0 F_denote_scanner_findEnd F_denote_scanner_centrals F_field_Open F_denote_scanner_local F_field_Cursor_Left R (n + 1) y13 y14 y15 y16 y17 h K0 Kr =
    (bif decide (y17 < y16) then exA y14.a fun g24 o25 => within y17 y14.n (F_denote_scanner_local y13 y15 (some ⟨g24, o25 + y17.toNat * 18, none⟩) h fun r26 h27 => (bif r26 != 0 then Kr ⟨none, 0, 0⟩ ⟨none, 0, 0⟩ r26 h27 else F_denote_Scan_l0 F_denote_scanner_findEnd F_denote_scanner_centrals F_field_Open F_denote_scanner_local F_field_Cursor_Left R n y13 y14 y15 y16 (IntKind.wrap .i64 (y17 + 1)) h27 K0 Kr)) else K0 y13 y14 y15 h) := by kernel_rfl
noncomputable def G_denote_Scan (F_denote_scanner_findEnd : Option Addr → GH → (Int → GH → Option β) → Option β) (F_denote_scanner_centrals : Option Addr → GH → (Sl → Int → GH → Option β) → Option β) (F_field_Open : Sl → GH → (Option Addr → GH → Option β) → Option β) (F_denote_scanner_local : Option Addr → Option Addr → Option Addr → GH → (Int → GH → Option β) → Option β) (F_field_Cursor_Left : Option Addr → GH → (Int → GH → Option β) → Option β) (R : Nat) (a1 : Sl) (h : GH) (K : Sl → Sl → Int → GH → Option β) : Option β := gfun Try.prog (CF_denote_Scan F_denote_scanner_findEnd F_denote_scanner_centrals F_field_Open F_denote_scanner_local F_field_Cursor_Left) HF_denote_Scan R Try.f14 [Value.slice a1.a a1.n a1.c] h (fun v h' => exTup 3 v fun vs => exV (nth vs 0) fun v0 => exS (some v0) fun u50 => exV (nth vs 1) fun v1 => exS (some v1) fun u51 => exV (nth vs 2) fun v2 => exI .i64 (some v2) fun u52 => K u50 u51 u52 h')
set_option maxRecDepth 100000 in
theorem F_denote_Scan_gen (F_denote_scanner_findEnd : Option Addr → GH → (Int → GH → Option β) → Option β) (F_denote_scanner_centrals : Option Addr → GH → (Sl → Int → GH → Option β) → Option β) (F_field_Open : Sl → GH → (Option Addr → GH → Option β) → Option β) (F_denote_scanner_local : Option Addr → Option Addr → Option Addr → GH → (Int → GH → Option β) → Option β) (F_field_Cursor_Left : Option Addr → GH → (Int → GH → Option β) → Option β) (R : Nat) (a1 : Sl) (h : GH) (K : Sl → Sl → Int → GH → Option β) : G_denote_Scan F_denote_scanner_findEnd F_denote_scanner_centrals F_field_Open F_denote_scanner_local F_field_Cursor_Left R a1 h K =
    gnew [Value.slice a1.a a1.n a1.c, Value.int .i64 0, Value.int .i64 0, Value.int .i64 0, Value.int .i64 0, Value.int .u32 0, Value.int .u32 0, Value.slice none 0 0, Value.int .i64 0] 0 h fun g2 h3 => F_denote_scanner_findEnd (some ⟨g2, 0, none⟩) h3 fun r4 h5 => (bif r4 != 0 then K ⟨none, 0, 0⟩ ⟨none, 0, 0⟩ r4 h5 else F_denote_scanner_centrals (some ⟨g2, 0, none⟩) h5 fun r6 r7 h8 => (bif r7 != 0 then K ⟨none, 0, 0⟩ ⟨none, 0, 0⟩ r7 h8 else exI .u32 (h8.cell ⟨g2, 0 + 1 + 5, none⟩) fun x9 => bnd x9 a1.c fun m10 => F_field_Open ⟨addO a1.a (0 * 1), m10 - 0, a1.c - 0⟩ h8 fun r11 h12 => F_denote_Scan_l0 F_denote_scanner_findEnd F_denote_scanner_centrals F_field_Open F_denote_scanner_local F_field_Cursor_Left R R (some ⟨g2, 0, none⟩) r6 r11 ((r6.n : Nat) : Int) 0 h12 (fun w28 w29 w30 h31 => F_field_Cursor_Left w30 h31 fun r32 h33 => (bif decide (r32 > 0) then K ⟨none, 0, 0⟩ ⟨none, 0, 0⟩ 14 h33 else exA w28 fun g34 o35 => exS (h33.cell ⟨g34, o35 + 1 + 6, none⟩) fun x36 => K w29 x36 0 h33)) (fun w37 w38 w39 h40 => K w37 w38 w39 h40))) := by kernel_rfl
noncomputable def F_denote_Scan (R : Nat) (a1 : Sl) (h : GH) (K : Sl → Sl → Int → GH → Option β) : Option β := G_denote_Scan (F_denote_scanner_findEnd R) (F_denote_scanner_centrals R) (F_field_Open R) (F_denote_scanner_local R) (F_field_Cursor_Left R) R a1 h K
set_option maxRecDepth 100000 in
theorem CF_denote_Scan_sim {R : Nat} : SimOrc Try.prog (CF_denote_Scan (F_denote_scanner_findEnd R) (F_denote_scanner_centrals R) (F_field_Open R) (F_denote_scanner_local R) (F_field_Cursor_Left R) (β := β)) := by
  intro f args h K r hc
  unfold CF_denote_Scan at hc
  cases hb : Nat.beq f 34 with
  | true =>
    rw [hb] at hc
    simp only [cond_true] at hc
    obtain rfl := Nat.eq_of_beq_eq_true hb
    split at hc
    · exact any_call (F_denote_scanner_findEnd_sim (K := K) hc)
    · cases hc
  | false =>
  rw [hb] at hc
  simp only [cond_false] at hc
  cases hb : Nat.beq f 35 with
  | true =>
    rw [hb] at hc
    simp only [cond_true] at hc
    obtain rfl := Nat.eq_of_beq_eq_true hb
    split at hc
    · exact any_call (F_denote_scanner_centrals_sim (K := K) hc)
    · cases hc
  | false =>
  rw [hb] at hc
  simp only [cond_false] at hc
  cases hb : Nat.beq f 36 with
  | true =>
    rw [hb] at hc
    simp only [cond_true] at hc
    obtain rfl := Nat.eq_of_beq_eq_true hb
    split at hc
    · exact any_call (F_field_Open_sim (K := K) hc)
    · cases hc
  | false =>
  rw [hb] at hc
  simp only [cond_false] at hc
  cases hb : Nat.beq f 37 with
  | true =>
    rw [hb] at hc
    simp only [cond_true] at hc
    obtain rfl := Nat.eq_of_beq_eq_true hb
    split at hc
    · exact any_call (F_denote_scanner_local_sim (K := K) hc)
    · cases hc
  | false =>
  rw [hb] at hc
  simp only [cond_false] at hc
  cases hb : Nat.beq f 38 with
  | true =>
    rw [hb] at hc
    simp only [cond_true] at hc
    obtain rfl := Nat.eq_of_beq_eq_true hb
    split at hc
    · exact any_call (F_field_Cursor_Left_sim (K := K) hc)
    · cases hc
  | false =>
  rw [hb] at hc
  simp only [cond_false] at hc
  cases hc
set_option maxRecDepth 100000 in
theorem F_denote_Scan_sim {R : Nat} {r : β} {a1 : Sl} {h : GH} {K : Value → GH → Option β} (hc : F_denote_Scan R a1 h (fun q0 q1 q2 h' => K (Value.tuple #[Value.slice q0.a q0.n q0.c, Value.slice q1.a q1.n q1.c, Value.int .i64 q2]) h') = some r) : ∃ v h', K v h' = some r ∧ CallSim Try.prog 14 [Value.slice a1.a a1.n a1.c] h v h' := by
  unfold F_denote_Scan G_denote_Scan at hc
  obtain ⟨v, h', hk, hs⟩ := gfun_sim (CF_denote_Scan_sim (R := R)) mixed_ok (fun f h => by cases h) Try.func14 (by kernel_rfl) hc
  obtain ⟨vs, rfl, hl, hk⟩ := exTup_v hk
  obtain ⟨v0, t0, hk⟩ := exV_v hk
  obtain ⟨u0, e0, hk⟩ := exS_v hk; cases e0
  obtain ⟨v1, t1, hk⟩ := exV_v hk
  obtain ⟨u1, e1, hk⟩ := exS_v hk; cases e1
  obtain ⟨v2, t2, hk⟩ := exV_v hk
  obtain ⟨u2, e2, hk⟩ := exI_v hk; cases e2
  obtain rfl := arr3 hl t0 t1 t2
  exact ⟨_, h', hk, hs⟩
/-! F16 duffel/duffelref01.Same -/
def CF_ref01_Same  : Orc β := fun f args h K => none
def HF_ref01_Same : Hints := ⟨[(4, [0, 1, 5], [(0, [])], some [(4, .ty 4)])], [], []⟩
noncomputable def BF_ref01_Same : Code := match Try.f16.body with | some c => c | none => .skip
noncomputable def F_ref01_Same_l0  (R : Nat) (n : Nat) (y3 : Sl) (y4 : Sl) (y5 : Int) (h : GH) (K0 : GH → Option β) (Kr : Bool → GH → Option β) : Option β := gloop (gcode Try.prog (CF_ref01_Same ) Try.f16.ntmps HF_ref01_Same R (at_ [true, true, false, true, false, false] BF_ref01_Same)) [0, 1, 5] n [(0, Value.slice y3.a y3.n y3.c), (1, Value.slice y4.a y4.n y4.c), (5, Value.int .i64 y5)] h (fun i e' h' => bif Nat.beq i 0 then (K0 h') else none) (fun e' h' => exB (some (e'.get 4)) fun u17 => Kr u17 h')
set_option maxRecDepth 100000 in
theorem F_ref01_Same_l0_succ  (R : Nat) (n : Nat) (y3 : Sl) (y4 : Sl) (y5 : Int) (h : GH) (K0 : GH → Option β) (Kr : Bool → GH → Option β) : F_ref01_Same_l0  R (n + 1) y3 y4 y5 h K0 Kr =
    (bif decide (y5 < ((y3.n : Nat) : Int)) then exA y3.a fun g7 o8 => within y5 y3.n (exI .u8 (h.cell ⟨g7, o8 + y5.toNat * 1, none⟩) fun x9 => exA y4.a fun g10 o11 => within y5 y4.n (exI .u8 (h.cell ⟨g10, o11 + y5.toNat * 1, none⟩) fun x12 => (bif x9 != x12 then Kr false h else F_ref01_Same_l0 R n y3 y4 (IntKind.wrap .i64 (y5 + 1)) h K0 Kr))) else K0 h) := by kernel_rfl
noncomputable def G_ref01_Same  (R : Nat) (a1 : Sl) (a2 : Sl) (h : GH) (K : Bool → GH → Option β) : Option β := gfun Try.prog (CF_ref01_Same ) HF_ref01_Same R Try.f16 [Value.slice a1.a a1.n a1.c, Value.slice a2.a a2.n a2.c] h (fun v h' => exB (some v) fun u18 => K u18 h')
set_option maxRecDepth 100000 in
theorem F_ref01_Same_gen  (R : Nat) (a1 : Sl) (a2 : Sl) (h : GH) (K : Bool → GH → Option β) : G_ref01_Same  R a1 a2 h K =
    (bif ((a1.n : Nat) : Int) != ((a2.n : Nat) : Int) then K false h else F_ref01_Same_l0 R R a1 a2 0 h (fun h13 => K true h13) (fun w14 h15 => K w14 h15)) := by kernel_rfl
noncomputable def F_ref01_Same (R : Nat) (a1 : Sl) (a2 : Sl) (h : GH) (K : Bool → GH → Option β) : Option β := G_ref01_Same  R a1 a2 h K
theorem CF_ref01_Same_sim : SimOrc Try.prog (CF_ref01_Same (β := β)) := by
  intro f args h K r hc
  cases hc
set_option maxRecDepth 100000 in
theorem F_ref01_Same_sim {R : Nat} {r : β} {a1 : Sl} {a2 : Sl} {h : GH} {K : Value → GH → Option β} (hc : F_ref01_Same R a1 a2 h (fun q0 h' => K (Value.bool q0) h') = some r) : ∃ v h', K v h' = some r ∧ CallSim Try.prog 16 [Value.slice a1.a a1.n a1.c, Value.slice a2.a a2.n a2.c] h v h' := by
  unfold F_ref01_Same G_ref01_Same at hc
  obtain ⟨v, h', hk, hs⟩ := gfun_sim CF_ref01_Same_sim mixed_ok (fun f h => by cases h) Try.func16 (by kernel_rfl) hc
  obtain ⟨u0, e0, hk⟩ := exB_v hk; cases e0
  exact ⟨_, h', hk, hs⟩
/-! F7 duffel/duffellaw26.DenoteShort -/
def CF_law26_DenoteShort (F_ref26_Few : Sl → Int → GH → (Sl → GH → Option β) → Option β) (F_ref01_Cut : Sl → Int → GH → (Sl → GH → Option β) → Option β) (F_law26_mine : Sl → GH → (Sl → GH → Option β) → Option β) (F_denote_Join : Sl → Sl → GH → (Sl → Int → GH → Option β) → Option β) (F_law26_lives : GH → (Bool → GH → Option β) → Option β) (F_ref01_Within : Int → Int → Int → GH → (Int → GH → Option β) → Option β) (F_denote_Scan : Sl → GH → (Sl → Sl → Int → GH → Option β) → Option β) (F_record_FindEnd : Sl → GH → (Int → GH → Option β) → Option β) (F_ref01_Same : Sl → Sl → GH → (Bool → GH → Option β) → Option β) : Orc β := fun f args h K => bif Nat.beq f 19 then (match args with | [.slice p1a p1n p1c, .int .i64 p2] => F_ref26_Few ⟨p1a, p1n, p1c⟩ p2 h (fun q53 h' => K (Value.slice q53.a q53.n q53.c) h') | _ => none) else (bif Nat.beq f 12 then (match args with | [.slice p1a p1n p1c, .int .i64 p2] => F_ref01_Cut ⟨p1a, p1n, p1c⟩ p2 h (fun q4 h' => K (Value.slice q4.a q4.n q4.c) h') | _ => none) else (bif Nat.beq f 21 then (match args with | [.slice p1a p1n p1c] => F_law26_mine ⟨p1a, p1n, p1c⟩ h (fun q36 h' => K (Value.slice q36.a q36.n q36.c) h') | _ => none) else (bif Nat.beq f 20 then (match args with | [.slice p1a p1n p1c, .slice p2a p2n p2c] => F_denote_Join ⟨p1a, p1n, p1c⟩ ⟨p2a, p2n, p2c⟩ h (fun q133 q134 h' => K (Value.tuple #[Value.slice q133.a q133.n q133.c, Value.int .i64 q134]) h') | _ => none) else (bif Nat.beq f 11 then (match args with | [] => F_law26_lives  h (fun q1 h' => K (Value.bool q1) h') | _ => none) else (bif Nat.beq f 23 then (match args with | [.int .i64 p1, .int .i64 p2, .int .i64 p3] => F_ref01_Within p1 p2 p3 h (fun q4 h' => K (Value.int .i64 q4) h') | _ => none) else (bif Nat.beq f 14 then (match args with | [.slice p1a p1n p1c] => F_denote_Scan ⟨p1a, p1n, p1c⟩ h (fun q41 q42 q43 h' => K (Value.tuple #[Value.slice q41.a q41.n q41.c, Value.slice q42.a q42.n q42.c, Value.int .i64 q43]) h') | _ => none) else (bif Nat.beq f 24 then (match args with | [.slice p1a p1n p1c] => F_record_FindEnd ⟨p1a, p1n, p1c⟩ h (fun q15 h' => K (Value.int .i64 q15) h') | _ => none) else (bif Nat.beq f 16 then (match args with | [.slice p1a p1n p1c, .slice p2a p2n p2c] => F_ref01_Same ⟨p1a, p1n, p1c⟩ ⟨p2a, p2n, p2c⟩ h (fun q16 h' => K (Value.bool q16) h') | _ => none) else none))))))))
def HF_law26_DenoteShort : Hints := ⟨[], [], []⟩
noncomputable def G_law26_DenoteShort (F_ref26_Few : Sl → Int → GH → (Sl → GH → Option β) → Option β) (F_ref01_Cut : Sl → Int → GH → (Sl → GH → Option β) → Option β) (F_law26_mine : Sl → GH → (Sl → GH → Option β) → Option β) (F_denote_Join : Sl → Sl → GH → (Sl → Int → GH → Option β) → Option β) (F_law26_lives : GH → (Bool → GH → Option β) → Option β) (F_ref01_Within : Int → Int → Int → GH → (Int → GH → Option β) → Option β) (F_denote_Scan : Sl → GH → (Sl → Sl → Int → GH → Option β) → Option β) (F_record_FindEnd : Sl → GH → (Int → GH → Option β) → Option β) (F_ref01_Same : Sl → Sl → GH → (Bool → GH → Option β) → Option β) (R : Nat) (a1 : Sl) (a2 : Sl) (a3 : Int) (a4 : Bool) (h : GH) (K : Bool → GH → Option β) : Option β := gfun Try.prog (CF_law26_DenoteShort F_ref26_Few F_ref01_Cut F_law26_mine F_denote_Join F_law26_lives F_ref01_Within F_denote_Scan F_record_FindEnd F_ref01_Same) HF_law26_DenoteShort R Try.f7 [Value.slice a1.a a1.n a1.c, Value.slice a2.a a2.n a2.c, Value.int .i64 a3, Value.bool a4] h (fun v h' => exB (some v) fun u55 => K u55 h')
set_option maxRecDepth 100000 in
theorem F_law26_DenoteShort_gen (F_ref26_Few : Sl → Int → GH → (Sl → GH → Option β) → Option β) (F_ref01_Cut : Sl → Int → GH → (Sl → GH → Option β) → Option β) (F_law26_mine : Sl → GH → (Sl → GH → Option β) → Option β) (F_denote_Join : Sl → Sl → GH → (Sl → Int → GH → Option β) → Option β) (F_law26_lives : GH → (Bool → GH → Option β) → Option β) (F_ref01_Within : Int → Int → Int → GH → (Int → GH → Option β) → Option β) (F_denote_Scan : Sl → GH → (Sl → Sl → Int → GH → Option β) → Option β) (F_record_FindEnd : Sl → GH → (Int → GH → Option β) → Option β) (F_ref01_Same : Sl → Sl → GH → (Bool → GH → Option β) → Option β) (R : Nat) (a1 : Sl) (a2 : Sl) (a3 : Int) (a4 : Bool) (h : GH) (K : Bool → GH → Option β) : G_law26_DenoteShort F_ref26_Few F_ref01_Cut F_law26_mine F_denote_Join F_law26_lives F_ref01_Within F_denote_Scan F_record_FindEnd F_ref01_Same R a1 a2 a3 a4 h K =
    F_ref26_Few a1 4 h fun r5 h6 => F_ref01_Cut a2 60 h6 fun r7 h8 => F_law26_mine r5 h8 fun r9 h10 => F_denote_Join r9 r7 h10 fun r11 r12 h13 => (bif r12 != 0 then F_law26_lives h13 fun r14 h15 => K r14 h15 else F_ref01_Within a3 1 ((r11.n : Nat) : Int) h13 fun r16 h17 => (bif a4 then bnd r16 r11.n fun m18 => F_denote_Scan ⟨addO r11.a (m18 * 1), r11.n - m18, r11.c - m18⟩ h17 fun r19 r20 r21 h22 => (bif r21 != 0 then (bif (IntKind.wrap .i64 (((r19.n : Nat) : Int) + ((r20.n : Nat) : Int))) == 0 then F_law26_lives h22 fun r23 h24 => K r23 h24 else K false h22) else F_denote_Join r19 r20 h22 fun r25 r26 h27 => F_record_FindEnd ⟨addO r11.a (m18 * 1), r11.n - m18, r11.c - m18⟩ h27 fun r28 h29 => (bif r26 == 0 then F_ref01_Same ⟨addO r11.a (m18 * 1), r11.n - m18, r11.c - m18⟩ r25 h29 fun r30 h31 => (bif r30 then (bif decide (r28 ≥ 0) then (bif a4 then F_law26_lives h31 fun r32 h33 => K r32 h33 else (bif decide ((IntKind.wrap .i64 (r28 + 22)) ≤ ((r11.n - m18 : Nat) : Int)) then F_law26_lives h31 fun r34 h35 => K r34 h35 else K false h31)) else K false h31) else K false h31) else K false h29)) else bnd (IntKind.wrap .i64 (((r11.n : Nat) : Int) - r16)) r11.c fun m36 => F_denote_Scan ⟨addO r11.a (0 * 1), m36 - 0, r11.c - 0⟩ h17 fun r37 r38 r39 h40 => (bif r39 != 0 then (bif (IntKind.wrap .i64 (((r37.n : Nat) : Int) + ((r38.n : Nat) : Int))) == 0 then F_law26_lives h40 fun r41 h42 => K r41 h42 else K false h40) else F_denote_Join r37 r38 h40 fun r43 r44 h45 => F_record_FindEnd ⟨addO r11.a (0 * 1), m36 - 0, r11.c - 0⟩ h45 fun r46 h47 => (bif r44 == 0 then F_ref01_Same ⟨addO r11.a (0 * 1), m36 - 0, r11.c - 0⟩ r43 h47 fun r48 h49 => (bif r48 then (bif decide (r46 ≥ 0) then (bif a4 then F_law26_lives h49 fun r50 h51 => K r50 h51 else (bif decide ((IntKind.wrap .i64 (r46 + 22)) ≤ ((m36 - 0 : Nat) : Int)) then F_law26_lives h49 fun r52 h53 => K r52 h53 else K false h49)) else K false h49) else K false h49) else K false h47)))) := by kernel_rfl
noncomputable def F_law26_DenoteShort (R : Nat) (a1 : Sl) (a2 : Sl) (a3 : Int) (a4 : Bool) (h : GH) (K : Bool → GH → Option β) : Option β := G_law26_DenoteShort (F_ref26_Few R) (F_ref01_Cut R) (F_law26_mine R) (F_denote_Join R) F_law26_lives (F_ref01_Within R) (F_denote_Scan R) (F_record_FindEnd R) (F_ref01_Same R) R a1 a2 a3 a4 h K
set_option maxRecDepth 100000 in
theorem CF_law26_DenoteShort_sim {R : Nat} : SimOrc Try.prog (CF_law26_DenoteShort (F_ref26_Few R) (F_ref01_Cut R) (F_law26_mine R) (F_denote_Join R) F_law26_lives (F_ref01_Within R) (F_denote_Scan R) (F_record_FindEnd R) (F_ref01_Same R) (β := β)) := by
  intro f args h K r hc
  unfold CF_law26_DenoteShort at hc
  cases hb : Nat.beq f 19 with
  | true =>
    rw [hb] at hc
    simp only [cond_true] at hc
    obtain rfl := Nat.eq_of_beq_eq_true hb
    split at hc
    · exact any_call (F_ref26_Few_sim (K := K) hc)
    · cases hc
  | false =>
  rw [hb] at hc
  simp only [cond_false] at hc
  cases hb : Nat.beq f 12 with
  | true =>
    rw [hb] at hc
    simp only [cond_true] at hc
    obtain rfl := Nat.eq_of_beq_eq_true hb
    split at hc
    · exact any_call (F_ref01_Cut_sim (K := K) hc)
    · cases hc
  | false =>
  rw [hb] at hc
  simp only [cond_false] at hc
  cases hb : Nat.beq f 21 with
  | true =>
    rw [hb] at hc
    simp only [cond_true] at hc
    obtain rfl := Nat.eq_of_beq_eq_true hb
    split at hc
    · exact any_call (F_law26_mine_sim (K := K) hc)
    · cases hc
  | false =>
  rw [hb] at hc
  simp only [cond_false] at hc
  cases hb : Nat.beq f 20 with
  | true =>
    rw [hb] at hc
    simp only [cond_true] at hc
    obtain rfl := Nat.eq_of_beq_eq_true hb
    split at hc
    · exact any_call (F_denote_Join_sim (K := K) hc)
    · cases hc
  | false =>
  rw [hb] at hc
  simp only [cond_false] at hc
  cases hb : Nat.beq f 11 with
  | true =>
    rw [hb] at hc
    simp only [cond_true] at hc
    obtain rfl := Nat.eq_of_beq_eq_true hb
    split at hc
    · exact any_call (F_law26_lives_sim (K := K) hc)
    · cases hc
  | false =>
  rw [hb] at hc
  simp only [cond_false] at hc
  cases hb : Nat.beq f 23 with
  | true =>
    rw [hb] at hc
    simp only [cond_true] at hc
    obtain rfl := Nat.eq_of_beq_eq_true hb
    split at hc
    · exact any_call (F_ref01_Within_sim (K := K) hc)
    · cases hc
  | false =>
  rw [hb] at hc
  simp only [cond_false] at hc
  cases hb : Nat.beq f 14 with
  | true =>
    rw [hb] at hc
    simp only [cond_true] at hc
    obtain rfl := Nat.eq_of_beq_eq_true hb
    split at hc
    · exact any_call (F_denote_Scan_sim (K := K) hc)
    · cases hc
  | false =>
  rw [hb] at hc
  simp only [cond_false] at hc
  cases hb : Nat.beq f 24 with
  | true =>
    rw [hb] at hc
    simp only [cond_true] at hc
    obtain rfl := Nat.eq_of_beq_eq_true hb
    split at hc
    · exact any_call (F_record_FindEnd_sim (K := K) hc)
    · cases hc
  | false =>
  rw [hb] at hc
  simp only [cond_false] at hc
  cases hb : Nat.beq f 16 with
  | true =>
    rw [hb] at hc
    simp only [cond_true] at hc
    obtain rfl := Nat.eq_of_beq_eq_true hb
    split at hc
    · exact any_call (F_ref01_Same_sim (K := K) hc)
    · cases hc
  | false =>
  rw [hb] at hc
  simp only [cond_false] at hc
  cases hc
set_option maxRecDepth 100000 in
theorem F_law26_DenoteShort_sim {R : Nat} {r : β} {a1 : Sl} {a2 : Sl} {a3 : Int} {a4 : Bool} {h : GH} {K : Value → GH → Option β} (hc : F_law26_DenoteShort R a1 a2 a3 a4 h (fun q0 h' => K (Value.bool q0) h') = some r) : ∃ v h', K v h' = some r ∧ CallSim Try.prog 7 [Value.slice a1.a a1.n a1.c, Value.slice a2.a a2.n a2.c, Value.int .i64 a3, Value.bool a4] h v h' := by
  unfold F_law26_DenoteShort G_law26_DenoteShort at hc
  obtain ⟨v, h', hk, hs⟩ := gfun_sim (CF_law26_DenoteShort_sim (R := R)) mixed_ok (fun f h => by cases h) Try.func7 (by kernel_rfl) hc
  obtain ⟨u0, e0, hk⟩ := exB_v hk; cases e0
  exact ⟨_, h', hk, hs⟩
/-! F30 duffel/duffelref25.Known -/
def CF_ref25_Known  : Orc β := fun f args h K => none
def HF_ref25_Known : Hints := ⟨[], [], []⟩
noncomputable def G_ref25_Known  (R : Nat) (a1 : Int) (h : GH) (K : Bool → GH → Option β) : Option β := gfun Try.prog (CF_ref25_Known ) HF_ref25_Known R Try.f30 [Value.int .i64 a1] h (fun v h' => exB (some v) fun u3 => K u3 h')
set_option maxRecDepth 100000 in
theorem F_ref25_Known_gen  (R : Nat) (a1 : Int) (h : GH) (K : Bool → GH → Option β) : G_ref25_Known  R a1 h K =
    (bif decide (a1 ≥ 0) then (bif decide (a1 ≤ 9) then K (a1 != 7) h else K false h) else K false h) := by kernel_rfl
noncomputable def F_ref25_Known (R : Nat) (a1 : Int) (h : GH) (K : Bool → GH → Option β) : Option β := G_ref25_Known  R a1 h K
theorem CF_ref25_Known_sim : SimOrc Try.prog (CF_ref25_Known (β := β)) := by
  intro f args h K r hc
  cases hc
set_option maxRecDepth 100000 in
theorem F_ref25_Known_sim {R : Nat} {r : β} {a1 : Int} {h : GH} {K : Value → GH → Option β} (hc : F_ref25_Known R a1 h (fun q0 h' => K (Value.bool q0) h') = some r) : ∃ v h', K v h' = some r ∧ CallSim Try.prog 30 [Value.int .i64 a1] h v h' := by
  unfold F_ref25_Known G_ref25_Known at hc
  obtain ⟨v, h', hk, hs⟩ := gfun_sim CF_ref25_Known_sim mixed_ok (fun f h => by cases h) Try.func30 (by kernel_rfl) hc
  obtain ⟨u0, e0, hk⟩ := exB_v hk; cases e0
  exact ⟨_, h', hk, hs⟩
/-! F31 duffel/duffelref25.Allowed -/
def CF_ref25_Allowed  : Orc β := fun f args h K => none
def HF_ref25_Allowed : Hints := ⟨[], [], []⟩
noncomputable def G_ref25_Allowed  (R : Nat) (a1 : Int) (h : GH) (K : Int → GH → Option β) : Option β := gfun Try.prog (CF_ref25_Allowed ) HF_ref25_Allowed R Try.f31 [Value.int .i64 a1] h (fun v h' => exI .i64 (some v) fun u3 => K u3 h')
set_option maxRecDepth 100000 in
theorem F_ref25_Allowed_gen  (R : Nat) (a1 : Int) (h : GH) (K : Int → GH → Option β) : G_ref25_Allowed  R a1 h K =
    (bif a1 == 6 then K 6 h else (bif a1 == 8 then K 6 h else (bif a1 == 9 then K 6 h else K 0 h))) := by kernel_rfl
noncomputable def F_ref25_Allowed (R : Nat) (a1 : Int) (h : GH) (K : Int → GH → Option β) : Option β := G_ref25_Allowed  R a1 h K
theorem CF_ref25_Allowed_sim : SimOrc Try.prog (CF_ref25_Allowed (β := β)) := by
  intro f args h K r hc
  cases hc
set_option maxRecDepth 100000 in
theorem F_ref25_Allowed_sim {R : Nat} {r : β} {a1 : Int} {h : GH} {K : Value → GH → Option β} (hc : F_ref25_Allowed R a1 h (fun q0 h' => K (Value.int .i64 q0) h') = some r) : ∃ v h', K v h' = some r ∧ CallSim Try.prog 31 [Value.int .i64 a1] h v h' := by
  unfold F_ref25_Allowed G_ref25_Allowed at hc
  obtain ⟨v, h', hk, hs⟩ := gfun_sim CF_ref25_Allowed_sim mixed_ok (fun f h => by cases h) Try.func31 (by kernel_rfl) hc
  obtain ⟨u0, e0, hk⟩ := exI_v hk; cases e0
  exact ⟨_, h', hk, hs⟩
/-! F82 duffel/duffelref02.Num -/
def CF_ref02_Num  : Orc β := fun f args h K => none
def HF_ref02_Num : Hints := ⟨[(3, [0, 3, 4], [(0, [(3, .ty 22)])], none)], [], []⟩
noncomputable def BF_ref02_Num : Code := match Try.f82.body with | some c => c | none => .skip
noncomputable def F_ref02_Num_l0  (R : Nat) (n : Nat) (y2 : Sl) (y3 : Int) (y4 : Int) (h : GH) (K0 : Int → GH → Option β) : Option β := gloop (gcode Try.prog (CF_ref02_Num ) Try.f82.ntmps HF_ref02_Num R (at_ [true, true, false, true, false, false] BF_ref02_Num)) [0, 3, 4] n [(0, Value.slice y2.a y2.n y2.c), (3, Value.int .u32 y3), (4, Value.int .i64 y4)] h (fun i e' h' => bif Nat.beq i 0 then (exI .u32 (some (e'.get 3)) fun u12 => K0 u12 h') else none) (fun e' h' => none)
set_option maxRecDepth 100000 in
theorem F_ref02_Num_l0_succ  (R : Nat) (n : Nat) (y2 : Sl) (y3 : Int) (y4 : Int) (h : GH) (K0 : Int → GH → Option β) : F_ref02_Num_l0  R (n + 1) y2 y3 y4 h K0 =
    (bif decide (y4 ≥ 0) then exA y2.a fun g6 o7 => within y4 y2.n (exI .u8 (h.cell ⟨g6, o7 + y4.toNat * 1, none⟩) fun x8 => F_ref02_Num_l0 R n y2 (IntKind.wrap .u32 ((IntKind.wrap .u32 (y3 * 256)) + (IntKind.wrap .u32 x8))) (IntKind.wrap .i64 (y4 - 1)) h K0) else K0 y3 h) := by kernel_rfl
noncomputable def G_ref02_Num  (R : Nat) (a1 : Sl) (h : GH) (K : Int → GH → Option β) : Option β := gfun Try.prog (CF_ref02_Num ) HF_ref02_Num R Try.f82 [Value.slice a1.a a1.n a1.c] h (fun v h' => exI .u32 (some v) fun u13 => K u13 h')
set_option maxRecDepth 100000 in
theorem F_ref02_Num_gen  (R : Nat) (a1 : Sl) (h : GH) (K : Int → GH → Option β) : G_ref02_Num  R a1 h K =
    F_ref02_Num_l0 R R a1 0 (IntKind.wrap .i64 (((a1.n : Nat) : Int) - 1)) h (fun w9 h10 => K w9 h10) := by kernel_rfl
noncomputable def F_ref02_Num (R : Nat) (a1 : Sl) (h : GH) (K : Int → GH → Option β) : Option β := G_ref02_Num  R a1 h K
theorem CF_ref02_Num_sim : SimOrc Try.prog (CF_ref02_Num (β := β)) := by
  intro f args h K r hc
  cases hc
set_option maxRecDepth 100000 in
theorem F_ref02_Num_sim {R : Nat} {r : β} {a1 : Sl} {h : GH} {K : Value → GH → Option β} (hc : F_ref02_Num R a1 h (fun q0 h' => K (Value.int .u32 q0) h') = some r) : ∃ v h', K v h' = some r ∧ CallSim Try.prog 82 [Value.slice a1.a a1.n a1.c] h v h' := by
  unfold F_ref02_Num G_ref02_Num at hc
  obtain ⟨v, h', hk, hs⟩ := gfun_sim CF_ref02_Num_sim mixed_ok (fun f h => by cases h) Try.func82 (by kernel_rfl) hc
  obtain ⟨u0, e0, hk⟩ := exI_v hk; cases e0
  exact ⟨_, h', hk, hs⟩
/-! F58 duffel/duffelref23.Read -/
def CF_ref23_Read (F_ref02_Num : Sl → GH → (Int → GH → Option β) → Option β) (F_ref01_Copy : Sl → GH → (Sl → GH → Option β) → Option β) : Orc β := fun f args h K => bif Nat.beq f 82 then (match args with | [.slice p1a p1n p1c] => F_ref02_Num ⟨p1a, p1n, p1c⟩ h (fun q11 h' => K (Value.int .u32 q11) h') | _ => none) else (bif Nat.beq f 13 then (match args with | [.slice p1a p1n p1c] => F_ref01_Copy ⟨p1a, p1n, p1c⟩ h (fun q4 h' => K (Value.slice q4.a q4.n q4.c) h') | _ => none) else none)
def HF_ref23_Read : Hints := ⟨[(3, [0, 4, 5], [(0, [(4, .ty 103)])], some [(2, .ty 103), (3, .ty 3)])], [], []⟩
noncomputable def BF_ref23_Read : Code := match Try.f58.body with | some c => c | none => .skip
noncomputable def F_ref23_Read_l0 (F_ref02_Num : Sl → GH → (Int → GH → Option β) → Option β) (F_ref01_Copy : Sl → GH → (Sl → GH → Option β) → Option β) (R : Nat) (n : Nat) (y2 : Sl) (y3 : Sl) (y4 : Int) (h : GH) (K0 : Sl → GH → Option β) (Kr : Sl → Int → GH → Option β) : Option β := gloop (gcode Try.prog (CF_ref23_Read F_ref02_Num F_ref01_Copy) Try.f58.ntmps HF_ref23_Read R (at_ [true, true, true, false, false, false] BF_ref23_Read)) [0, 4, 5] n [(0, Value.slice y2.a y2.n y2.c), (4, Value.slice y3.a y3.n y3.c), (5, Value.int .i64 y4)] h (fun i e' h' => bif Nat.beq i 0 then (exS (some (e'.get 4)) fun u31 => K0 u31 h') else none) (fun e' h' => exS (some (e'.get 2)) fun u32 => exI .i64 (some (e'.get 3)) fun u33 => Kr u32 u33 h')
set_option maxRecDepth 100000 in
theorem F_ref23_Read_l0_succ (F_ref02_Num : Sl → GH → (Int → GH → Option β) → Option β) (F_ref01_Copy : Sl → GH → (Sl → GH → Option β) → Option β) (R : Nat) (n : Nat) (y2 : Sl) (y3 : Sl) (y4 : Int) (h : GH) (K0 : Sl → GH → Option β) (Kr : Sl → Int → GH → Option β) : F_ref23_Read_l0 F_ref02_Num F_ref01_Copy R (n + 1) y2 y3 y4 h K0 Kr =
    (bif decide (y4 < ((y2.n : Nat) : Int)) then (bif decide ((IntKind.wrap .i64 (((y2.n : Nat) : Int) - y4)) < 4) then Kr ⟨none, 0, 0⟩ 3 h else bnd (IntKind.wrap .i64 (y4 + 4)) y2.c fun m8 => bnd (IntKind.wrap .i64 (y4 + 2)) m8 fun m9 => F_ref02_Num ⟨addO y2.a (m9 * 1), m8 - m9, y2.c - m9⟩ h fun r10 h11 => (bif decide ((IntKind.wrap .i64 r10) > (IntKind.wrap .i64 ((IntKind.wrap .i64 (((y2.n : Nat) : Int) - y4)) - 4))) then Kr ⟨none, 0, 0⟩ 3 h11 else bnd (IntKind.wrap .i64 (y4 + 2)) y2.c fun m12 => bnd y4 m12 fun m13 => F_ref02_Num ⟨addO y2.a (m13 * 1), m12 - m13, y2.c - m13⟩ h11 fun r14 h15 => bnd (IntKind.wrap .i64 ((IntKind.wrap .i64 (y4 + 4)) + (IntKind.wrap .i64 r10))) y2.c fun m16 => bnd (IntKind.wrap .i64 (y4 + 4)) m16 fun m17 => F_ref01_Copy ⟨addO y2.a (m17 * 1), m16 - m17, y2.c - m17⟩ h15 fun r18 h19 => gnew [Value.int .i64 (IntKind.wrap .i64 r14), Value.slice r18.a r18.n r18.c] 2 h19 fun g20 h21 => gappS 2 32 y3 ⟨(some ⟨g20, 0, none⟩), 1, 1⟩ h21 fun s22 h23 => F_ref23_Read_l0 F_ref02_Num F_ref01_Copy R n y2 s22 (IntKind.wrap .i64 ((IntKind.wrap .i64 (y4 + 4)) + (IntKind.wrap .i64 r10))) h23 K0 Kr)) else K0 y3 h) := by kernel_rfl
noncomputable def G_ref23_Read (F_ref02_Num : Sl → GH → (Int → GH → Option β) → Option β) (F_ref01_Copy : Sl → GH → (Sl → GH → Option β) → Option β) (R : Nat) (a1 : Sl) (h : GH) (K : Sl → Int → GH → Option β) : Option β := gfun Try.prog (CF_ref23_Read F_ref02_Num F_ref01_Copy) HF_ref23_Read R Try.f58 [Value.slice a1.a a1.n a1.c] h (fun v h' => exTup 2 v fun vs => exV (nth vs 0) fun v0 => exS (some v0) fun u34 => exV (nth vs 1) fun v1 => exI .i64 (some v1) fun u35 => K u34 u35 h')
set_option maxRecDepth 100000 in
theorem F_ref23_Read_gen (F_ref02_Num : Sl → GH → (Int → GH → Option β) → Option β) (F_ref01_Copy : Sl → GH → (Sl → GH → Option β) → Option β) (R : Nat) (a1 : Sl) (h : GH) (K : Sl → Int → GH → Option β) : G_ref23_Read F_ref02_Num F_ref01_Copy R a1 h K =
    F_ref23_Read_l0 F_ref02_Num F_ref01_Copy R R a1 ⟨none, 0, 0⟩ 0 h (fun w24 h25 => K w24 0 h25) (fun w26 w27 h28 => K w26 w27 h28) := by kernel_rfl
noncomputable def F_ref23_Read (R : Nat) (a1 : Sl) (h : GH) (K : Sl → Int → GH → Option β) : Option β := G_ref23_Read (F_ref02_Num R) (F_ref01_Copy R) R a1 h K
set_option maxRecDepth 100000 in
theorem CF_ref23_Read_sim {R : Nat} : SimOrc Try.prog (CF_ref23_Read (F_ref02_Num R) (F_ref01_Copy R) (β := β)) := by
  intro f args h K r hc
  unfold CF_ref23_Read at hc
  cases hb : Nat.beq f 82 with
  | true =>
    rw [hb] at hc
    simp only [cond_true] at hc
    obtain rfl := Nat.eq_of_beq_eq_true hb
    split at hc
    · exact any_call (F_ref02_Num_sim (K := K) hc)
    · cases hc
  | false =>
  rw [hb] at hc
  simp only [cond_false] at hc
  cases hb : Nat.beq f 13 with
  | true =>
    rw [hb] at hc
    simp only [cond_true] at hc
    obtain rfl := Nat.eq_of_beq_eq_true hb
    split at hc
    · exact any_call (F_ref01_Copy_sim (K := K) hc)
    · cases hc
  | false =>
  rw [hb] at hc
  simp only [cond_false] at hc
  cases hc
set_option maxRecDepth 100000 in
theorem F_ref23_Read_sim {R : Nat} {r : β} {a1 : Sl} {h : GH} {K : Value → GH → Option β} (hc : F_ref23_Read R a1 h (fun q0 q1 h' => K (Value.tuple #[Value.slice q0.a q0.n q0.c, Value.int .i64 q1]) h') = some r) : ∃ v h', K v h' = some r ∧ CallSim Try.prog 58 [Value.slice a1.a a1.n a1.c] h v h' := by
  unfold F_ref23_Read G_ref23_Read at hc
  obtain ⟨v, h', hk, hs⟩ := gfun_sim (CF_ref23_Read_sim (R := R)) mixed_ok (fun f h => by cases h) Try.func58 (by kernel_rfl) hc
  obtain ⟨vs, rfl, hl, hk⟩ := exTup_v hk
  obtain ⟨v0, t0, hk⟩ := exV_v hk
  obtain ⟨u0, e0, hk⟩ := exS_v hk; cases e0
  obtain ⟨v1, t1, hk⟩ := exV_v hk
  obtain ⟨u1, e1, hk⟩ := exI_v hk; cases e1
  obtain rfl := arr2 hl t0 t1
  exact ⟨_, h', hk, hs⟩
/-! F32 duffel/duffelref26.list -/
def CF_ref26_list (F_ref23_Read : Sl → GH → (Sl → Int → GH → Option β) → Option β) : Orc β := fun f args h K => bif Nat.beq f 58 then (match args with | [.slice p1a p1n p1c] => F_ref23_Read ⟨p1a, p1n, p1c⟩ h (fun q29 q30 h' => K (Value.tuple #[Value.slice q29.a q29.n q29.c, Value.int .i64 q30]) h') | _ => none) else none
def HF_ref26_list : Hints := ⟨[(5, [3, 5], [(0, [])], some [(2, .ty 3)])], [], []⟩
noncomputable def BF_ref26_list : Code := match Try.f32.body with | some c => c | none => .skip
noncomputable def F_ref26_list_l0 (F_ref23_Read : Sl → GH → (Sl → Int → GH → Option β) → Option β) (R : Nat) (n : Nat) (y5 : Sl) (y6 : Int) (h : GH) (K0 : GH → Option β) (Kr : Int → GH → Option β) : Option β := gloop (gcode Try.prog (CF_ref26_list F_ref23_Read) Try.f32.ntmps HF_ref26_list R (at_ [true, true, true, false, true, false, false] BF_ref26_list)) [3, 5] n [(3, Value.slice y5.a y5.n y5.c), (5, Value.int .i64 y6)] h (fun i e' h' => bif Nat.beq i 0 then (K0 h') else none) (fun e' h' => exI .i64 (some (e'.get 2)) fun u15 => Kr u15 h')
set_option maxRecDepth 100000 in
theorem F_ref26_list_l0_succ (F_ref23_Read : Sl → GH → (Sl → Int → GH → Option β) → Option β) (R : Nat) (n : Nat) (y5 : Sl) (y6 : Int) (h : GH) (K0 : GH → Option β) (Kr : Int → GH → Option β) : F_ref26_list_l0 F_ref23_Read R (n + 1) y5 y6 h K0 Kr =
    (bif decide (y6 < ((y5.n : Nat) : Int)) then exA y5.a fun g8 o9 => within y6 y5.n (exI .i64 (h.cell ⟨g8, o9 + y6.toNat * 2 + 0, none⟩) fun x10 => (bif x10 == 1 then Kr 12 h else F_ref26_list_l0 F_ref23_Read R n y5 (IntKind.wrap .i64 (y6 + 1)) h K0 Kr)) else K0 h) := by kernel_rfl
noncomputable def G_ref26_list (F_ref23_Read : Sl → GH → (Sl → Int → GH → Option β) → Option β) (R : Nat) (a1 : Sl) (h : GH) (K : Int → GH → Option β) : Option β := gfun Try.prog (CF_ref26_list F_ref23_Read) HF_ref26_list R Try.f32 [Value.slice a1.a a1.n a1.c] h (fun v h' => exI .i64 (some v) fun u16 => K u16 h')
set_option maxRecDepth 100000 in
theorem F_ref26_list_gen (F_ref23_Read : Sl → GH → (Sl → Int → GH → Option β) → Option β) (R : Nat) (a1 : Sl) (h : GH) (K : Int → GH → Option β) : G_ref26_list F_ref23_Read R a1 h K =
    F_ref23_Read a1 h fun r2 r3 h4 => (bif r3 != 0 then K 4 h4 else F_ref26_list_l0 F_ref23_Read R R r2 0 h4 (fun h11 => K 0 h11) (fun w12 h13 => K w12 h13)) := by kernel_rfl
noncomputable def F_ref26_list (R : Nat) (a1 : Sl) (h : GH) (K : Int → GH → Option β) : Option β := G_ref26_list (F_ref23_Read R) R a1 h K
set_option maxRecDepth 100000 in
theorem CF_ref26_list_sim {R : Nat} : SimOrc Try.prog (CF_ref26_list (F_ref23_Read R) (β := β)) := by
  intro f args h K r hc
  unfold CF_ref26_list at hc
  cases hb : Nat.beq f 58 with
  | true =>
    rw [hb] at hc
    simp only [cond_true] at hc
    obtain rfl := Nat.eq_of_beq_eq_true hb
    split at hc
    · exact any_call (F_ref23_Read_sim (K := K) hc)
    · cases hc
  | false =>
  rw [hb] at hc
  simp only [cond_false] at hc
  cases hc
set_option maxRecDepth 100000 in
theorem F_ref26_list_sim {R : Nat} {r : β} {a1 : Sl} {h : GH} {K : Value → GH → Option β} (hc : F_ref26_list R a1 h (fun q0 h' => K (Value.int .i64 q0) h') = some r) : ∃ v h', K v h' = some r ∧ CallSim Try.prog 32 [Value.slice a1.a a1.n a1.c] h v h' := by
  unfold F_ref26_list G_ref26_list at hc
  obtain ⟨v, h', hk, hs⟩ := gfun_sim (CF_ref26_list_sim (R := R)) mixed_ok (fun f h => by cases h) Try.func32 (by kernel_rfl) hc
  obtain ⟨u0, e0, hk⟩ := exI_v hk; cases e0
  exact ⟨_, h', hk, hs⟩
/-! F88 duffel/duffelref22.Month -/
def CF_ref22_Month  : Orc β := fun f args h K => none
def HF_ref22_Month : Hints := ⟨[], [], []⟩
noncomputable def G_ref22_Month  (R : Nat) (a1 : Int) (a2 : Int) (h : GH) (K : Int → GH → Option β) : Option β := gfun Try.prog (CF_ref22_Month ) HF_ref22_Month R Try.f88 [Value.int .i64 a1, Value.int .i64 a2] h (fun v h' => exI .i64 (some v) fun u9 => K u9 h')
set_option maxRecDepth 100000 in
theorem F_ref22_Month_gen  (R : Nat) (a1 : Int) (a2 : Int) (h : GH) (K : Int → GH → Option β) : G_ref22_Month  R a1 a2 h K =
    gnew [Value.int .i64 31, Value.int .i64 28, Value.int .i64 31, Value.int .i64 30, Value.int .i64 31, Value.int .i64 30, Value.int .i64 31, Value.int .i64 31, Value.int .i64 30, Value.int .i64 31, Value.int .i64 30, Value.int .i64 31] 1 h fun g3 h4 => (bif a2 == 2 then (bif (Int.tmod a1 4) == 0 then (bif a1 != 2100 then K 29 h4 else within (IntKind.wrap .i64 (a2 - 1)) 12 (exI .i64 (h4.cell ⟨g3, 0 + (IntKind.wrap .i64 (a2 - 1)).toNat * 1, none⟩) fun x5 => K x5 h4)) else within (IntKind.wrap .i64 (a2 - 1)) 12 (exI .i64 (h4.cell ⟨g3, 0 + (IntKind.wrap .i64 (a2 - 1)).toNat * 1, none⟩) fun x6 => K x6 h4)) else within (IntKind.wrap .i64 (a2 - 1)) 12 (exI .i64 (h4.cell ⟨g3, 0 + (IntKind.wrap .i64 (a2 - 1)).toNat * 1, none⟩) fun x7 => K x7 h4)) := by kernel_rfl
noncomputable def F_ref22_Month (R : Nat) (a1 : Int) (a2 : Int) (h : GH) (K : Int → GH → Option β) : Option β := G_ref22_Month  R a1 a2 h K
theorem CF_ref22_Month_sim : SimOrc Try.prog (CF_ref22_Month (β := β)) := by
  intro f args h K r hc
  cases hc
set_option maxRecDepth 100000 in
theorem F_ref22_Month_sim {R : Nat} {r : β} {a1 : Int} {a2 : Int} {h : GH} {K : Value → GH → Option β} (hc : F_ref22_Month R a1 a2 h (fun q0 h' => K (Value.int .i64 q0) h') = some r) : ∃ v h', K v h' = some r ∧ CallSim Try.prog 88 [Value.int .i64 a1, Value.int .i64 a2] h v h' := by
  unfold F_ref22_Month G_ref22_Month at hc
  obtain ⟨v, h', hk, hs⟩ := gfun_sim CF_ref22_Month_sim mixed_ok (fun f h => by cases h) Try.func88 (by kernel_rfl) hc
  obtain ⟨u0, e0, hk⟩ := exI_v hk; cases e0
  exact ⟨_, h', hk, hs⟩
/-! F59 duffel/duffelref22.Is -/
def CF_ref22_Is (F_ref22_Month : Int → Int → GH → (Int → GH → Option β) → Option β) : Orc β := fun f args h K => bif Nat.beq f 88 then (match args with | [.int .i64 p1, .int .i64 p2] => F_ref22_Month p1 p2 h (fun q8 h' => K (Value.int .i64 q8) h') | _ => none) else none
def HF_ref22_Is : Hints := ⟨[], [], []⟩
noncomputable def G_ref22_Is (F_ref22_Month : Int → Int → GH → (Int → GH → Option β) → Option β) (R : Nat) (a1 : Int) (a2 : Int) (a3 : Int) (a4 : Int) (a5 : Int) (a6 : Int) (h : GH) (K : Bool → GH → Option β) : Option β := gfun Try.prog (CF_ref22_Is F_ref22_Month) HF_ref22_Is R Try.f59 [Value.agg #[Value.int .i64 a1, Value.int .i64 a2, Value.int .i64 a3, Value.int .i64 a4, Value.int .i64 a5, Value.int .i64 a6]] h (fun v h' => exB (some v) fun u27 => K u27 h')
set_option maxRecDepth 100000 in
theorem F_ref22_Is_gen (F_ref22_Month : Int → Int → GH → (Int → GH → Option β) → Option β) (R : Nat) (a1 : Int) (a2 : Int) (a3 : Int) (a4 : Int) (a5 : Int) (a6 : Int) (h : GH) (K : Bool → GH → Option β) : G_ref22_Is F_ref22_Month R a1 a2 a3 a4 a5 a6 h K =
    gnew [Value.int .i64 a1, Value.int .i64 a2, Value.int .i64 a3, Value.int .i64 a4, Value.int .i64 a5, Value.int .i64 a6] 0 h fun g7 h8 => exI .i64 (h8.cell ⟨g7, 0 + 0, none⟩) fun x9 => (bif decide (x9 < 1980) then K false h8 else exI .i64 (h8.cell ⟨g7, 0 + 0, none⟩) fun x10 => (bif decide (x10 > 2107) then K false h8 else exI .i64 (h8.cell ⟨g7, 0 + 1, none⟩) fun x11 => (bif decide (x11 < 1) then K false h8 else exI .i64 (h8.cell ⟨g7, 0 + 1, none⟩) fun x12 => (bif decide (x12 > 12) then K false h8 else exI .i64 (h8.cell ⟨g7, 0 + 2, none⟩) fun x13 => (bif decide (x13 < 1) then K false h8 else exI .i64 (h8.cell ⟨g7, 0 + 2, none⟩) fun x14 => exI .i64 (h8.cell ⟨g7, 0 + 0, none⟩) fun x15 => exI .i64 (h8.cell ⟨g7, 0 + 1, none⟩) fun x16 => F_ref22_Month x15 x16 h8 fun r17 h18 => (bif sameAt g7 (0 + 2) 1 h8 h18 then (bif decide (x14 > r17) then K false h18 else exI .i64 (h18.cell ⟨g7, 0 + 3, none⟩) fun x19 => (bif decide ((0 : Int) ≤ x19) then exI .i64 (h18.cell ⟨g7, 0 + 3, none⟩) fun x20 => (bif decide (x20 ≤ 23) then exI .i64 (h18.cell ⟨g7, 0 + 4, none⟩) fun x21 => (bif decide ((0 : Int) ≤ x21) then exI .i64 (h18.cell ⟨g7, 0 + 4, none⟩) fun x22 => (bif decide (x22 ≤ 59) then exI .i64 (h18.cell ⟨g7, 0 + 5, none⟩) fun x23 => (bif decide ((0 : Int) ≤ x23) then exI .i64 (h18.cell ⟨g7, 0 + 5, none⟩) fun x24 => (bif decide (x24 ≤ 58) then exI .i64 (h18.cell ⟨g7, 0 + 5, none⟩) fun x25 => K ((Int.tmod x25 2) == 0) h18 else K false h18) else K false h18) else K false h18) else K false h18) else K false h18) else K false h18)) else none)))))) := by kernel_rfl
noncomputable def F_ref22_Is (R : Nat) (a1 : Int) (a2 : Int) (a3 : Int) (a4 : Int) (a5 : Int) (a6 : Int) (h : GH) (K : Bool → GH → Option β) : Option β := G_ref22_Is (F_ref22_Month R) R a1 a2 a3 a4 a5 a6 h K
set_option maxRecDepth 100000 in
theorem CF_ref22_Is_sim {R : Nat} : SimOrc Try.prog (CF_ref22_Is (F_ref22_Month R) (β := β)) := by
  intro f args h K r hc
  unfold CF_ref22_Is at hc
  cases hb : Nat.beq f 88 with
  | true =>
    rw [hb] at hc
    simp only [cond_true] at hc
    obtain rfl := Nat.eq_of_beq_eq_true hb
    split at hc
    · exact any_call (F_ref22_Month_sim (K := K) hc)
    · cases hc
  | false =>
  rw [hb] at hc
  simp only [cond_false] at hc
  cases hc
set_option maxRecDepth 100000 in
theorem F_ref22_Is_sim {R : Nat} {r : β} {a1 : Int} {a2 : Int} {a3 : Int} {a4 : Int} {a5 : Int} {a6 : Int} {h : GH} {K : Value → GH → Option β} (hc : F_ref22_Is R a1 a2 a3 a4 a5 a6 h (fun q0 h' => K (Value.bool q0) h') = some r) : ∃ v h', K v h' = some r ∧ CallSim Try.prog 59 [Value.agg #[Value.int .i64 a1, Value.int .i64 a2, Value.int .i64 a3, Value.int .i64 a4, Value.int .i64 a5, Value.int .i64 a6]] h v h' := by
  unfold F_ref22_Is G_ref22_Is at hc
  obtain ⟨v, h', hk, hs⟩ := gfun_sim (CF_ref22_Is_sim (R := R)) mixed_ok (fun f h => by cases h) Try.func59 (by kernel_rfl) hc
  obtain ⟨u0, e0, hk⟩ := exB_v hk; cases e0
  exact ⟨_, h', hk, hs⟩
/-! F33 duffel/duffelref22.Unpack -/
def CF_ref22_Unpack (F_ref22_Is : Int → Int → Int → Int → Int → Int → GH → (Bool → GH → Option β) → Option β) : Orc β := fun f args h K => bif Nat.beq f 59 then (match args with | [.agg ⟨[.int .i64 p1, .int .i64 p2, .int .i64 p3, .int .i64 p4, .int .i64 p5, .int .i64 p6]⟩] => F_ref22_Is p1 p2 p3 p4 p5 p6 h (fun q26 h' => K (Value.bool q26) h') | _ => none) else none
def HF_ref22_Unpack : Hints := ⟨[], [], []⟩
noncomputable def G_ref22_Unpack (F_ref22_Is : Int → Int → Int → Int → Int → Int → GH → (Bool → GH → Option β) → Option β) (R : Nat) (a1 : Int) (a2 : Int) (h : GH) (K : Int → Int → Int → Int → Int → Int → Int → GH → Option β) : Option β := gfun Try.prog (CF_ref22_Unpack F_ref22_Is) HF_ref22_Unpack R Try.f33 [Value.int .i64 a1, Value.int .i64 a2] h (fun v h' => exTup 2 v fun vs => exV (nth vs 0) fun v0 => exAg v0 fun c71 => (bif Nat.beq c71.length 6 then exI .i64 (nth c71 (0)) fun u72 => exI .i64 (nth c71 (0 + 1)) fun u73 => exI .i64 (nth c71 (0 + 1 + 1)) fun u74 => exI .i64 (nth c71 (0 + 1 + 1 + 1)) fun u75 => exI .i64 (nth c71 (0 + 1 + 1 + 1 + 1)) fun u76 => exI .i64 (nth c71 (0 + 1 + 1 + 1 + 1 + 1)) fun u77 => exV (nth vs 1) fun v1 => exI .i64 (some v1) fun u78 => K u72 u73 u74 u75 u76 u77 u78 h' else none))
set_option maxRecDepth 100000 in
theorem F_ref22_Unpack_gen (F_ref22_Is : Int → Int → Int → Int → Int → Int → GH → (Bool → GH → Option β) → Option β) (R : Nat) (a1 : Int) (a2 : Int) (h : GH) (K : Int → Int → Int → Int → Int → Int → Int → GH → Option β) : G_ref22_Unpack F_ref22_Is R a1 a2 h K =
    gnew [Value.int .i64 0, Value.int .i64 0, Value.int .i64 0, Value.int .i64 0, Value.int .i64 0, Value.int .i64 0] 0 h fun g3 h4 => (bif decide (a1 < 0) then gput g3 (0) [Value.int .i64 0, Value.int .i64 0, Value.int .i64 0, Value.int .i64 0, Value.int .i64 0, Value.int .i64 0] h4 fun h5 => exI .i64 (h5.cell ⟨g3, 0, none⟩) fun x6 => exI .i64 (h5.cell ⟨g3, 0 + 1, none⟩) fun x7 => exI .i64 (h5.cell ⟨g3, 0 + 1 + 1, none⟩) fun x8 => exI .i64 (h5.cell ⟨g3, 0 + 1 + 1 + 1, none⟩) fun x9 => exI .i64 (h5.cell ⟨g3, 0 + 1 + 1 + 1 + 1, none⟩) fun x10 => exI .i64 (h5.cell ⟨g3, 0 + 1 + 1 + 1 + 1 + 1, none⟩) fun x11 => K x6 x7 x8 x9 x10 x11 2 h5 else (bif decide (a1 > 65535) then gput g3 (0) [Value.int .i64 0, Value.int .i64 0, Value.int .i64 0, Value.int .i64 0, Value.int .i64 0, Value.int .i64 0] h4 fun h12 => exI .i64 (h12.cell ⟨g3, 0, none⟩) fun x13 => exI .i64 (h12.cell ⟨g3, 0 + 1, none⟩) fun x14 => exI .i64 (h12.cell ⟨g3, 0 + 1 + 1, none⟩) fun x15 => exI .i64 (h12.cell ⟨g3, 0 + 1 + 1 + 1, none⟩) fun x16 => exI .i64 (h12.cell ⟨g3, 0 + 1 + 1 + 1 + 1, none⟩) fun x17 => exI .i64 (h12.cell ⟨g3, 0 + 1 + 1 + 1 + 1 + 1, none⟩) fun x18 => K x13 x14 x15 x16 x17 x18 2 h12 else (bif decide (a2 < 0) then gput g3 (0) [Value.int .i64 0, Value.int .i64 0, Value.int .i64 0, Value.int .i64 0, Value.int .i64 0, Value.int .i64 0] h4 fun h19 => exI .i64 (h19.cell ⟨g3, 0, none⟩) fun x20 => exI .i64 (h19.cell ⟨g3, 0 + 1, none⟩) fun x21 => exI .i64 (h19.cell ⟨g3, 0 + 1 + 1, none⟩) fun x22 => exI .i64 (h19.cell ⟨g3, 0 + 1 + 1 + 1, none⟩) fun x23 => exI .i64 (h19.cell ⟨g3, 0 + 1 + 1 + 1 + 1, none⟩) fun x24 => exI .i64 (h19.cell ⟨g3, 0 + 1 + 1 + 1 + 1 + 1, none⟩) fun x25 => K x20 x21 x22 x23 x24 x25 2 h19 else (bif decide (a2 > 65535) then gput g3 (0) [Value.int .i64 0, Value.int .i64 0, Value.int .i64 0, Value.int .i64 0, Value.int .i64 0, Value.int .i64 0] h4 fun h26 => exI .i64 (h26.cell ⟨g3, 0, none⟩) fun x27 => exI .i64 (h26.cell ⟨g3, 0 + 1, none⟩) fun x28 => exI .i64 (h26.cell ⟨g3, 0 + 1 + 1, none⟩) fun x29 => exI .i64 (h26.cell ⟨g3, 0 + 1 + 1 + 1, none⟩) fun x30 => exI .i64 (h26.cell ⟨g3, 0 + 1 + 1 + 1 + 1, none⟩) fun x31 => exI .i64 (h26.cell ⟨g3, 0 + 1 + 1 + 1 + 1 + 1, none⟩) fun x32 => K x27 x28 x29 x30 x31 x32 2 h26 else gnew [Value.int .i64 0, Value.int .i64 0, Value.int .i64 0, Value.int .i64 0, Value.int .i64 0, Value.int .i64 0] 0 h4 fun g33 h34 => gput g33 (0) [Value.int .i64 (IntKind.wrap .i64 (1980 + (IntKind.wrap .i64 (Int.tdiv a2 512)))), Value.int .i64 (Int.tmod (IntKind.wrap .i64 (Int.tdiv a2 32)) 16), Value.int .i64 (Int.tmod a2 32), Value.int .i64 (IntKind.wrap .i64 (Int.tdiv a1 2048)), Value.int .i64 (Int.tmod (IntKind.wrap .i64 (Int.tdiv a1 32)) 64), Value.int .i64 (IntKind.wrap .i64 (2 * (Int.tmod a1 32)))] h34 fun h35 => exI .i64 (h35.cell ⟨g33, 0, none⟩) fun x36 => exI .i64 (h35.cell ⟨g33, 0 + 1, none⟩) fun x37 => exI .i64 (h35.cell ⟨g33, 0 + 1 + 1, none⟩) fun x38 => exI .i64 (h35.cell ⟨g33, 0 + 1 + 1 + 1, none⟩) fun x39 => exI .i64 (h35.cell ⟨g33, 0 + 1 + 1 + 1 + 1, none⟩) fun x40 => exI .i64 (h35.cell ⟨g33, 0 + 1 + 1 + 1 + 1 + 1, none⟩) fun x41 => F_ref22_Is x36 x37 x38 x39 x40 x41 h35 fun r42 h43 => (bif !r42 then gput g3 (0) [Value.int .i64 0, Value.int .i64 0, Value.int .i64 0, Value.int .i64 0, Value.int .i64 0, Value.int .i64 0] h43 fun h44 => exI .i64 (h44.cell ⟨g3, 0, none⟩) fun x45 => exI .i64 (h44.cell ⟨g3, 0 + 1, none⟩) fun x46 => exI .i64 (h44.cell ⟨g3, 0 + 1 + 1, none⟩) fun x47 => exI .i64 (h44.cell ⟨g3, 0 + 1 + 1 + 1, none⟩) fun x48 => exI .i64 (h44.cell ⟨g3, 0 + 1 + 1 + 1 + 1, none⟩) fun x49 => exI .i64 (h44.cell ⟨g3, 0 + 1 + 1 + 1 + 1 + 1, none⟩) fun x50 => K x45 x46 x47 x48 x49 x50 17 h44 else exI .i64 (h43.cell ⟨g33, 0, none⟩) fun x51 => exI .i64 (h43.cell ⟨g33, 0 + 1, none⟩) fun x52 => exI .i64 (h43.cell ⟨g33, 0 + 1 + 1, none⟩) fun x53 => exI .i64 (h43.cell ⟨g33, 0 + 1 + 1 + 1, none⟩) fun x54 => exI .i64 (h43.cell ⟨g33, 0 + 1 + 1 + 1 + 1, none⟩) fun x55 => exI .i64 (h43.cell ⟨g33, 0 + 1 + 1 + 1 + 1 + 1, none⟩) fun x56 => gput g3 (0) [Value.int .i64 x51, Value.int .i64 x52, Value.int .i64 x53, Value.int .i64 x54, Value.int .i64 x55, Value.int .i64 x56] h43 fun h57 => exI .i64 (h57.cell ⟨g3, 0, none⟩) fun x58 => exI .i64 (h57.cell ⟨g3, 0 + 1, none⟩) fun x59 => exI .i64 (h57.cell ⟨g3, 0 + 1 + 1, none⟩) fun x60 => exI .i64 (h57.cell ⟨g3, 0 + 1 + 1 + 1, none⟩) fun x61 => exI .i64 (h57.cell ⟨g3, 0 + 1 + 1 + 1 + 1, none⟩) fun x62 => exI .i64 (h57.cell ⟨g3, 0 + 1 + 1 + 1 + 1 + 1, none⟩) fun x63 => K x58 x59 x60 x61 x62 x63 0 h57))))) := by kernel_rfl
noncomputable def F_ref22_Unpack (R : Nat) (a1 : Int) (a2 : Int) (h : GH) (K : Int → Int → Int → Int → Int → Int → Int → GH → Option β) : Option β := G_ref22_Unpack (F_ref22_Is R) R a1 a2 h K
set_option maxRecDepth 100000 in
theorem CF_ref22_Unpack_sim {R : Nat} : SimOrc Try.prog (CF_ref22_Unpack (F_ref22_Is R) (β := β)) := by
  intro f args h K r hc
  unfold CF_ref22_Unpack at hc
  cases hb : Nat.beq f 59 with
  | true =>
    rw [hb] at hc
    simp only [cond_true] at hc
    obtain rfl := Nat.eq_of_beq_eq_true hb
    split at hc
    · exact any_call (F_ref22_Is_sim (K := K) hc)
    · cases hc
  | false =>
  rw [hb] at hc
  simp only [cond_false] at hc
  cases hc
set_option maxRecDepth 100000 in
theorem F_ref22_Unpack_sim {R : Nat} {r : β} {a1 : Int} {a2 : Int} {h : GH} {K : Value → GH → Option β} (hc : F_ref22_Unpack R a1 a2 h (fun q0 q1 q2 q3 q4 q5 q6 h' => K (Value.tuple #[Value.agg #[Value.int .i64 q0, Value.int .i64 q1, Value.int .i64 q2, Value.int .i64 q3, Value.int .i64 q4, Value.int .i64 q5], Value.int .i64 q6]) h') = some r) : ∃ v h', K v h' = some r ∧ CallSim Try.prog 33 [Value.int .i64 a1, Value.int .i64 a2] h v h' := by
  unfold F_ref22_Unpack G_ref22_Unpack at hc
  obtain ⟨v, h', hk, hs⟩ := gfun_sim (CF_ref22_Unpack_sim (R := R)) mixed_ok (fun f h => by cases h) Try.func33 (by kernel_rfl) hc
  obtain ⟨vs, rfl, hl, hk⟩ := exTup_v hk
  obtain ⟨v0, t0, hk⟩ := exV_v hk
  obtain ⟨cs0, f0, hk⟩ := exAg_v hk; cases f0; obtain ⟨hl0, hk⟩ := beq_v hk
  obtain ⟨u1, e1, hk⟩ := exI_v hk
  obtain ⟨u2, e2, hk⟩ := exI_v hk
  obtain ⟨u3, e3, hk⟩ := exI_v hk
  obtain ⟨u4, e4, hk⟩ := exI_v hk
  obtain ⟨u5, e5, hk⟩ := exI_v hk
  obtain ⟨u6, e6, hk⟩ := exI_v hk
  obtain rfl := arr6 hl0 e1 e2 e3 e4 e5 e6
  obtain ⟨v1, t1, hk⟩ := exV_v hk
  obtain ⟨u7, e7, hk⟩ := exI_v hk; cases e7
  obtain rfl := arr2 hl t0 t1
  exact ⟨_, h', hk, hs⟩
/-! F10 duffel/duffelref26.CheckCentral -/
def CF_ref26_CheckCentral (F_ref25_Known : Int → GH → (Bool → GH → Option β) → Option β) (F_ref25_Allowed : Int → GH → (Int → GH → Option β) → Option β) (F_ref26_list : Sl → GH → (Int → GH → Option β) → Option β) (F_ref22_Unpack : Int → Int → GH → (Int → Int → Int → Int → Int → Int → Int → GH → Option β) → Option β) : Orc β := fun f args h K => bif Nat.beq f 30 then (match args with | [.int .i64 p1] => F_ref25_Known p1 h (fun q2 h' => K (Value.bool q2) h') | _ => none) else (bif Nat.beq f 31 then (match args with | [.int .i64 p1] => F_ref25_Allowed p1 h (fun q2 h' => K (Value.int .i64 q2) h') | _ => none) else (bif Nat.beq f 32 then (match args with | [.slice p1a p1n p1c] => F_ref26_list ⟨p1a, p1n, p1c⟩ h (fun q14 h' => K (Value.int .i64 q14) h') | _ => none) else (bif Nat.beq f 33 then (match args with | [.int .i64 p1, .int .i64 p2] => F_ref22_Unpack p1 p2 h (fun q64 q65 q66 q67 q68 q69 q70 h' => K (Value.tuple #[Value.agg #[Value.int .i64 q64, Value.int .i64 q65, Value.int .i64 q66, Value.int .i64 q67, Value.int .i64 q68, Value.int .i64 q69], Value.int .i64 q70]) h') | _ => none) else none)))
def HF_ref26_CheckCentral : Hints := ⟨[(4, [1, 3, 4, 5], [(0, [(1, .ty 15), (3, .ty 15)])], some [(2, .ty 3)])], [], []⟩
noncomputable def BF_ref26_CheckCentral : Code := match Try.f10.body with | some c => c | none => .skip
noncomputable def F_ref26_CheckCentral_l0 (F_ref25_Known : Int → GH → (Bool → GH → Option β) → Option β) (F_ref25_Allowed : Int → GH → (Int → GH → Option β) → Option β) (F_ref26_list : Sl → GH → (Int → GH → Option β) → Option β) (F_ref22_Unpack : Int → Int → GH → (Int → Int → Int → Int → Int → Int → Int → GH → Option β) → Option β) (R : Nat) (n : Nat) (y42 : Option Addr) (y43 : Option Addr) (y44 : Sl) (y45 : Int) (h : GH) (K0 : Option Addr → Option Addr → GH → Option β) (Kr : Int → GH → Option β) : Option β := gloop (gcode Try.prog (CF_ref26_CheckCentral F_ref25_Known F_ref25_Allowed F_ref26_list F_ref22_Unpack) Try.f10.ntmps HF_ref26_CheckCentral R (at_ [true, true, true, false, true, false, false] BF_ref26_CheckCentral)) [1, 3, 4, 5] n [(1, Value.pointer y42), (3, Value.pointer y43), (4, Value.slice y44.a y44.n y44.c), (5, Value.int .i64 y45)] h (fun i e' h' => bif Nat.beq i 0 then (exP (some (e'.get 1)) fun u378 => exP (some (e'.get 3)) fun u379 => K0 u378 u379 h') else none) (fun e' h' => exI .i64 (some (e'.get 2)) fun u380 => Kr u380 h')
set_option maxRecDepth 100000 in
theorem F_ref26_CheckCentral_l0_succ (F_ref25_Known : Int → GH → (Bool → GH → Option β) → Option β) (F_ref25_Allowed : Int → GH → (Int → GH → Option β) → Option β) (F_ref26_list : Sl → GH → (Int → GH → Option β) → Option β) (F_ref22_Unpack : Int → Int → GH → (Int → Int → Int → Int → Int → Int → Int → GH → Option β) → Option β) (R : Nat) (n : Nat) (y42 : Option Addr) (y43 : Option Addr) (y44 : Sl) (y45 : Int) (h : GH) (K0 : Option Addr → Option Addr → GH → Option β) (Kr : Int → GH → Option β) : F_ref26_CheckCentral_l0 F_ref25_Known F_ref25_Allowed F_ref26_list F_ref22_Unpack R (n + 1) y42 y43 y44 y45 h K0 Kr =
    (bif decide (y45 < ((y44.n : Nat) : Int)) then exA y44.a fun g49 o50 => within y45 y44.n (exI .i64 (h.cell ⟨g49, o50 + y45.toNat * 1, none⟩) fun x51 => (bif decide (x51 < 0) then Kr 18 h else exA y44.a fun g52 o53 => within y45 y44.n (exI .i64 (h.cell ⟨g52, o53 + y45.toNat * 1, none⟩) fun x54 => (bif decide (x54 > 65535) then Kr 18 h else F_ref26_CheckCentral_l0 F_ref25_Known F_ref25_Allowed F_ref26_list F_ref22_Unpack R n y42 y43 y44 (IntKind.wrap .i64 (y45 + 1)) h K0 Kr)))) else K0 y42 y43 h) := by kernel_rfl
noncomputable def G_ref26_CheckCentral (F_ref25_Known : Int → GH → (Bool → GH → Option β) → Option β) (F_ref25_Allowed : Int → GH → (Int → GH → Option β) → Option β) (F_ref26_list : Sl → GH → (Int → GH → Option β) → Option β) (F_ref22_Unpack : Int → Int → GH → (Int → Int → Int → Int → Int → Int → Int → GH → Option β) → Option β) (R : Nat) (a1 : Int) (a2 : Int) (a3 : Int) (a4 : Int) (a5 : Int) (a6 : Int) (a7 : Int) (a8 : Int) (a9 : Sl) (a10 : Sl) (a11 : Int) (a12 : Int) (a13 : Int) (a14 : Int) (a15 : Int) (a16 : Sl) (h : GH) (K : Int → GH → Option β) : Option β := gfun Try.prog (CF_ref26_CheckCentral F_ref25_Known F_ref25_Allowed F_ref26_list F_ref22_Unpack) HF_ref26_CheckCentral R Try.f10 [Value.agg #[Value.int .i64 a1, Value.int .i64 a2, Value.int .i64 a3, Value.int .i64 a4, Value.int .i64 a5, Value.int .u32 a6, Value.int .u32 a7, Value.int .u32 a8, Value.slice a9.a a9.n a9.c, Value.slice a10.a a10.n a10.c, Value.int .i64 a11, Value.int .i64 a12, Value.int .i64 a13, Value.int .u32 a14, Value.int .u32 a15, Value.slice a16.a a16.n a16.c]] h (fun v h' => exI .i64 (some v) fun u381 => K u381 h')
set_option maxRecDepth 100000 in
theorem F_ref26_CheckCentral_gen (F_ref25_Known : Int → GH → (Bool → GH → Option β) → Option β) (F_ref25_Allowed : Int → GH → (Int → GH → Option β) → Option β) (F_ref26_list : Sl → GH → (Int → GH → Option β) → Option β) (F_ref22_Unpack : Int → Int → GH → (Int → Int → Int → Int → Int → Int → Int → GH → Option β) → Option β) (R : Nat) (a1 : Int) (a2 : Int) (a3 : Int) (a4 : Int) (a5 : Int) (a6 : Int) (a7 : Int) (a8 : Int) (a9 : Sl) (a10 : Sl) (a11 : Int) (a12 : Int) (a13 : Int) (a14 : Int) (a15 : Int) (a16 : Sl) (h : GH) (K : Int → GH → Option β) : G_ref26_CheckCentral F_ref25_Known F_ref25_Allowed F_ref26_list F_ref22_Unpack R a1 a2 a3 a4 a5 a6 a7 a8 a9 a10 a11 a12 a13 a14 a15 a16 h K =
    gnew [Value.int .i64 a1, Value.int .i64 a2, Value.int .i64 a3, Value.int .i64 a4, Value.int .i64 a5, Value.int .u32 a6, Value.int .u32 a7, Value.int .u32 a8, Value.slice a9.a a9.n a9.c, Value.slice a10.a a10.n a10.c, Value.int .i64 a11, Value.int .i64 a12, Value.int .i64 a13, Value.int .u32 a14, Value.int .u32 a15, Value.slice a16.a a16.n a16.c] 0 h fun g17 h18 => exI .i64 (h18.cell ⟨g17, 0 + 0, none⟩) fun x19 => exI .i64 (h18.cell ⟨g17, 0 + 0 + 1, none⟩) fun x20 => exI .i64 (h18.cell ⟨g17, 0 + 0 + 1 + 1, none⟩) fun x21 => exI .i64 (h18.cell ⟨g17, 0 + 0 + 1 + 1 + 1, none⟩) fun x22 => exI .i64 (h18.cell ⟨g17, 0 + 0 + 1 + 1 + 1 + 1, none⟩) fun x23 => exI .u32 (h18.cell ⟨g17, 0 + 0 + 1 + 1 + 1 + 1 + 1, none⟩) fun x24 => exI .u32 (h18.cell ⟨g17, 0 + 0 + 1 + 1 + 1 + 1 + 1 + 1, none⟩) fun x25 => exI .u32 (h18.cell ⟨g17, 0 + 0 + 1 + 1 + 1 + 1 + 1 + 1 + 1, none⟩) fun x26 => exS (h18.cell ⟨g17, 0 + 0 + 1 + 1 + 1 + 1 + 1 + 1 + 1 + 1, none⟩) fun x27 => exS (h18.cell ⟨g17, 0 + 0 + 1 + 1 + 1 + 1 + 1 + 1 + 1 + 1 + 1, none⟩) fun x28 => gnew [Value.int .i64 0, Value.int .i64 0, Value.int .i64 0, Value.int .i64 0, Value.int .i64 0, Value.int .u32 0, Value.int .u32 0, Value.int .u32 0, Value.slice none 0 0, Value.slice none 0 0] 0 h18 fun g29 h30 => gput g29 (0) [Value.int .i64 x19, Value.int .i64 x20, Value.int .i64 x21, Value.int .i64 x22, Value.int .i64 x23, Value.int .u32 x24, Value.int .u32 x25, Value.int .u32 x26, Value.slice x27.a x27.n x27.c, Value.slice x28.a x28.n x28.c] h30 fun h31 => exI .i64 (h31.cell ⟨g29, 0 + 0, none⟩) fun x32 => exI .i64 (h31.cell ⟨g29, 0 + 1, none⟩) fun x33 => exI .i64 (h31.cell ⟨g29, 0 + 2, none⟩) fun x34 => exI .i64 (h31.cell ⟨g29, 0 + 3, none⟩) fun x35 => exI .i64 (h31.cell ⟨g29, 0 + 4, none⟩) fun x36 => exI .i64 (h31.cell ⟨g17, 0 + 10, none⟩) fun x37 => exI .i64 (h31.cell ⟨g17, 0 + 11, none⟩) fun x38 => exI .i64 (h31.cell ⟨g17, 0 + 12, none⟩) fun x39 => gnew [Value.int .i64 x32, Value.int .i64 x33, Value.int .i64 x34, Value.int .i64 x35, Value.int .i64 x36, Value.int .i64 x37, Value.int .i64 x38, Value.int .i64 x39] 1 h31 fun g40 h41 => F_ref26_CheckCentral_l0 F_ref25_Known F_ref25_Allowed F_ref26_list F_ref22_Unpack R R (some ⟨g17, 0, none⟩) (some ⟨g29, 0, none⟩) ⟨(some ⟨g40, 0, none⟩), 8, 8⟩ 0 h41 (fun w55 w56 h57 => exA w55 fun g58 o59 => exI .i64 (h57.cell ⟨g58, o59 + 11, none⟩) fun x60 => (bif x60 != 0 then K 12 h57 else exA w56 fun g61 o62 => exI .u32 (h57.cell ⟨g61, o62 + 6, none⟩) fun x63 => (bif x63 == 4294967295 then K 12 h57 else exA w56 fun g64 o65 => exI .u32 (h57.cell ⟨g64, o65 + 7, none⟩) fun x66 => (bif x66 == 4294967295 then K 12 h57 else exA w55 fun g67 o68 => exI .u32 (h57.cell ⟨g67, o68 + 14, none⟩) fun x69 => (bif x69 == 4294967295 then K 12 h57 else exA w56 fun g70 o71 => exI .i64 (h57.cell ⟨g70, o71 + 2, none⟩) fun x72 => F_ref25_Known x72 h57 fun r73 h74 => (bif !r73 then K 11 h74 else exA w56 fun g75 o76 => exI .i64 (h74.cell ⟨g75, o76 + 1, none⟩) fun x77 => exA w56 fun g78 o79 => exI .i64 (h74.cell ⟨g78, o79 + 2, none⟩) fun x80 => F_ref25_Allowed x80 h74 fun r81 h82 => (bif r81 == 6 then exA w56 fun g83 o84 => exI .i64 (h82.cell ⟨g83, o84 + 1, none⟩) fun x85 => (bif x85 == 0 then exA w56 fun g86 o87 => exI .i64 (h82.cell ⟨g86, o87 + 0, none⟩) fun x88 => (bif decide (x88 > 21) then K 12 h82 else exA w56 fun g89 o90 => exI .i64 (h82.cell ⟨g89, o90 + 2, none⟩) fun x91 => (bif x91 == 0 then exA w56 fun g92 o93 => exI .u32 (h82.cell ⟨g92, o93 + 6, none⟩) fun x94 => exA w56 fun g95 o96 => exI .u32 (h82.cell ⟨g95, o96 + 7, none⟩) fun x97 => (bif x94 != x97 then K 9 h82 else exA w56 fun g98 o99 => exS (h82.cell ⟨g98, o99 + 9, none⟩) fun x100 => F_ref26_list x100 h82 fun r101 h102 => (bif r101 != 0 then K r101 h102 else exA w56 fun g103 o104 => exI .i64 (h102.cell ⟨g103, o104 + 3, none⟩) fun x105 => exA w56 fun g106 o107 => exI .i64 (h102.cell ⟨g106, o107 + 4, none⟩) fun x108 => F_ref22_Unpack x105 x108 h102 fun r109 r110 r111 r112 r113 r114 r115 h116 => gnew [Value.int .i64 0, Value.int .i64 0, Value.int .i64 0, Value.int .i64 0, Value.int .i64 0, Value.int .i64 0] 0 h116 fun g117 h118 => gput g117 (0) [Value.int .i64 r109, Value.int .i64 r110, Value.int .i64 r111, Value.int .i64 r112, Value.int .i64 r113, Value.int .i64 r114] h118 fun h119 => K r115 h119)) else exA w56 fun g120 o121 => exS (h82.cell ⟨g120, o121 + 9, none⟩) fun x122 => F_ref26_list x122 h82 fun r123 h124 => (bif r123 != 0 then K r123 h124 else exA w56 fun g125 o126 => exI .i64 (h124.cell ⟨g125, o126 + 3, none⟩) fun x127 => exA w56 fun g128 o129 => exI .i64 (h124.cell ⟨g128, o129 + 4, none⟩) fun x130 => F_ref22_Unpack x127 x130 h124 fun r131 r132 r133 r134 r135 r136 r137 h138 => gnew [Value.int .i64 0, Value.int .i64 0, Value.int .i64 0, Value.int .i64 0, Value.int .i64 0, Value.int .i64 0] 0 h138 fun g139 h140 => gput g139 (0) [Value.int .i64 r131, Value.int .i64 r132, Value.int .i64 r133, Value.int .i64 r134, Value.int .i64 r135, Value.int .i64 r136] h140 fun h141 => K r137 h141))) else exA w56 fun g142 o143 => exI .i64 (h82.cell ⟨g142, o143 + 1, none⟩) fun x144 => (bif x144 == 2 then exA w56 fun g145 o146 => exI .i64 (h82.cell ⟨g145, o146 + 0, none⟩) fun x147 => (bif decide (x147 > 21) then K 12 h82 else exA w56 fun g148 o149 => exI .i64 (h82.cell ⟨g148, o149 + 2, none⟩) fun x150 => (bif x150 == 0 then exA w56 fun g151 o152 => exI .u32 (h82.cell ⟨g151, o152 + 6, none⟩) fun x153 => exA w56 fun g154 o155 => exI .u32 (h82.cell ⟨g154, o155 + 7, none⟩) fun x156 => (bif x153 != x156 then K 9 h82 else exA w56 fun g157 o158 => exS (h82.cell ⟨g157, o158 + 9, none⟩) fun x159 => F_ref26_list x159 h82 fun r160 h161 => (bif r160 != 0 then K r160 h161 else exA w56 fun g162 o163 => exI .i64 (h161.cell ⟨g162, o163 + 3, none⟩) fun x164 => exA w56 fun g165 o166 => exI .i64 (h161.cell ⟨g165, o166 + 4, none⟩) fun x167 => F_ref22_Unpack x164 x167 h161 fun r168 r169 r170 r171 r172 r173 r174 h175 => gnew [Value.int .i64 0, Value.int .i64 0, Value.int .i64 0, Value.int .i64 0, Value.int .i64 0, Value.int .i64 0] 0 h175 fun g176 h177 => gput g176 (0) [Value.int .i64 r168, Value.int .i64 r169, Value.int .i64 r170, Value.int .i64 r171, Value.int .i64 r172, Value.int .i64 r173] h177 fun h178 => K r174 h178)) else exA w56 fun g179 o180 => exS (h82.cell ⟨g179, o180 + 9, none⟩) fun x181 => F_ref26_list x181 h82 fun r182 h183 => (bif r182 != 0 then K r182 h183 else exA w56 fun g184 o185 => exI .i64 (h183.cell ⟨g184, o185 + 3, none⟩) fun x186 => exA w56 fun g187 o188 => exI .i64 (h183.cell ⟨g187, o188 + 4, none⟩) fun x189 => F_ref22_Unpack x186 x189 h183 fun r190 r191 r192 r193 r194 r195 r196 h197 => gnew [Value.int .i64 0, Value.int .i64 0, Value.int .i64 0, Value.int .i64 0, Value.int .i64 0, Value.int .i64 0] 0 h197 fun g198 h199 => gput g198 (0) [Value.int .i64 r190, Value.int .i64 r191, Value.int .i64 r192, Value.int .i64 r193, Value.int .i64 r194, Value.int .i64 r195] h199 fun h200 => K r196 h200))) else exA w56 fun g201 o202 => exI .i64 (h82.cell ⟨g201, o202 + 1, none⟩) fun x203 => (bif x203 == 4 then exA w56 fun g204 o205 => exI .i64 (h82.cell ⟨g204, o205 + 0, none⟩) fun x206 => (bif decide (x206 > 21) then K 12 h82 else exA w56 fun g207 o208 => exI .i64 (h82.cell ⟨g207, o208 + 2, none⟩) fun x209 => (bif x209 == 0 then exA w56 fun g210 o211 => exI .u32 (h82.cell ⟨g210, o211 + 6, none⟩) fun x212 => exA w56 fun g213 o214 => exI .u32 (h82.cell ⟨g213, o214 + 7, none⟩) fun x215 => (bif x212 != x215 then K 9 h82 else exA w56 fun g216 o217 => exS (h82.cell ⟨g216, o217 + 9, none⟩) fun x218 => F_ref26_list x218 h82 fun r219 h220 => (bif r219 != 0 then K r219 h220 else exA w56 fun g221 o222 => exI .i64 (h220.cell ⟨g221, o222 + 3, none⟩) fun x223 => exA w56 fun g224 o225 => exI .i64 (h220.cell ⟨g224, o225 + 4, none⟩) fun x226 => F_ref22_Unpack x223 x226 h220 fun r227 r228 r229 r230 r231 r232 r233 h234 => gnew [Value.int .i64 0, Value.int .i64 0, Value.int .i64 0, Value.int .i64 0, Value.int .i64 0, Value.int .i64 0] 0 h234 fun g235 h236 => gput g235 (0) [Value.int .i64 r227, Value.int .i64 r228, Value.int .i64 r229, Value.int .i64 r230, Value.int .i64 r231, Value.int .i64 r232] h236 fun h237 => K r233 h237)) else exA w56 fun g238 o239 => exS (h82.cell ⟨g238, o239 + 9, none⟩) fun x240 => F_ref26_list x240 h82 fun r241 h242 => (bif r241 != 0 then K r241 h242 else exA w56 fun g243 o244 => exI .i64 (h242.cell ⟨g243, o244 + 3, none⟩) fun x245 => exA w56 fun g246 o247 => exI .i64 (h242.cell ⟨g246, o247 + 4, none⟩) fun x248 => F_ref22_Unpack x245 x248 h242 fun r249 r250 r251 r252 r253 r254 r255 h256 => gnew [Value.int .i64 0, Value.int .i64 0, Value.int .i64 0, Value.int .i64 0, Value.int .i64 0, Value.int .i64 0] 0 h256 fun g257 h258 => gput g257 (0) [Value.int .i64 r249, Value.int .i64 r250, Value.int .i64 r251, Value.int .i64 r252, Value.int .i64 r253, Value.int .i64 r254] h258 fun h259 => K r255 h259))) else exA w56 fun g260 o261 => exI .i64 (h82.cell ⟨g260, o261 + 1, none⟩) fun x262 => (bif !(x262 == 6) then K 12 h82 else exA w56 fun g263 o264 => exI .i64 (h82.cell ⟨g263, o264 + 0, none⟩) fun x265 => (bif decide (x265 > 21) then K 12 h82 else exA w56 fun g266 o267 => exI .i64 (h82.cell ⟨g266, o267 + 2, none⟩) fun x268 => (bif x268 == 0 then exA w56 fun g269 o270 => exI .u32 (h82.cell ⟨g269, o270 + 6, none⟩) fun x271 => exA w56 fun g272 o273 => exI .u32 (h82.cell ⟨g272, o273 + 7, none⟩) fun x274 => (bif x271 != x274 then K 9 h82 else exA w56 fun g275 o276 => exS (h82.cell ⟨g275, o276 + 9, none⟩) fun x277 => F_ref26_list x277 h82 fun r278 h279 => (bif r278 != 0 then K r278 h279 else exA w56 fun g280 o281 => exI .i64 (h279.cell ⟨g280, o281 + 3, none⟩) fun x282 => exA w56 fun g283 o284 => exI .i64 (h279.cell ⟨g283, o284 + 4, none⟩) fun x285 => F_ref22_Unpack x282 x285 h279 fun r286 r287 r288 r289 r290 r291 r292 h293 => gnew [Value.int .i64 0, Value.int .i64 0, Value.int .i64 0, Value.int .i64 0, Value.int .i64 0, Value.int .i64 0] 0 h293 fun g294 h295 => gput g294 (0) [Value.int .i64 r286, Value.int .i64 r287, Value.int .i64 r288, Value.int .i64 r289, Value.int .i64 r290, Value.int .i64 r291] h295 fun h296 => K r292 h296)) else exA w56 fun g297 o298 => exS (h82.cell ⟨g297, o298 + 9, none⟩) fun x299 => F_ref26_list x299 h82 fun r300 h301 => (bif r300 != 0 then K r300 h301 else exA w56 fun g302 o303 => exI .i64 (h301.cell ⟨g302, o303 + 3, none⟩) fun x304 => exA w56 fun g305 o306 => exI .i64 (h301.cell ⟨g305, o306 + 4, none⟩) fun x307 => F_ref22_Unpack x304 x307 h301 fun r308 r309 r310 r311 r312 r313 r314 h315 => gnew [Value.int .i64 0, Value.int .i64 0, Value.int .i64 0, Value.int .i64 0, Value.int .i64 0, Value.int .i64 0] 0 h315 fun g316 h317 => gput g316 (0) [Value.int .i64 r308, Value.int .i64 r309, Value.int .i64 r310, Value.int .i64 r311, Value.int .i64 r312, Value.int .i64 r313] h317 fun h318 => K r314 h318))))))) else (bif !(x77 == 0) then K 12 h82 else exA w56 fun g319 o320 => exI .i64 (h82.cell ⟨g319, o320 + 0, none⟩) fun x321 => (bif decide (x321 > 21) then K 12 h82 else exA w56 fun g322 o323 => exI .i64 (h82.cell ⟨g322, o323 + 2, none⟩) fun x324 => (bif x324 == 0 then exA w56 fun g325 o326 => exI .u32 (h82.cell ⟨g325, o326 + 6, none⟩) fun x327 => exA w56 fun g328 o329 => exI .u32 (h82.cell ⟨g328, o329 + 7, none⟩) fun x330 => (bif x327 != x330 then K 9 h82 else exA w56 fun g331 o332 => exS (h82.cell ⟨g331, o332 + 9, none⟩) fun x333 => F_ref26_list x333 h82 fun r334 h335 => (bif r334 != 0 then K r334 h335 else exA w56 fun g336 o337 => exI .i64 (h335.cell ⟨g336, o337 + 3, none⟩) fun x338 => exA w56 fun g339 o340 => exI .i64 (h335.cell ⟨g339, o340 + 4, none⟩) fun x341 => F_ref22_Unpack x338 x341 h335 fun r342 r343 r344 r345 r346 r347 r348 h349 => gnew [Value.int .i64 0, Value.int .i64 0, Value.int .i64 0, Value.int .i64 0, Value.int .i64 0, Value.int .i64 0] 0 h349 fun g350 h351 => gput g350 (0) [Value.int .i64 r342, Value.int .i64 r343, Value.int .i64 r344, Value.int .i64 r345, Value.int .i64 r346, Value.int .i64 r347] h351 fun h352 => K r348 h352)) else exA w56 fun g353 o354 => exS (h82.cell ⟨g353, o354 + 9, none⟩) fun x355 => F_ref26_list x355 h82 fun r356 h357 => (bif r356 != 0 then K r356 h357 else exA w56 fun g358 o359 => exI .i64 (h357.cell ⟨g358, o359 + 3, none⟩) fun x360 => exA w56 fun g361 o362 => exI .i64 (h357.cell ⟨g361, o362 + 4, none⟩) fun x363 => F_ref22_Unpack x360 x363 h357 fun r364 r365 r366 r367 r368 r369 r370 h371 => gnew [Value.int .i64 0, Value.int .i64 0, Value.int .i64 0, Value.int .i64 0, Value.int .i64 0, Value.int .i64 0] 0 h371 fun g372 h373 => gput g372 (0) [Value.int .i64 r364, Value.int .i64 r365, Value.int .i64 r366, Value.int .i64 r367, Value.int .i64 r368, Value.int .i64 r369] h373 fun h374 => K r370 h374))))))))))) (fun w375 h376 => K w375 h376) := by kernel_rfl
noncomputable def F_ref26_CheckCentral (R : Nat) (a1 : Int) (a2 : Int) (a3 : Int) (a4 : Int) (a5 : Int) (a6 : Int) (a7 : Int) (a8 : Int) (a9 : Sl) (a10 : Sl) (a11 : Int) (a12 : Int) (a13 : Int) (a14 : Int) (a15 : Int) (a16 : Sl) (h : GH) (K : Int → GH → Option β) : Option β := G_ref26_CheckCentral (F_ref25_Known R) (F_ref25_Allowed R) (F_ref26_list R) (F_ref22_Unpack R) R a1 a2 a3 a4 a5 a6 a7 a8 a9 a10 a11 a12 a13 a14 a15 a16 h K
set_option maxRecDepth 100000 in
theorem CF_ref26_CheckCentral_sim {R : Nat} : SimOrc Try.prog (CF_ref26_CheckCentral (F_ref25_Known R) (F_ref25_Allowed R) (F_ref26_list R) (F_ref22_Unpack R) (β := β)) := by
  intro f args h K r hc
  unfold CF_ref26_CheckCentral at hc
  cases hb : Nat.beq f 30 with
  | true =>
    rw [hb] at hc
    simp only [cond_true] at hc
    obtain rfl := Nat.eq_of_beq_eq_true hb
    split at hc
    · exact any_call (F_ref25_Known_sim (K := K) hc)
    · cases hc
  | false =>
  rw [hb] at hc
  simp only [cond_false] at hc
  cases hb : Nat.beq f 31 with
  | true =>
    rw [hb] at hc
    simp only [cond_true] at hc
    obtain rfl := Nat.eq_of_beq_eq_true hb
    split at hc
    · exact any_call (F_ref25_Allowed_sim (K := K) hc)
    · cases hc
  | false =>
  rw [hb] at hc
  simp only [cond_false] at hc
  cases hb : Nat.beq f 32 with
  | true =>
    rw [hb] at hc
    simp only [cond_true] at hc
    obtain rfl := Nat.eq_of_beq_eq_true hb
    split at hc
    · exact any_call (F_ref26_list_sim (K := K) hc)
    · cases hc
  | false =>
  rw [hb] at hc
  simp only [cond_false] at hc
  cases hb : Nat.beq f 33 with
  | true =>
    rw [hb] at hc
    simp only [cond_true] at hc
    obtain rfl := Nat.eq_of_beq_eq_true hb
    split at hc
    · exact any_call (F_ref22_Unpack_sim (K := K) hc)
    · cases hc
  | false =>
  rw [hb] at hc
  simp only [cond_false] at hc
  cases hc
set_option maxRecDepth 100000 in
theorem F_ref26_CheckCentral_sim {R : Nat} {r : β} {a1 : Int} {a2 : Int} {a3 : Int} {a4 : Int} {a5 : Int} {a6 : Int} {a7 : Int} {a8 : Int} {a9 : Sl} {a10 : Sl} {a11 : Int} {a12 : Int} {a13 : Int} {a14 : Int} {a15 : Int} {a16 : Sl} {h : GH} {K : Value → GH → Option β} (hc : F_ref26_CheckCentral R a1 a2 a3 a4 a5 a6 a7 a8 a9 a10 a11 a12 a13 a14 a15 a16 h (fun q0 h' => K (Value.int .i64 q0) h') = some r) : ∃ v h', K v h' = some r ∧ CallSim Try.prog 10 [Value.agg #[Value.int .i64 a1, Value.int .i64 a2, Value.int .i64 a3, Value.int .i64 a4, Value.int .i64 a5, Value.int .u32 a6, Value.int .u32 a7, Value.int .u32 a8, Value.slice a9.a a9.n a9.c, Value.slice a10.a a10.n a10.c, Value.int .i64 a11, Value.int .i64 a12, Value.int .i64 a13, Value.int .u32 a14, Value.int .u32 a15, Value.slice a16.a a16.n a16.c]] h v h' := by
  unfold F_ref26_CheckCentral G_ref26_CheckCentral at hc
  obtain ⟨v, h', hk, hs⟩ := gfun_sim (CF_ref26_CheckCentral_sim (R := R)) mixed_ok (fun f h => by cases h) Try.func10 (by kernel_rfl) hc
  obtain ⟨u0, e0, hk⟩ := exI_v hk; cases e0
  exact ⟨_, h', hk, hs⟩
end
end Go.Proofs.Ytibngikhlgmhaaa.Gx
