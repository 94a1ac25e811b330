/- Functions of the program as the plain machine has them, each with its equation. Printed by a program of this place (wip/gx/gx.py) out of the translation. No condition. -/
import Derived.Test.YtibngikhlgmhaaaGxQ
import Derived.Test.YtibngikhlgmhaaaGx0
namespace Go.Proofs.Ytibngikhlgmhaaa.Gx
open Go
set_option linter.unusedVariables false
section
variable {β : Type}
/-! F63 (*duffel/field.Cursor).At -/
def CF_field_Cursor_At  : Orc β := fun f args h K => none
def HF_field_Cursor_At : Hints := ⟨[], [], []⟩
noncomputable def G_field_Cursor_At  (R : Nat) (a1 : Option Addr) (h : GH) (K : Int → GH → Option β) : Option β := gfun Try.prog (CF_field_Cursor_At ) HF_field_Cursor_At R Try.f63 [Value.pointer a1] h (fun v h' => exI .i64 (some v) fun u6 => K u6 h')
set_option maxRecDepth 100000 in
theorem F_field_Cursor_At_gen  (R : Nat) (a1 : Option Addr) (h : GH) (K : Int → GH → Option β) : G_field_Cursor_At  R a1 h K =
    (bif a1.isNone then K 0 h else exA a1 fun g2 o3 => exI .i64 (h.cell ⟨g2, o3 + 1, none⟩) fun x4 => K x4 h) := by kernel_rfl
noncomputable def F_field_Cursor_At (R : Nat) (a1 : Option Addr) (h : GH) (K : Int → GH → Option β) : Option β := G_field_Cursor_At  R a1 h K
theorem CF_field_Cursor_At_sim : SimOrc Try.prog (CF_field_Cursor_At (β := β)) := by
  intro f args h K r hc
  cases hc
set_option maxRecDepth 100000 in
theorem F_field_Cursor_At_sim {R : Nat} {r : β} {a1 : Option Addr} {h : GH} {K : Value → GH → Option β} (hc : F_field_Cursor_At R a1 h (fun q0 h' => K (Value.int .i64 q0) h') = some r) : ∃ v h', K v h' = some r ∧ CallSim Try.prog 63 [Value.pointer a1] h v h' := by
  unfold F_field_Cursor_At G_field_Cursor_At at hc
  obtain ⟨v, h', hk, hs⟩ := gfun_sim CF_field_Cursor_At_sim mixed_ok (fun f h => by cases h) Try.func63 (by kernel_rfl) hc
  obtain ⟨u0, e0, hk⟩ := exI_v hk; cases e0
  exact ⟨_, h', hk, hs⟩
/-! F64 duffel/record.ReadLocal -/
def CF_record_ReadLocal (F_record_sign : Option Addr → Int → GH → (Int → GH → Option β) → Option β) (F_record_head : Option Addr → GH → (Int → Int → Int → Int → Int → Int → Int → Int → Sl → Sl → Int → Int → Int → GH → Option β) → Option β) (F_field_Cursor_Bytes : Option Addr → Int → GH → (Sl → GH → Option β) → Option β) (F_field_Cursor_Err : Option Addr → GH → (Int → GH → Option β) → Option β) : Orc β := fun f args h K => bif Nat.beq f 89 then (match args with | [.pointer p1, .int .u32 p2] => F_record_sign p1 p2 h (fun q9 h' => K (Value.int .i64 q9) h') | _ => none) else (bif Nat.beq f 91 then (match args with | [.pointer p1] => F_record_head p1 h (fun q57 q58 q59 q60 q61 q62 q63 q64 q65 q66 q67 q68 q69 h' => K (Value.tuple #[Value.agg #[Value.int .i64 q57, Value.int .i64 q58, Value.int .i64 q59, Value.int .i64 q60, Value.int .i64 q61, Value.int .u32 q62, Value.int .u32 q63, Value.int .u32 q64, Value.slice q65.a q65.n q65.c, Value.slice q66.a q66.n q66.c], Value.agg #[Value.int .i64 q67, Value.int .i64 q68, Value.int .i64 q69]]) h') | _ => none) else (bif Nat.beq f 66 then (match args with | [.pointer p1, .int .i64 p2] => F_field_Cursor_Bytes p1 p2 h (fun q7 h' => K (Value.slice q7.a q7.n q7.c) h') | _ => none) else (bif Nat.beq f 67 then (match args with | [.pointer p1] => F_field_Cursor_Err p1 h (fun q8 h' => K (Value.int .i64 q8) h') | _ => none) else none)))
def HF_record_ReadLocal : Hints := ⟨[], [], []⟩
noncomputable def G_record_ReadLocal (F_record_sign : Option Addr → Int → GH → (Int → GH → Option β) → Option β) (F_record_head : Option Addr → GH → (Int → Int → Int → Int → Int → Int → Int → Int → Sl → Sl → Int → Int → Int → GH → Option β) → Option β) (F_field_Cursor_Bytes : Option Addr → Int → GH → (Sl → GH → Option β) → Option β) (F_field_Cursor_Err : Option Addr → GH → (Int → GH → Option β) → Option β) (R : Nat) (a1 : Option Addr) (h : GH) (K : Int → Int → Int → Int → Int → Int → Int → Int → Sl → Sl → Int → GH → Option β) : Option β := gfun Try.prog (CF_record_ReadLocal F_record_sign F_record_head F_field_Cursor_Bytes F_field_Cursor_Err) HF_record_ReadLocal R Try.f64 [Value.pointer a1] h (fun v h' => exTup 2 v fun vs => exV (nth vs 0) fun v0 => exAg v0 fun c90 => (bif Nat.beq c90.length 10 then exI .i64 (nth c90 (0)) fun u91 => exI .i64 (nth c90 (0 + 1)) fun u92 => exI .i64 (nth c90 (0 + 1 + 1)) fun u93 => exI .i64 (nth c90 (0 + 1 + 1 + 1)) fun u94 => exI .i64 (nth c90 (0 + 1 + 1 + 1 + 1)) fun u95 => exI .u32 (nth c90 (0 + 1 + 1 + 1 + 1 + 1)) fun u96 => exI .u32 (nth c90 (0 + 1 + 1 + 1 + 1 + 1 + 1)) fun u97 => exI .u32 (nth c90 (0 + 1 + 1 + 1 + 1 + 1 + 1 + 1)) fun u98 => exS (nth c90 (0 + 1 + 1 + 1 + 1 + 1 + 1 + 1 + 1)) fun u99 => exS (nth c90 (0 + 1 + 1 + 1 + 1 + 1 + 1 + 1 + 1 + 1)) fun u100 => exV (nth vs 1) fun v1 => exI .i64 (some v1) fun u101 => K u91 u92 u93 u94 u95 u96 u97 u98 u99 u100 u101 h' else none))
set_option maxRecDepth 100000 in
theorem F_record_ReadLocal_gen (F_record_sign : Option Addr → Int → GH → (Int → GH → Option β) → Option β) (F_record_head : Option Addr → GH → (Int → Int → Int → Int → Int → Int → Int → Int → Sl → Sl → Int → Int → Int → GH → Option β) → Option β) (F_field_Cursor_Bytes : Option Addr → Int → GH → (Sl → GH → Option β) → Option β) (F_field_Cursor_Err : Option Addr → GH → (Int → GH → Option β) → Option β) (R : Nat) (a1 : Option Addr) (h : GH) (K : Int → Int → Int → Int → Int → Int → Int → Int → Sl → Sl → Int → GH → Option β) : G_record_ReadLocal F_record_sign F_record_head F_field_Cursor_Bytes F_field_Cursor_Err R a1 h K =
    gnew [Value.int .i64 0, Value.int .i64 0, Value.int .i64 0, Value.int .i64 0, Value.int .i64 0, Value.int .u32 0, Value.int .u32 0, Value.int .u32 0, Value.slice none 0 0, Value.slice none 0 0] 0 h fun g2 h3 => F_record_sign a1 67324752 h3 fun r4 h5 => (bif r4 != 0 then gput g2 (0) [Value.int .i64 0, Value.int .i64 0, Value.int .i64 0, Value.int .i64 0, Value.int .i64 0, Value.int .u32 0, Value.int .u32 0, Value.int .u32 0, Value.slice none 0 0, Value.slice none 0 0] h5 fun h6 => exI .i64 (h6.cell ⟨g2, 0, none⟩) fun x7 => exI .i64 (h6.cell ⟨g2, 0 + 1, none⟩) fun x8 => exI .i64 (h6.cell ⟨g2, 0 + 1 + 1, none⟩) fun x9 => exI .i64 (h6.cell ⟨g2, 0 + 1 + 1 + 1, none⟩) fun x10 => exI .i64 (h6.cell ⟨g2, 0 + 1 + 1 + 1 + 1, none⟩) fun x11 => exI .u32 (h6.cell ⟨g2, 0 + 1 + 1 + 1 + 1 + 1, none⟩) fun x12 => exI .u32 (h6.cell ⟨g2, 0 + 1 + 1 + 1 + 1 + 1 + 1, none⟩) fun x13 => exI .u32 (h6.cell ⟨g2, 0 + 1 + 1 + 1 + 1 + 1 + 1 + 1, none⟩) fun x14 => exS (h6.cell ⟨g2, 0 + 1 + 1 + 1 + 1 + 1 + 1 + 1 + 1, none⟩) fun x15 => exS (h6.cell ⟨g2, 0 + 1 + 1 + 1 + 1 + 1 + 1 + 1 + 1 + 1, none⟩) fun x16 => K x7 x8 x9 x10 x11 x12 x13 x14 x15 x16 r4 h6 else F_record_head a1 h5 fun r17 r18 r19 r20 r21 r22 r23 r24 r25 r26 r27 r28 r29 h30 => gnew [Value.int .i64 0, Value.int .i64 0, Value.int .i64 0, Value.int .i64 0, Value.int .i64 0, Value.int .u32 0, Value.int .u32 0, Value.int .u32 0, Value.slice none 0 0, Value.slice none 0 0] 0 h30 fun g31 h32 => gnew [Value.int .i64 0, Value.int .i64 0, Value.int .i64 0] 0 h32 fun g33 h34 => gput g31 (0) [Value.int .i64 r17, Value.int .i64 r18, Value.int .i64 r19, Value.int .i64 r20, Value.int .i64 r21, Value.int .u32 r22, Value.int .u32 r23, Value.int .u32 r24, Value.slice r25.a r25.n r25.c, Value.slice r26.a r26.n r26.c] h34 fun h35 => gput g33 (0) [Value.int .i64 r27, Value.int .i64 r28, Value.int .i64 r29] h35 fun h36 => exI .i64 (h36.cell ⟨g33, 0 + 0, none⟩) fun x37 => F_field_Cursor_Bytes a1 x37 h36 fun r38 h39 => exI .i64 (h39.cell ⟨g33, 0 + 1, none⟩) fun x40 => F_field_Cursor_Bytes a1 x40 h39 fun r41 h42 => gput g31 (0 + 8) [Value.slice r38.a r38.n r38.c] h42 fun h43 => gput g31 (0 + 9) [Value.slice r41.a r41.n r41.c] h43 fun h44 => (bif sameAt g33 (0 + 1) 1 h36 h39 then F_field_Cursor_Err a1 h44 fun r45 h46 => (bif r45 != 0 then gput g2 (0) [Value.int .i64 0, Value.int .i64 0, Value.int .i64 0, Value.int .i64 0, Value.int .i64 0, Value.int .u32 0, Value.int .u32 0, Value.int .u32 0, Value.slice none 0 0, Value.slice none 0 0] h46 fun h47 => exI .i64 (h47.cell ⟨g2, 0, none⟩) fun x48 => exI .i64 (h47.cell ⟨g2, 0 + 1, none⟩) fun x49 => exI .i64 (h47.cell ⟨g2, 0 + 1 + 1, none⟩) fun x50 => exI .i64 (h47.cell ⟨g2, 0 + 1 + 1 + 1, none⟩) fun x51 => exI .i64 (h47.cell ⟨g2, 0 + 1 + 1 + 1 + 1, none⟩) fun x52 => exI .u32 (h47.cell ⟨g2, 0 + 1 + 1 + 1 + 1 + 1, none⟩) fun x53 => exI .u32 (h47.cell ⟨g2, 0 + 1 + 1 + 1 + 1 + 1 + 1, none⟩) fun x54 => exI .u32 (h47.cell ⟨g2, 0 + 1 + 1 + 1 + 1 + 1 + 1 + 1, none⟩) fun x55 => exS (h47.cell ⟨g2, 0 + 1 + 1 + 1 + 1 + 1 + 1 + 1 + 1, none⟩) fun x56 => exS (h47.cell ⟨g2, 0 + 1 + 1 + 1 + 1 + 1 + 1 + 1 + 1 + 1, none⟩) fun x57 => K x48 x49 x50 x51 x52 x53 x54 x55 x56 x57 r45 h47 else exI .i64 (h46.cell ⟨g31, 0, none⟩) fun x58 => exI .i64 (h46.cell ⟨g31, 0 + 1, none⟩) fun x59 => exI .i64 (h46.cell ⟨g31, 0 + 1 + 1, none⟩) fun x60 => exI .i64 (h46.cell ⟨g31, 0 + 1 + 1 + 1, none⟩) fun x61 => exI .i64 (h46.cell ⟨g31, 0 + 1 + 1 + 1 + 1, none⟩) fun x62 => exI .u32 (h46.cell ⟨g31, 0 + 1 + 1 + 1 + 1 + 1, none⟩) fun x63 => exI .u32 (h46.cell ⟨g31, 0 + 1 + 1 + 1 + 1 + 1 + 1, none⟩) fun x64 => exI .u32 (h46.cell ⟨g31, 0 + 1 + 1 + 1 + 1 + 1 + 1 + 1, none⟩) fun x65 => exS (h46.cell ⟨g31, 0 + 1 + 1 + 1 + 1 + 1 + 1 + 1 + 1, none⟩) fun x66 => exS (h46.cell ⟨g31, 0 + 1 + 1 + 1 + 1 + 1 + 1 + 1 + 1 + 1, none⟩) fun x67 => gput g2 (0) [Value.int .i64 x58, Value.int .i64 x59, Value.int .i64 x60, Value.int .i64 x61, Value.int .i64 x62, Value.int .u32 x63, Value.int .u32 x64, Value.int .u32 x65, Value.slice x66.a x66.n x66.c, Value.slice x67.a x67.n x67.c] h46 fun h68 => exI .i64 (h68.cell ⟨g2, 0, none⟩) fun x69 => exI .i64 (h68.cell ⟨g2, 0 + 1, none⟩) fun x70 => exI .i64 (h68.cell ⟨g2, 0 + 1 + 1, none⟩) fun x71 => exI .i64 (h68.cell ⟨g2, 0 + 1 + 1 + 1, none⟩) fun x72 => exI .i64 (h68.cell ⟨g2, 0 + 1 + 1 + 1 + 1, none⟩) fun x73 => exI .u32 (h68.cell ⟨g2, 0 + 1 + 1 + 1 + 1 + 1, none⟩) fun x74 => exI .u32 (h68.cell ⟨g2, 0 + 1 + 1 + 1 + 1 + 1 + 1, none⟩) fun x75 => exI .u32 (h68.cell ⟨g2, 0 + 1 + 1 + 1 + 1 + 1 + 1 + 1, none⟩) fun x76 => exS (h68.cell ⟨g2, 0 + 1 + 1 + 1 + 1 + 1 + 1 + 1 + 1, none⟩) fun x77 => exS (h68.cell ⟨g2, 0 + 1 + 1 + 1 + 1 + 1 + 1 + 1 + 1 + 1, none⟩) fun x78 => K x69 x70 x71 x72 x73 x74 x75 x76 x77 x78 0 h68) else none)) := by kernel_rfl
noncomputable def F_record_ReadLocal (R : Nat) (a1 : Option Addr) (h : GH) (K : Int → Int → Int → Int → Int → Int → Int → Int → Sl → Sl → Int → GH → Option β) : Option β := G_record_ReadLocal (F_record_sign R) (F_record_head R) (F_field_Cursor_Bytes R) (F_field_Cursor_Err R) R a1 h K
set_option maxRecDepth 100000 in
theorem CF_record_ReadLocal_sim {R : Nat} : SimOrc Try.prog (CF_record_ReadLocal (F_record_sign R) (F_record_head R) (F_field_Cursor_Bytes R) (F_field_Cursor_Err R) (β := β)) := by
  intro f args h K r hc
  unfold CF_record_ReadLocal at hc
  cases hb : Nat.beq f 89 with
  | true =>
    rw [hb] at hc
    simp only [cond_true] at hc
    obtain rfl := Nat.eq_of_beq_eq_true hb
    split at hc
    · exact any_call (F_record_sign_sim (K := K) hc)
    · cases hc
  | false =>
  rw [hb] at hc
  simp only [cond_false] at hc
  cases hb : Nat.beq f 91 with
  | true =>
    rw [hb] at hc
    simp only [cond_true] at hc
    obtain rfl := Nat.eq_of_beq_eq_true hb
    split at hc
    · exact any_call (F_record_head_sim (K := K) hc)
    · cases hc
  | false =>
  rw [hb] at hc
  simp only [cond_false] at hc
  cases hb : Nat.beq f 66 with
  | true =>
    rw [hb] at hc
    simp only [cond_true] at hc
    obtain rfl := Nat.eq_of_beq_eq_true hb
    split at hc
    · exact any_call (F_field_Cursor_Bytes_sim (K := K) hc)
    · cases hc
  | false =>
  rw [hb] at hc
  simp only [cond_false] at hc
  cases hb : Nat.beq f 67 with
  | true =>
    rw [hb] at hc
    simp only [cond_true] at hc
    obtain rfl := Nat.eq_of_beq_eq_true hb
    split at hc
    · exact any_call (F_field_Cursor_Err_sim (K := K) hc)
    · cases hc
  | false =>
  rw [hb] at hc
  simp only [cond_false] at hc
  cases hc
set_option maxRecDepth 100000 in
theorem F_record_ReadLocal_sim {R : Nat} {r : β} {a1 : Option Addr} {h : GH} {K : Value → GH → Option β} (hc : F_record_ReadLocal R a1 h (fun q0 q1 q2 q3 q4 q5 q6 q7 q8 q9 q10 h' => K (Value.tuple #[Value.agg #[Value.int .i64 q0, Value.int .i64 q1, Value.int .i64 q2, Value.int .i64 q3, Value.int .i64 q4, Value.int .u32 q5, Value.int .u32 q6, Value.int .u32 q7, Value.slice q8.a q8.n q8.c, Value.slice q9.a q9.n q9.c], Value.int .i64 q10]) h') = some r) : ∃ v h', K v h' = some r ∧ CallSim Try.prog 64 [Value.pointer a1] h v h' := by
  unfold F_record_ReadLocal G_record_ReadLocal at hc
  obtain ⟨v, h', hk, hs⟩ := gfun_sim (CF_record_ReadLocal_sim (R := R)) mixed_ok (fun f h => by cases h) Try.func64 (by kernel_rfl) hc
  obtain ⟨vs, rfl, hl, hk⟩ := exTup_v hk
  obtain ⟨v0, t0, hk⟩ := exV_v hk
  obtain ⟨cs0, f0, hk⟩ := exAg_v hk; cases f0; obtain ⟨hl0, hk⟩ := beq_v hk
  obtain ⟨u1, e1, hk⟩ := exI_v hk
  obtain ⟨u2, e2, hk⟩ := exI_v hk
  obtain ⟨u3, e3, hk⟩ := exI_v hk
  obtain ⟨u4, e4, hk⟩ := exI_v hk
  obtain ⟨u5, e5, hk⟩ := exI_v hk
  obtain ⟨u6, e6, hk⟩ := exI_v hk
  obtain ⟨u7, e7, hk⟩ := exI_v hk
  obtain ⟨u8, e8, hk⟩ := exI_v hk
  obtain ⟨u9, e9, hk⟩ := exS_v hk
  obtain ⟨u10, e10, hk⟩ := exS_v hk
  obtain rfl := arr10 hl0 e1 e2 e3 e4 e5 e6 e7 e8 e9 e10
  obtain ⟨v1, t1, hk⟩ := exV_v hk
  obtain ⟨u11, e11, hk⟩ := exI_v hk; cases e11
  obtain rfl := arr2 hl t0 t1
  exact ⟨_, h', hk, hs⟩
/-! F92 bytes.Equal -/
def CF_bytes_Equal  : Orc β := fun f args h K => none
def HF_bytes_Equal : Hints := ⟨[], [], []⟩
noncomputable def G_bytes_Equal  (R : Nat) (a1 : Sl) (a2 : Sl) (h : GH) (K : Bool → GH → Option β) : Option β := gfun Try.prog (CF_bytes_Equal ) HF_bytes_Equal R Try.f92 [Value.slice a1.a a1.n a1.c, Value.slice a2.a a2.n a2.c] h (fun v h' => exB (some v) fun u8 => K u8 h')
set_option maxRecDepth 100000 in
theorem F_bytes_Equal_gen  (R : Nat) (a1 : Sl) (a2 : Sl) (h : GH) (K : Bool → GH → Option β) : G_bytes_Equal  R a1 a2 h K =
    slCells a1 1 h fun v3 => exBs v3 fun b4 => slCells a2 1 h fun v5 => exBs v5 fun b6 => K (beqS (bytesB b4) (bytesB b6)) h := by kernel_rfl
noncomputable def F_bytes_Equal (R : Nat) (a1 : Sl) (a2 : Sl) (h : GH) (K : Bool → GH → Option β) : Option β := G_bytes_Equal  R a1 a2 h K
theorem CF_bytes_Equal_sim : SimOrc Try.prog (CF_bytes_Equal (β := β)) := by
  intro f args h K r hc
  cases hc
set_option maxRecDepth 100000 in
theorem F_bytes_Equal_sim {R : Nat} {r : β} {a1 : Sl} {a2 : Sl} {h : GH} {K : Value → GH → Option β} (hc : F_bytes_Equal R a1 a2 h (fun q0 h' => K (Value.bool q0) h') = some r) : ∃ v h', K v h' = some r ∧ CallSim Try.prog 92 [Value.slice a1.a a1.n a1.c, Value.slice a2.a a2.n a2.c] h v h' := by
  unfold F_bytes_Equal G_bytes_Equal at hc
  obtain ⟨v, h', hk, hs⟩ := gfun_sim CF_bytes_Equal_sim mixed_ok (fun f h => by cases h) Try.func92 (by kernel_rfl) hc
  obtain ⟨u0, e0, hk⟩ := exB_v hk; cases e0
  exact ⟨_, h', hk, hs⟩
/-! F65 duffel/denote.same -/
def CF_denote_same (F_bytes_Equal : Sl → Sl → GH → (Bool → GH → Option β) → Option β) : Orc β := fun f args h K => bif Nat.beq f 92 then (match args with | [.slice p1a p1n p1c, .slice p2a p2n p2c] => F_bytes_Equal ⟨p1a, p1n, p1c⟩ ⟨p2a, p2n, p2c⟩ h (fun q7 h' => K (Value.bool q7) h') | _ => none) else none
def HF_denote_same : Hints := ⟨[], [], []⟩
noncomputable def G_denote_same (F_bytes_Equal : Sl → Sl → GH → (Bool → GH → Option β) → Option β) (R : Nat) (a1 : Int) (a2 : Int) (a3 : Int) (a4 : Int) (a5 : Int) (a6 : Int) (a7 : Int) (a8 : Int) (a9 : Sl) (a10 : Sl) (a11 : Int) (a12 : Int) (a13 : Int) (a14 : Int) (a15 : Int) (a16 : Int) (a17 : Int) (a18 : Int) (a19 : Sl) (a20 : Sl) (h : GH) (K : Bool → GH → Option β) : Option β := gfun Try.prog (CF_denote_same F_bytes_Equal) HF_denote_same R Try.f65 [Value.agg #[Value.int .i64 a1, Value.int .i64 a2, Value.int .i64 a3, Value.int .i64 a4, Value.int .i64 a5, Value.int .u32 a6, Value.int .u32 a7, Value.int .u32 a8, Value.slice a9.a a9.n a9.c, Value.slice a10.a a10.n a10.c], Value.agg #[Value.int .i64 a11, Value.int .i64 a12, Value.int .i64 a13, Value.int .i64 a14, Value.int .i64 a15, Value.int .u32 a16, Value.int .u32 a17, Value.int .u32 a18, Value.slice a19.a a19.n a19.c, Value.slice a20.a a20.n a20.c]] h (fun v h' => exB (some v) fun u46 => K u46 h')
set_option maxRecDepth 100000 in
theorem F_denote_same_gen (F_bytes_Equal : Sl → Sl → GH → (Bool → GH → Option β) → Option β) (R : Nat) (a1 : Int) (a2 : Int) (a3 : Int) (a4 : Int) (a5 : Int) (a6 : Int) (a7 : Int) (a8 : Int) (a9 : Sl) (a10 : Sl) (a11 : Int) (a12 : Int) (a13 : Int) (a14 : Int) (a15 : Int) (a16 : Int) (a17 : Int) (a18 : Int) (a19 : Sl) (a20 : Sl) (h : GH) (K : Bool → GH → Option β) : G_denote_same F_bytes_Equal R a1 a2 a3 a4 a5 a6 a7 a8 a9 a10 a11 a12 a13 a14 a15 a16 a17 a18 a19 a20 h K =
    gnew [Value.int .i64 a1, Value.int .i64 a2, Value.int .i64 a3, Value.int .i64 a4, Value.int .i64 a5, Value.int .u32 a6, Value.int .u32 a7, Value.int .u32 a8, Value.slice a9.a a9.n a9.c, Value.slice a10.a a10.n a10.c] 0 h fun g21 h22 => gnew [Value.int .i64 a11, Value.int .i64 a12, Value.int .i64 a13, Value.int .i64 a14, Value.int .i64 a15, Value.int .u32 a16, Value.int .u32 a17, Value.int .u32 a18, Value.slice a19.a a19.n a19.c, Value.slice a20.a a20.n a20.c] 0 h22 fun g23 h24 => exI .i64 (h24.cell ⟨g21, 0 + 0, none⟩) fun x25 => exI .i64 (h24.cell ⟨g23, 0 + 0, none⟩) fun x26 => (bif x25 == x26 then exI .i64 (h24.cell ⟨g21, 0 + 1, none⟩) fun x27 => exI .i64 (h24.cell ⟨g23, 0 + 1, none⟩) fun x28 => (bif x27 == x28 then exI .i64 (h24.cell ⟨g21, 0 + 2, none⟩) fun x29 => exI .i64 (h24.cell ⟨g23, 0 + 2, none⟩) fun x30 => (bif x29 == x30 then exI .i64 (h24.cell ⟨g21, 0 + 3, none⟩) fun x31 => exI .i64 (h24.cell ⟨g23, 0 + 3, none⟩) fun x32 => (bif x31 == x32 then exI .i64 (h24.cell ⟨g21, 0 + 4, none⟩) fun x33 => exI .i64 (h24.cell ⟨g23, 0 + 4, none⟩) fun x34 => (bif x33 == x34 then exI .u32 (h24.cell ⟨g21, 0 + 5, none⟩) fun x35 => exI .u32 (h24.cell ⟨g23, 0 + 5, none⟩) fun x36 => (bif x35 == x36 then exI .u32 (h24.cell ⟨g21, 0 + 6, none⟩) fun x37 => exI .u32 (h24.cell ⟨g23, 0 + 6, none⟩) fun x38 => (bif x37 == x38 then exI .u32 (h24.cell ⟨g21, 0 + 7, none⟩) fun x39 => exI .u32 (h24.cell ⟨g23, 0 + 7, none⟩) fun x40 => (bif x39 == x40 then exS (h24.cell ⟨g21, 0 + 8, none⟩) fun x41 => exS (h24.cell ⟨g23, 0 + 8, none⟩) fun x42 => F_bytes_Equal x41 x42 h24 fun r43 h44 => K r43 h44 else K false h24) else K false h24) else K false h24) else K false h24) else K false h24) else K false h24) else K false h24) else K false h24) := by kernel_rfl
noncomputable def F_denote_same (R : Nat) (a1 : Int) (a2 : Int) (a3 : Int) (a4 : Int) (a5 : Int) (a6 : Int) (a7 : Int) (a8 : Int) (a9 : Sl) (a10 : Sl) (a11 : Int) (a12 : Int) (a13 : Int) (a14 : Int) (a15 : Int) (a16 : Int) (a17 : Int) (a18 : Int) (a19 : Sl) (a20 : Sl) (h : GH) (K : Bool → GH → Option β) : Option β := G_denote_same (F_bytes_Equal R) R a1 a2 a3 a4 a5 a6 a7 a8 a9 a10 a11 a12 a13 a14 a15 a16 a17 a18 a19 a20 h K
set_option maxRecDepth 100000 in
theorem CF_denote_same_sim {R : Nat} : SimOrc Try.prog (CF_denote_same (F_bytes_Equal R) (β := β)) := by
  intro f args h K r hc
  unfold CF_denote_same at hc
  cases hb : Nat.beq f 92 with
  | true =>
    rw [hb] at hc
    simp only [cond_true] at hc
    obtain rfl := Nat.eq_of_beq_eq_true hb
    split at hc
    · exact any_call (F_bytes_Equal_sim (K := K) hc)
    · cases hc
  | false =>
  rw [hb] at hc
  simp only [cond_false] at hc
  cases hc
set_option maxRecDepth 100000 in
theorem F_denote_same_sim {R : Nat} {r : β} {a1 : Int} {a2 : Int} {a3 : Int} {a4 : Int} {a5 : Int} {a6 : Int} {a7 : Int} {a8 : Int} {a9 : Sl} {a10 : Sl} {a11 : Int} {a12 : Int} {a13 : Int} {a14 : Int} {a15 : Int} {a16 : Int} {a17 : Int} {a18 : Int} {a19 : Sl} {a20 : Sl} {h : GH} {K : Value → GH → Option β} (hc : F_denote_same R a1 a2 a3 a4 a5 a6 a7 a8 a9 a10 a11 a12 a13 a14 a15 a16 a17 a18 a19 a20 h (fun q0 h' => K (Value.bool q0) h') = some r) : ∃ v h', K v h' = some r ∧ CallSim Try.prog 65 [Value.agg #[Value.int .i64 a1, Value.int .i64 a2, Value.int .i64 a3, Value.int .i64 a4, Value.int .i64 a5, Value.int .u32 a6, Value.int .u32 a7, Value.int .u32 a8, Value.slice a9.a a9.n a9.c, Value.slice a10.a a10.n a10.c], Value.agg #[Value.int .i64 a11, Value.int .i64 a12, Value.int .i64 a13, Value.int .i64 a14, Value.int .i64 a15, Value.int .u32 a16, Value.int .u32 a17, Value.int .u32 a18, Value.slice a19.a a19.n a19.c, Value.slice a20.a a20.n a20.c]] h v h' := by
  unfold F_denote_same G_denote_same at hc
  obtain ⟨v, h', hk, hs⟩ := gfun_sim (CF_denote_same_sim (R := R)) mixed_ok (fun f h => by cases h) Try.func65 (by kernel_rfl) hc
  obtain ⟨u0, e0, hk⟩ := exB_v hk; cases e0
  exact ⟨_, h', hk, hs⟩
/-! F37 (*duffel/denote.scanner).local -/
def CF_denote_scanner_local (F_field_Cursor_At : Option Addr → GH → (Int → GH → Option β) → Option β) (F_record_ReadLocal : Option Addr → GH → (Int → Int → Int → Int → Int → Int → Int → Int → Sl → Sl → Int → GH → Option β) → Option β) (F_denote_same : Int → Int → Int → Int → Int → Int → Int → Int → Sl → Sl → Int → Int → Int → Int → Int → Int → Int → Int → Sl → Sl → GH → (Bool → GH → Option β) → Option β) (F_denote_checkExtra : Sl → GH → (Int → GH → Option β) → Option β) (F_field_Cursor_Left : Option Addr → GH → (Int → GH → Option β) → Option β) (F_field_Cursor_Bytes : Option Addr → Int → GH → (Sl → GH → Option β) → Option β) : Orc β := fun f args h K => bif Nat.beq f 63 then (match args with | [.pointer p1] => F_field_Cursor_At p1 h (fun q5 h' => K (Value.int .i64 q5) h') | _ => none) else (bif Nat.beq f 64 then (match args with | [.pointer p1] => F_record_ReadLocal p1 h (fun q79 q80 q81 q82 q83 q84 q85 q86 q87 q88 q89 h' => K (Value.tuple #[Value.agg #[Value.int .i64 q79, Value.int .i64 q80, Value.int .i64 q81, Value.int .i64 q82, Value.int .i64 q83, Value.int .u32 q84, Value.int .u32 q85, Value.int .u32 q86, Value.slice q87.a q87.n q87.c, Value.slice q88.a q88.n q88.c], Value.int .i64 q89]) h') | _ => none) else (bif Nat.beq f 65 then (match args with | [.agg ⟨[.int .i64 p1, .int .i64 p2, .int .i64 p3, .int .i64 p4, .int .i64 p5, .int .u32 p6, .int .u32 p7, .int .u32 p8, .slice p9a p9n p9c, .slice p10a p10n p10c]⟩, .agg ⟨[.int .i64 p11, .int .i64 p12, .int .i64 p13, .int .i64 p14, .int .i64 p15, .int .u32 p16, .int .u32 p17, .int .u32 p18, .slice p19a p19n p19c, .slice p20a p20n p20c]⟩] => F_denote_same p1 p2 p3 p4 p5 p6 p7 p8 ⟨p9a, p9n, p9c⟩ ⟨p10a, p10n, p10c⟩ p11 p12 p13 p14 p15 p16 p17 p18 ⟨p19a, p19n, p19c⟩ ⟨p20a, p20n, p20c⟩ h (fun q45 h' => K (Value.bool q45) h') | _ => none) else (bif Nat.beq f 28 then (match args with | [.slice p1a p1n p1c] => F_denote_checkExtra ⟨p1a, p1n, p1c⟩ h (fun q8 h' => K (Value.int .i64 q8) h') | _ => none) else (bif Nat.beq f 38 then (match args with | [.pointer p1] => F_field_Cursor_Left p1 h (fun q10 h' => K (Value.int .i64 q10) h') | _ => none) else (bif Nat.beq f 66 then (match args with | [.pointer p1, .int .i64 p2] => F_field_Cursor_Bytes p1 p2 h (fun q7 h' => K (Value.slice q7.a q7.n q7.c) h') | _ => none) else none)))))
def HF_denote_scanner_local : Hints := ⟨[], [], []⟩
noncomputable def G_denote_scanner_local (F_field_Cursor_At : Option Addr → GH → (Int → GH → Option β) → Option β) (F_record_ReadLocal : Option Addr → GH → (Int → Int → Int → Int → Int → Int → Int → Int → Sl → Sl → Int → GH → Option β) → Option β) (F_denote_same : Int → Int → Int → Int → Int → Int → Int → Int → Sl → Sl → Int → Int → Int → Int → Int → Int → Int → Int → Sl → Sl → GH → (Bool → GH → Option β) → Option β) (F_denote_checkExtra : Sl → GH → (Int → GH → Option β) → Option β) (F_field_Cursor_Left : Option Addr → GH → (Int → GH → Option β) → Option β) (F_field_Cursor_Bytes : Option Addr → Int → GH → (Sl → GH → Option β) → Option β) (R : Nat) (a1 : Option Addr) (a2 : Option Addr) (a3 : Option Addr) (h : GH) (K : Int → GH → Option β) : Option β := gfun Try.prog (CF_denote_scanner_local F_field_Cursor_At F_record_ReadLocal F_denote_same F_denote_checkExtra F_field_Cursor_Left F_field_Cursor_Bytes) HF_denote_scanner_local R Try.f37 [Value.pointer a1, Value.pointer a2, Value.pointer a3] h (fun v h' => exI .i64 (some v) fun u65 => K u65 h')
set_option maxRecDepth 100000 in
theorem F_denote_scanner_local_gen (F_field_Cursor_At : Option Addr → GH → (Int → GH → Option β) → Option β) (F_record_ReadLocal : Option Addr → GH → (Int → Int → Int → Int → Int → Int → Int → Int → Sl → Sl → Int → GH → Option β) → Option β) (F_denote_same : Int → Int → Int → Int → Int → Int → Int → Int → Sl → Sl → Int → Int → Int → Int → Int → Int → Int → Int → Sl → Sl → GH → (Bool → GH → Option β) → Option β) (F_denote_checkExtra : Sl → GH → (Int → GH → Option β) → Option β) (F_field_Cursor_Left : Option Addr → GH → (Int → GH → Option β) → Option β) (F_field_Cursor_Bytes : Option Addr → Int → GH → (Sl → GH → Option β) → Option β) (R : Nat) (a1 : Option Addr) (a2 : Option Addr) (a3 : Option Addr) (h : GH) (K : Int → GH → Option β) : G_denote_scanner_local F_field_Cursor_At F_record_ReadLocal F_denote_same F_denote_checkExtra F_field_Cursor_Left F_field_Cursor_Bytes R a1 a2 a3 h K =
    exA a3 fun g4 o5 => exI .u32 (h.cell ⟨g4, o5 + 0 + 14, none⟩) fun x6 => F_field_Cursor_At a2 h fun r7 h8 => (bif sameAt g4 (o5 + 0 + 14) 1 h h8 then (bif (IntKind.wrap .i64 x6) != r7 then K 14 h8 else F_record_ReadLocal a2 h8 fun r9 r10 r11 r12 r13 r14 r15 r16 r17 r18 r19 h20 => gnew [Value.int .i64 0, Value.int .i64 0, Value.int .i64 0, Value.int .i64 0, Value.int .i64 0, Value.int .u32 0, Value.int .u32 0, Value.int .u32 0, Value.slice none 0 0, Value.slice none 0 0] 0 h20 fun g21 h22 => gput g21 (0) [Value.int .i64 r9, Value.int .i64 r10, Value.int .i64 r11, Value.int .i64 r12, Value.int .i64 r13, Value.int .u32 r14, Value.int .u32 r15, Value.int .u32 r16, Value.slice r17.a r17.n r17.c, Value.slice r18.a r18.n r18.c] h22 fun h23 => (bif r19 != 0 then K r19 h23 else exI .i64 (h23.cell ⟨g21, 0, none⟩) fun x24 => exI .i64 (h23.cell ⟨g21, 0 + 1, none⟩) fun x25 => exI .i64 (h23.cell ⟨g21, 0 + 1 + 1, none⟩) fun x26 => exI .i64 (h23.cell ⟨g21, 0 + 1 + 1 + 1, none⟩) fun x27 => exI .i64 (h23.cell ⟨g21, 0 + 1 + 1 + 1 + 1, none⟩) fun x28 => exI .u32 (h23.cell ⟨g21, 0 + 1 + 1 + 1 + 1 + 1, none⟩) fun x29 => exI .u32 (h23.cell ⟨g21, 0 + 1 + 1 + 1 + 1 + 1 + 1, none⟩) fun x30 => exI .u32 (h23.cell ⟨g21, 0 + 1 + 1 + 1 + 1 + 1 + 1 + 1, none⟩) fun x31 => exS (h23.cell ⟨g21, 0 + 1 + 1 + 1 + 1 + 1 + 1 + 1 + 1, none⟩) fun x32 => exS (h23.cell ⟨g21, 0 + 1 + 1 + 1 + 1 + 1 + 1 + 1 + 1 + 1, none⟩) fun x33 => exA a3 fun g34 o35 => exI .i64 (h23.cell ⟨g34, o35 + 0 + 0, none⟩) fun x36 => exI .i64 (h23.cell ⟨g34, o35 + 0 + 0 + 1, none⟩) fun x37 => exI .i64 (h23.cell ⟨g34, o35 + 0 + 0 + 1 + 1, none⟩) fun x38 => exI .i64 (h23.cell ⟨g34, o35 + 0 + 0 + 1 + 1 + 1, none⟩) fun x39 => exI .i64 (h23.cell ⟨g34, o35 + 0 + 0 + 1 + 1 + 1 + 1, none⟩) fun x40 => exI .u32 (h23.cell ⟨g34, o35 + 0 + 0 + 1 + 1 + 1 + 1 + 1, none⟩) fun x41 => exI .u32 (h23.cell ⟨g34, o35 + 0 + 0 + 1 + 1 + 1 + 1 + 1 + 1, none⟩) fun x42 => exI .u32 (h23.cell ⟨g34, o35 + 0 + 0 + 1 + 1 + 1 + 1 + 1 + 1 + 1, none⟩) fun x43 => exS (h23.cell ⟨g34, o35 + 0 + 0 + 1 + 1 + 1 + 1 + 1 + 1 + 1 + 1, none⟩) fun x44 => exS (h23.cell ⟨g34, o35 + 0 + 0 + 1 + 1 + 1 + 1 + 1 + 1 + 1 + 1 + 1, none⟩) fun x45 => F_denote_same x24 x25 x26 x27 x28 x29 x30 x31 x32 x33 x36 x37 x38 x39 x40 x41 x42 x43 x44 x45 h23 fun r46 h47 => (bif !r46 then K 15 h47 else exS (h47.cell ⟨g21, 0 + 9, none⟩) fun x48 => F_denote_checkExtra x48 h47 fun r49 h50 => (bif r49 != 0 then K r49 h50 else exI .u32 (h50.cell ⟨g21, 0 + 6, none⟩) fun x51 => F_field_Cursor_Left a2 h50 fun r52 h53 => (bif sameAt g21 (0 + 6) 1 h50 h53 then (bif decide ((IntKind.wrap .i64 x51) > r52) then K 14 h53 else exS (h53.cell ⟨g21, 0 + 9, none⟩) fun x54 => exI .u32 (h53.cell ⟨g21, 0 + 6, none⟩) fun x55 => F_field_Cursor_Bytes a2 (IntKind.wrap .i64 x55) h53 fun r56 h57 => exA a3 fun g58 o59 => gput g58 (o59 + 16) [Value.slice x54.a x54.n x54.c] h57 fun h60 => exA a3 fun g61 o62 => gput g61 (o62 + 17) [Value.slice r56.a r56.n r56.c] h60 fun h63 => (bif sameAt g21 (0 + 9) 1 h53 h57 then K 0 h63 else none)) else none))))) else none) := by kernel_rfl
noncomputable def F_denote_scanner_local (R : Nat) (a1 : Option Addr) (a2 : Option Addr) (a3 : Option Addr) (h : GH) (K : Int → GH → Option β) : Option β := G_denote_scanner_local (F_field_Cursor_At R) (F_record_ReadLocal R) (F_denote_same R) (F_denote_checkExtra R) (F_field_Cursor_Left R) (F_field_Cursor_Bytes R) R a1 a2 a3 h K
set_option maxRecDepth 100000 in
theorem CF_denote_scanner_local_sim {R : Nat} : SimOrc Try.prog (CF_denote_scanner_local (F_field_Cursor_At R) (F_record_ReadLocal R) (F_denote_same R) (F_denote_checkExtra R) (F_field_Cursor_Left R) (F_field_Cursor_Bytes R) (β := β)) := by
  intro f args h K r hc
  unfold CF_denote_scanner_local at hc
  cases hb : Nat.beq f 63 with
  | true =>
    rw [hb] at hc
    simp only [cond_true] at hc
    obtain rfl := Nat.eq_of_beq_eq_true hb
    split at hc
    · exact any_call (F_field_Cursor_At_sim (K := K) hc)
    · cases hc
  | false =>
  rw [hb] at hc
  simp only [cond_false] at hc
  cases hb : Nat.beq f 64 with
  | true =>
    rw [hb] at hc
    simp only [cond_true] at hc
    obtain rfl := Nat.eq_of_beq_eq_true hb
    split at hc
    · exact any_call (F_record_ReadLocal_sim (K := K) hc)
    · cases hc
  | false =>
  rw [hb] at hc
  simp only [cond_false] at hc
  cases hb : Nat.beq f 65 with
  | true =>
    rw [hb] at hc
    simp only [cond_true] at hc
    obtain rfl := Nat.eq_of_beq_eq_true hb
    split at hc
    · exact any_call (F_denote_same_sim (K := K) hc)
    · cases hc
  | false =>
  rw [hb] at hc
  simp only [cond_false] at hc
  cases hb : Nat.beq f 28 with
  | true =>
    rw [hb] at hc
    simp only [cond_true] at hc
    obtain rfl := Nat.eq_of_beq_eq_true hb
    split at hc
    · exact any_call (F_denote_checkExtra_sim (K := K) hc)
    · cases hc
  | false =>
  rw [hb] at hc
  simp only [cond_false] at hc
  cases hb : Nat.beq f 38 with
  | true =>
    rw [hb] at hc
    simp only [cond_true] at hc
    obtain rfl := Nat.eq_of_beq_eq_true hb
    split at hc
    · exact any_call (F_field_Cursor_Left_sim (K := K) hc)
    · cases hc
  | false =>
  rw [hb] at hc
  simp only [cond_false] at hc
  cases hb : Nat.beq f 66 with
  | true =>
    rw [hb] at hc
    simp only [cond_true] at hc
    obtain rfl := Nat.eq_of_beq_eq_true hb
    split at hc
    · exact any_call (F_field_Cursor_Bytes_sim (K := K) hc)
    · cases hc
  | false =>
  rw [hb] at hc
  simp only [cond_false] at hc
  cases hc
set_option maxRecDepth 100000 in
theorem F_denote_scanner_local_sim {R : Nat} {r : β} {a1 : Option Addr} {a2 : Option Addr} {a3 : Option Addr} {h : GH} {K : Value → GH → Option β} (hc : F_denote_scanner_local R a1 a2 a3 h (fun q0 h' => K (Value.int .i64 q0) h') = some r) : ∃ v h', K v h' = some r ∧ CallSim Try.prog 37 [Value.pointer a1, Value.pointer a2, Value.pointer a3] h v h' := by
  unfold F_denote_scanner_local G_denote_scanner_local at hc
  obtain ⟨v, h', hk, hs⟩ := gfun_sim (CF_denote_scanner_local_sim (R := R)) mixed_ok (fun f h => by cases h) Try.func37 (by kernel_rfl) hc
  obtain ⟨u0, e0, hk⟩ := exI_v hk; cases e0
  exact ⟨_, h', hk, hs⟩
/-! F14 duffel/denote.Scan -/
def CF_denote_Scan (F_denote_scanner_findEnd : Option Addr → GH → (Int → GH → Option β) → Option β) (F_denote_scanner_centrals : Option Addr → GH → (Sl → Int → GH → Option β) → Option β) (F_field_Open : Sl → GH → (Option Addr → GH → Option β) → Option β) (F_denote_scanner_local : Option Addr → Option Addr → Option Addr → GH → (Int → GH → Option β) → Option β) (F_field_Cursor_Left : Option Addr → GH → (Int → GH → Option β) → Option β) : Orc β := fun f args h K => bif Nat.beq f 34 then (match args with | [.pointer p1] => F_denote_scanner_findEnd p1 h (fun q55 h' => K (Value.int .i64 q55) h') | _ => none) else (bif Nat.beq f 35 then (match args with | [.pointer p1] => F_denote_scanner_centrals p1 h (fun q128 q129 h' => K (Value.tuple #[Value.slice q128.a q128.n q128.c, Value.int .i64 q129]) h') | _ => none) else (bif Nat.beq f 36 then (match args with | [.slice p1a p1n p1c] => F_field_Open ⟨p1a, p1n, p1c⟩ h (fun q6 h' => K (Value.pointer q6) h') | _ => none) else (bif Nat.beq f 37 then (match args with | [.pointer p1, .pointer p2, .pointer p3] => F_denote_scanner_local p1 p2 p3 h (fun q64 h' => K (Value.int .i64 q64) h') | _ => none) else (bif Nat.beq f 38 then (match args with | [.pointer p1] => F_field_Cursor_Left p1 h (fun q10 h' => K (Value.int .i64 q10) h') | _ => none) else none))))
def HF_denote_Scan : Hints := ⟨[(10, [5, 7, 9, 37, 38], [(0, [(5, .ty 70), (7, .ty 36), (9, .ty 78)])], some [(2, .ty 36), (3, .ty 23), (4, .ty 29)])], [], []⟩
noncomputable def BF_denote_Scan : Code := match Try.f14.body with | some c => c | none => .skip
noncomputable def F_denote_Scan_l0 (F_denote_scanner_findEnd : Option Addr → GH → (Int → GH → Option β) → Option β) (F_denote_scanner_centrals : Option Addr → GH → (Sl → Int → GH → Option β) → Option β) (F_field_Open : Sl → GH → (Option Addr → GH → Option β) → Option β) (F_denote_scanner_local : Option Addr → Option Addr → Option Addr → GH → (Int → GH → Option β) → Option β) (F_field_Cursor_Left : Option Addr → GH → (Int → GH → Option β) → Option β) (R : Nat) (n : Nat) (y13 : Option Addr) (y14 : Sl) (y15 : Option Addr) (y16 : Int) (y17 : Int) (h : GH) (K0 : Option Addr → Sl → Option Addr → GH → Option β) (Kr : Sl → Sl → Int → GH → Option β) : Option β := gloop (gcode Try.prog (CF_denote_Scan F_denote_scanner_findEnd F_denote_scanner_centrals F_field_Open F_denote_scanner_local F_field_Cursor_Left) Try.f14.ntmps HF_denote_Scan R (at_ [true, true, true, true, true, true, false, true, false, false] BF_denote_Scan)) [5, 7, 9, 37, 38] n [(5, Value.pointer y13), (7, Value.slice y14.a y14.n y14.c), (9, Value.pointer y15), (37, Value.int .i64 y16), (38, Value.int .i64 y17)] h (fun i e' h' => bif Nat.beq i 0 then (exP (some (e'.get 5)) fun u44 => exS (some (e'.get 7)) fun u45 => exP (some (e'.get 9)) fun u46 => K0 u44 u45 u46 h') else none) (fun e' h' => exS (some (e'.get 2)) fun u47 => exS (some (e'.get 3)) fun u48 => exI .i64 (some (e'.get 4)) fun u49 => Kr u47 u48 u49 h')
set_option maxRecDepth 100000 in
theorem F_denote_Scan_l0_succ (F_denote_scanner_findEnd : Option Addr → GH → (Int → GH → Option β) → Option β) (F_denote_scanner_centrals : Option Addr → GH → (Sl → Int → GH → Option β) → Option β) (F_field_Open : Sl → GH → (Option Addr → GH → Option β) → Option β) (F_denote_scanner_local : Option Addr → Option Addr → Option Addr → GH → (Int → GH → Option β) → Option β) (F_field_Cursor_Left : Option Addr → GH → (Int → GH → Option β) → Option β) (R : Nat) (n : Nat) (y13 : Option Addr) (y14 : Sl) (y15 : Option Addr) (y16 : Int) (y17 : Int) (h : GH) (K0 : Option Addr → Sl → Option Addr → GH → Option β) (Kr : Sl → Sl → Int → GH → Option β) : F_denote_Scan_l0 F_denote_scanner_findEnd F_denote_scanner_centrals F_field_Open F_denote_scanner_local F_field_Cursor_Left R (n + 1) y13 y14 y15 y16 y17 h K0 Kr =
    (bif decide (y17 < y16) then exA y14.a fun g24 o25 => within y17 y14.n (F_denote_scanner_local y13 y15 (some ⟨g24, o25 + y17.toNat * 18, none⟩) h fun r26 h27 => (bif r26 != 0 then Kr ⟨none, 0, 0⟩ ⟨none, 0, 0⟩ r26 h27 else F_denote_Scan_l0 F_denote_scanner_findEnd F_denote_scanner_centrals F_field_Open F_denote_scanner_local F_field_Cursor_Left R n y13 y14 y15 y16 (IntKind.wrap .i64 (y17 + 1)) h27 K0 Kr)) else K0 y13 y14 y15 h) := by kernel_rfl
noncomputable def G_denote_Scan (F_denote_scanner_findEnd : Option Addr → GH → (Int → GH → Option β) → Option β) (F_denote_scanner_centrals : Option Addr → GH → (Sl → Int → GH → Option β) → Option β) (F_field_Open : Sl → GH → (Option Addr → GH → Option β) → Option β) (F_denote_scanner_local : Option Addr → Option Addr → Option Addr → GH → (Int → GH → Option β) → Option β) (F_field_Cursor_Left : Option Addr → GH → (Int → GH → Option β) → Option β) (R : Nat) (a1 : Sl) (h : GH) (K : Sl → Sl → Int → GH → Option β) : Option β := gfun Try.prog (CF_denote_Scan F_denote_scanner_findEnd F_denote_scanner_centrals F_field_Open F_denote_scanner_local F_field_Cursor_Left) HF_denote_Scan R Try.f14 [Value.slice a1.a a1.n a1.c] h (fun v h' => exTup 3 v fun vs => exV (nth vs 0) fun v0 => exS (some v0) fun u50 => exV (nth vs 1) fun v1 => exS (some v1) fun u51 => exV (nth vs 2) fun v2 => exI .i64 (some v2) fun u52 => K u50 u51 u52 h')
set_option maxRecDepth 100000 in
theorem F_denote_Scan_gen (F_denote_scanner_findEnd : Option Addr → GH → (Int → GH → Option β) → Option β) (F_denote_scanner_centrals : Option Addr → GH → (Sl → Int → GH → Option β) → Option β) (F_field_Open : Sl → GH → (Option Addr → GH → Option β) → Option β) (F_denote_scanner_local : Option Addr → Option Addr → Option Addr → GH → (Int → GH → Option β) → Option β) (F_field_Cursor_Left : Option Addr → GH → (Int → GH → Option β) → Option β) (R : Nat) (a1 : Sl) (h : GH) (K : Sl → Sl → Int → GH → Option β) : G_denote_Scan F_denote_scanner_findEnd F_denote_scanner_centrals F_field_Open F_denote_scanner_local F_field_Cursor_Left R a1 h K =
    gnew [Value.slice a1.a a1.n a1.c, Value.int .i64 0, Value.int .i64 0, Value.int .i64 0, Value.int .i64 0, Value.int .u32 0, Value.int .u32 0, Value.slice none 0 0, Value.int .i64 0] 0 h fun g2 h3 => F_denote_scanner_findEnd (some ⟨g2, 0, none⟩) h3 fun r4 h5 => (bif r4 != 0 then K ⟨none, 0, 0⟩ ⟨none, 0, 0⟩ r4 h5 else F_denote_scanner_centrals (some ⟨g2, 0, none⟩) h5 fun r6 r7 h8 => (bif r7 != 0 then K ⟨none, 0, 0⟩ ⟨none, 0, 0⟩ r7 h8 else exI .u32 (h8.cell ⟨g2, 0 + 1 + 5, none⟩) fun x9 => bnd x9 a1.c fun m10 => F_field_Open ⟨addO a1.a (0 * 1), m10 - 0, a1.c - 0⟩ h8 fun r11 h12 => F_denote_Scan_l0 F_denote_scanner_findEnd F_denote_scanner_centrals F_field_Open F_denote_scanner_local F_field_Cursor_Left R R (some ⟨g2, 0, none⟩) r6 r11 ((r6.n : Nat) : Int) 0 h12 (fun w28 w29 w30 h31 => F_field_Cursor_Left w30 h31 fun r32 h33 => (bif decide (r32 > 0) then K ⟨none, 0, 0⟩ ⟨none, 0, 0⟩ 14 h33 else exA w28 fun g34 o35 => exS (h33.cell ⟨g34, o35 + 1 + 6, none⟩) fun x36 => K w29 x36 0 h33)) (fun w37 w38 w39 h40 => K w37 w38 w39 h40))) := by kernel_rfl
noncomputable def F_denote_Scan (R : Nat) (a1 : Sl) (h : GH) (K : Sl → Sl → Int → GH → Option β) : Option β := G_denote_Scan (F_denote_scanner_findEnd R) (F_denote_scanner_centrals R) (F_field_Open R) (F_denote_scanner_local R) (F_field_Cursor_Left R) R a1 h K
set_option maxRecDepth 100000 in
theorem CF_denote_Scan_sim {R : Nat} : SimOrc Try.prog (CF_denote_Scan (F_denote_scanner_findEnd R) (F_denote_scanner_centrals R) (F_field_Open R) (F_denote_scanner_local R) (F_field_Cursor_Left R) (β := β)) := by
  intro f args h K r hc
  unfold CF_denote_Scan at hc
  cases hb : Nat.beq f 34 with
  | true =>
    rw [hb] at hc
    simp only [cond_true] at hc
    obtain rfl := Nat.eq_of_beq_eq_true hb
    split at hc
    · exact any_call (F_denote_scanner_findEnd_sim (K := K) hc)
    · cases hc
  | false =>
  rw [hb] at hc
  simp only [cond_false] at hc
  cases hb : Nat.beq f 35 with
  | true =>
    rw [hb] at hc
    simp only [cond_true] at hc
    obtain rfl := Nat.eq_of_beq_eq_true hb
    split at hc
    · exact any_call (F_denote_scanner_centrals_sim (K := K) hc)
    · cases hc
  | false =>
  rw [hb] at hc
  simp only [cond_false] at hc
  cases hb : Nat.beq f 36 with
  | true =>
    rw [hb] at hc
    simp only [cond_true] at hc
    obtain rfl := Nat.eq_of_beq_eq_true hb
    split at hc
    · exact any_call (F_field_Open_sim (K := K) hc)
    · cases hc
  | false =>
  rw [hb] at hc
  simp only [cond_false] at hc
  cases hb : Nat.beq f 37 with
  | true =>
    rw [hb] at hc
    simp only [cond_true] at hc
    obtain rfl := Nat.eq_of_beq_eq_true hb
    split at hc
    · exact any_call (F_denote_scanner_local_sim (K := K) hc)
    · cases hc
  | false =>
  rw [hb] at hc
  simp only [cond_false] at hc
  cases hb : Nat.beq f 38 with
  | true =>
    rw [hb] at hc
    simp only [cond_true] at hc
    obtain rfl := Nat.eq_of_beq_eq_true hb
    split at hc
    · exact any_call (F_field_Cursor_Left_sim (K := K) hc)
    · cases hc
  | false =>
  rw [hb] at hc
  simp only [cond_false] at hc
  cases hc
set_option maxRecDepth 100000 in
theorem F_denote_Scan_sim {R : Nat} {r : β} {a1 : Sl} {h : GH} {K : Value → GH → Option β} (hc : F_denote_Scan R a1 h (fun q0 q1 q2 h' => K (Value.tuple #[Value.slice q0.a q0.n q0.c, Value.slice q1.a q1.n q1.c, Value.int .i64 q2]) h') = some r) : ∃ v h', K v h' = some r ∧ CallSim Try.prog 14 [Value.slice a1.a a1.n a1.c] h v h' := by
  unfold F_denote_Scan G_denote_Scan at hc
  obtain ⟨v, h', hk, hs⟩ := gfun_sim (CF_denote_Scan_sim (R := R)) mixed_ok (fun f h => by cases h) Try.func14 (by kernel_rfl) hc
  obtain ⟨vs, rfl, hl, hk⟩ := exTup_v hk
  obtain ⟨v0, t0, hk⟩ := exV_v hk
  obtain ⟨u0, e0, hk⟩ := exS_v hk; cases e0
  obtain ⟨v1, t1, hk⟩ := exV_v hk
  obtain ⟨u1, e1, hk⟩ := exS_v hk; cases e1
  obtain ⟨v2, t2, hk⟩ := exV_v hk
  obtain ⟨u2, e2, hk⟩ := exI_v hk; cases e2
  obtain rfl := arr3 hl t0 t1 t2
  exact ⟨_, h', hk, hs⟩
/-! F73 duffel/field.New -/
def CF_field_New  : Orc β := fun f args h K => none
def HF_field_New : Hints := ⟨[], [], []⟩
noncomputable def G_field_New  (R : Nat)  (h : GH) (K : Option Addr → GH → Option β) : Option β := gfun Try.prog (CF_field_New ) HF_field_New R Try.f73 [] h (fun v h' => exP (some v) fun u4 => K u4 h')
set_option maxRecDepth 100000 in
theorem F_field_New_gen  (R : Nat)  (h : GH) (K : Option Addr → GH → Option β) : G_field_New  R  h K =
    gnew [Value.slice none 0 0, Value.int .i64 0] 0 h fun g1 h2 => K (some ⟨g1, 0, none⟩) h2 := by kernel_rfl
noncomputable def F_field_New (R : Nat)  (h : GH) (K : Option Addr → GH → Option β) : Option β := G_field_New  R  h K
theorem CF_field_New_sim : SimOrc Try.prog (CF_field_New (β := β)) := by
  intro f args h K r hc
  cases hc
set_option maxRecDepth 100000 in
theorem F_field_New_sim {R : Nat} {r : β}  {h : GH} {K : Value → GH → Option β} (hc : F_field_New R  h (fun q0 h' => K (Value.pointer q0) h') = some r) : ∃ v h', K v h' = some r ∧ CallSim Try.prog 73 [] h v h' := by
  unfold F_field_New G_field_New at hc
  obtain ⟨v, h', hk, hs⟩ := gfun_sim CF_field_New_sim mixed_ok (fun f h => by cases h) Try.func73 (by kernel_rfl) hc
  obtain ⟨u0, e0, hk⟩ := exP_v hk; cases e0
  exact ⟨_, h', hk, hs⟩
/-! F98 (*duffel/field.Row).Err -/
def CF_field_Row_Err  : Orc β := fun f args h K => none
def HF_field_Row_Err : Hints := ⟨[], [], []⟩
noncomputable def G_field_Row_Err  (R : Nat) (a1 : Option Addr) (h : GH) (K : Int → GH → Option β) : Option β := gfun Try.prog (CF_field_Row_Err ) HF_field_Row_Err R Try.f98 [Value.pointer a1] h (fun v h' => exI .i64 (some v) fun u6 => K u6 h')
set_option maxRecDepth 100000 in
theorem F_field_Row_Err_gen  (R : Nat) (a1 : Option Addr) (h : GH) (K : Int → GH → Option β) : G_field_Row_Err  R a1 h K =
    (bif a1.isNone then K 1 h else exA a1 fun g2 o3 => exI .i64 (h.cell ⟨g2, o3 + 1, none⟩) fun x4 => K x4 h) := by kernel_rfl
noncomputable def F_field_Row_Err (R : Nat) (a1 : Option Addr) (h : GH) (K : Int → GH → Option β) : Option β := G_field_Row_Err  R a1 h K
theorem CF_field_Row_Err_sim : SimOrc Try.prog (CF_field_Row_Err (β := β)) := by
  intro f args h K r hc
  cases hc
set_option maxRecDepth 100000 in
theorem F_field_Row_Err_sim {R : Nat} {r : β} {a1 : Option Addr} {h : GH} {K : Value → GH → Option β} (hc : F_field_Row_Err R a1 h (fun q0 h' => K (Value.int .i64 q0) h') = some r) : ∃ v h', K v h' = some r ∧ CallSim Try.prog 98 [Value.pointer a1] h v h' := by
  unfold F_field_Row_Err G_field_Row_Err at hc
  obtain ⟨v, h', hk, hs⟩ := gfun_sim CF_field_Row_Err_sim mixed_ok (fun f h => by cases h) Try.func98 (by kernel_rfl) hc
  obtain ⟨u0, e0, hk⟩ := exI_v hk; cases e0
  exact ⟨_, h', hk, hs⟩
/-! F97 (*duffel/field.Row).number -/
def CF_field_Row_number (F_field_Row_Err : Option Addr → GH → (Int → GH → Option β) → Option β) : Orc β := fun f args h K => bif Nat.beq f 98 then (match args with | [.pointer p1] => F_field_Row_Err p1 h (fun q5 h' => K (Value.int .i64 q5) h') | _ => none) else none
def HF_field_Row_number : Hints := ⟨[(3, [0, 1, 11, 12], [(0, [(0, .ty 130)])], none)], [], []⟩
noncomputable def BF_field_Row_number : Code := match Try.f97.body with | some c => c | none => .skip
noncomputable def F_field_Row_number_l0 (F_field_Row_Err : Option Addr → GH → (Int → GH → Option β) → Option β) (R : Nat) (n : Nat) (y6 : Option Addr) (y7 : Int) (y8 : Int) (y9 : Int) (h : GH) (K0 : Option Addr → GH → Option β) : Option β := gloop (gcode Try.prog (CF_field_Row_number F_field_Row_Err) Try.f97.ntmps HF_field_Row_number R (at_ [true, false, true, false, true, false, false] BF_field_Row_number)) [0, 1, 11, 12] n [(0, Value.pointer y6), (1, Value.int .u32 y7), (11, Value.int .i64 y8), (12, Value.int .i64 y9)] h (fun i e' h' => bif Nat.beq i 0 then (exP (some (e'.get 0)) fun u24 => K0 u24 h') else none) (fun e' h' => none)
set_option maxRecDepth 100000 in
theorem F_field_Row_number_l0_succ (F_field_Row_Err : Option Addr → GH → (Int → GH → Option β) → Option β) (R : Nat) (n : Nat) (y6 : Option Addr) (y7 : Int) (y8 : Int) (y9 : Int) (h : GH) (K0 : Option Addr → GH → Option β) : F_field_Row_number_l0 F_field_Row_Err R (n + 1) y6 y7 y8 y9 h K0 =
    (bif decide (y9 < y8) then exA y6 fun g11 o12 => exS (h.cell ⟨g11, o12 + 0, none⟩) fun x13 => (bif decide ((IntKind.wrap .i64 (8 * y9)) < 0) then none else gnew [Value.int .u8 (IntKind.wrap .u8 (shrI .u32 y7 (IntKind.wrap .i64 (8 * y9))))] 1 h fun g14 h15 => gappS 1 1 x13 ⟨(some ⟨g14, 0, none⟩), 1, 1⟩ h15 fun s16 h17 => exA y6 fun g18 o19 => gput g18 (o19 + 0) [Value.slice s16.a s16.n s16.c] h17 fun h20 => F_field_Row_number_l0 F_field_Row_Err R n y6 y7 y8 (IntKind.wrap .i64 (y9 + 1)) h20 K0) else K0 y6 h) := by kernel_rfl
noncomputable def G_field_Row_number (F_field_Row_Err : Option Addr → GH → (Int → GH → Option β) → Option β) (R : Nat) (a1 : Option Addr) (a2 : Int) (a3 : Int) (h : GH) (K : Option Addr → GH → Option β) : Option β := gfun Try.prog (CF_field_Row_number F_field_Row_Err) HF_field_Row_number R Try.f97 [Value.pointer a1, Value.int .u32 a2, Value.int .i64 a3] h (fun v h' => exP (some v) fun u25 => K u25 h')
set_option maxRecDepth 100000 in
theorem F_field_Row_number_gen (F_field_Row_Err : Option Addr → GH → (Int → GH → Option β) → Option β) (R : Nat) (a1 : Option Addr) (a2 : Int) (a3 : Int) (h : GH) (K : Option Addr → GH → Option β) : G_field_Row_number F_field_Row_Err R a1 a2 a3 h K =
    F_field_Row_Err a1 h fun r4 h5 => (bif r4 == 0 then F_field_Row_number_l0 F_field_Row_Err R R a1 a2 a3 0 h5 (fun w21 h22 => K w21 h22) else K a1 h5) := by kernel_rfl
noncomputable def F_field_Row_number (R : Nat) (a1 : Option Addr) (a2 : Int) (a3 : Int) (h : GH) (K : Option Addr → GH → Option β) : Option β := G_field_Row_number (F_field_Row_Err R) R a1 a2 a3 h K
set_option maxRecDepth 100000 in
theorem CF_field_Row_number_sim {R : Nat} : SimOrc Try.prog (CF_field_Row_number (F_field_Row_Err R) (β := β)) := by
  intro f args h K r hc
  unfold CF_field_Row_number at hc
  cases hb : Nat.beq f 98 with
  | true =>
    rw [hb] at hc
    simp only [cond_true] at hc
    obtain rfl := Nat.eq_of_beq_eq_true hb
    split at hc
    · exact any_call (F_field_Row_Err_sim (K := K) hc)
    · cases hc
  | false =>
  rw [hb] at hc
  simp only [cond_false] at hc
  cases hc
set_option maxRecDepth 100000 in
theorem F_field_Row_number_sim {R : Nat} {r : β} {a1 : Option Addr} {a2 : Int} {a3 : Int} {h : GH} {K : Value → GH → Option β} (hc : F_field_Row_number R a1 a2 a3 h (fun q0 h' => K (Value.pointer q0) h') = some r) : ∃ v h', K v h' = some r ∧ CallSim Try.prog 97 [Value.pointer a1, Value.int .u32 a2, Value.int .i64 a3] h v h' := by
  unfold F_field_Row_number G_field_Row_number at hc
  obtain ⟨v, h', hk, hs⟩ := gfun_sim (CF_field_Row_number_sim (R := R)) mixed_ok (fun f h => by cases h) Try.func97 (by kernel_rfl) hc
  obtain ⟨u0, e0, hk⟩ := exP_v hk; cases e0
  exact ⟨_, h', hk, hs⟩
/-! F74 (*duffel/field.Row).U32 -/
def CF_field_Row_U32 (F_field_Row_number : Option Addr → Int → Int → GH → (Option Addr → GH → Option β) → Option β) : Orc β := fun f args h K => bif Nat.beq f 97 then (match args with | [.pointer p1, .int .u32 p2, .int .i64 p3] => F_field_Row_number p1 p2 p3 h (fun q23 h' => K (Value.pointer q23) h') | _ => none) else none
def HF_field_Row_U32 : Hints := ⟨[], [], []⟩
noncomputable def G_field_Row_U32 (F_field_Row_number : Option Addr → Int → Int → GH → (Option Addr → GH → Option β) → Option β) (R : Nat) (a1 : Option Addr) (a2 : Int) (h : GH) (K : Option Addr → GH → Option β) : Option β := gfun Try.prog (CF_field_Row_U32 F_field_Row_number) HF_field_Row_U32 R Try.f74 [Value.pointer a1, Value.int .u32 a2] h (fun v h' => exP (some v) fun u6 => K u6 h')
set_option maxRecDepth 100000 in
theorem F_field_Row_U32_gen (F_field_Row_number : Option Addr → Int → Int → GH → (Option Addr → GH → Option β) → Option β) (R : Nat) (a1 : Option Addr) (a2 : Int) (h : GH) (K : Option Addr → GH → Option β) : G_field_Row_U32 F_field_Row_number R a1 a2 h K =
    F_field_Row_number a1 a2 4 h fun r3 h4 => K r3 h4 := by kernel_rfl
noncomputable def F_field_Row_U32 (R : Nat) (a1 : Option Addr) (a2 : Int) (h : GH) (K : Option Addr → GH → Option β) : Option β := G_field_Row_U32 (F_field_Row_number R) R a1 a2 h K
set_option maxRecDepth 100000 in
theorem CF_field_Row_U32_sim {R : Nat} : SimOrc Try.prog (CF_field_Row_U32 (F_field_Row_number R) (β := β)) := by
  intro f args h K r hc
  unfold CF_field_Row_U32 at hc
  cases hb : Nat.beq f 97 with
  | true =>
    rw [hb] at hc
    simp only [cond_true] at hc
    obtain rfl := Nat.eq_of_beq_eq_true hb
    split at hc
    · exact any_call (F_field_Row_number_sim (K := K) hc)
    · cases hc
  | false =>
  rw [hb] at hc
  simp only [cond_false] at hc
  cases hc
set_option maxRecDepth 100000 in
theorem F_field_Row_U32_sim {R : Nat} {r : β} {a1 : Option Addr} {a2 : Int} {h : GH} {K : Value → GH → Option β} (hc : F_field_Row_U32 R a1 a2 h (fun q0 h' => K (Value.pointer q0) h') = some r) : ∃ v h', K v h' = some r ∧ CallSim Try.prog 74 [Value.pointer a1, Value.int .u32 a2] h v h' := by
  unfold F_field_Row_U32 G_field_Row_U32 at hc
  obtain ⟨v, h', hk, hs⟩ := gfun_sim (CF_field_Row_U32_sim (R := R)) mixed_ok (fun f h => by cases h) Try.func74 (by kernel_rfl) hc
  obtain ⟨u0, e0, hk⟩ := exP_v hk; cases e0
  exact ⟨_, h', hk, hs⟩
/-! F78 (*duffel/field.Row).U16 -/
def CF_field_Row_U16 (F_field_Row_Err : Option Addr → GH → (Int → GH → Option β) → Option β) (F_field_Row_number : Option Addr → Int → Int → GH → (Option Addr → GH → Option β) → Option β) : Orc β := fun f args h K => bif Nat.beq f 98 then (match args with | [.pointer p1] => F_field_Row_Err p1 h (fun q5 h' => K (Value.int .i64 q5) h') | _ => none) else (bif Nat.beq f 97 then (match args with | [.pointer p1, .int .u32 p2, .int .i64 p3] => F_field_Row_number p1 p2 p3 h (fun q23 h' => K (Value.pointer q23) h') | _ => none) else none)
def HF_field_Row_U16 : Hints := ⟨[], [], []⟩
noncomputable def G_field_Row_U16 (F_field_Row_Err : Option Addr → GH → (Int → GH → Option β) → Option β) (F_field_Row_number : Option Addr → Int → Int → GH → (Option Addr → GH → Option β) → Option β) (R : Nat) (a1 : Option Addr) (a2 : Int) (h : GH) (K : Option Addr → GH → Option β) : Option β := gfun Try.prog (CF_field_Row_U16 F_field_Row_Err F_field_Row_number) HF_field_Row_U16 R Try.f78 [Value.pointer a1, Value.int .i64 a2] h (fun v h' => exP (some v) fun u20 => K u20 h')
set_option maxRecDepth 100000 in
theorem F_field_Row_U16_gen (F_field_Row_Err : Option Addr → GH → (Int → GH → Option β) → Option β) (F_field_Row_number : Option Addr → Int → Int → GH → (Option Addr → GH → Option β) → Option β) (R : Nat) (a1 : Option Addr) (a2 : Int) (h : GH) (K : Option Addr → GH → Option β) : G_field_Row_U16 F_field_Row_Err F_field_Row_number R a1 a2 h K =
    F_field_Row_Err a1 h fun r3 h4 => (bif r3 == 0 then (bif decide (a2 < 0) then exA a1 fun g5 o6 => gput g5 (o6 + 1) [Value.int .i64 18] h4 fun h7 => F_field_Row_number a1 (IntKind.wrap .u32 a2) 2 h7 fun r8 h9 => K r8 h9 else (bif decide (a2 > 65535) then exA a1 fun g10 o11 => gput g10 (o11 + 1) [Value.int .i64 18] h4 fun h12 => F_field_Row_number a1 (IntKind.wrap .u32 a2) 2 h12 fun r13 h14 => K r13 h14 else F_field_Row_number a1 (IntKind.wrap .u32 a2) 2 h4 fun r15 h16 => K r15 h16)) else F_field_Row_number a1 (IntKind.wrap .u32 a2) 2 h4 fun r17 h18 => K r17 h18) := by kernel_rfl
noncomputable def F_field_Row_U16 (R : Nat) (a1 : Option Addr) (a2 : Int) (h : GH) (K : Option Addr → GH → Option β) : Option β := G_field_Row_U16 (F_field_Row_Err R) (F_field_Row_number R) R a1 a2 h K
set_option maxRecDepth 100000 in
theorem CF_field_Row_U16_sim {R : Nat} : SimOrc Try.prog (CF_field_Row_U16 (F_field_Row_Err R) (F_field_Row_number R) (β := β)) := by
  intro f args h K r hc
  unfold CF_field_Row_U16 at hc
  cases hb : Nat.beq f 98 with
  | true =>
    rw [hb] at hc
    simp only [cond_true] at hc
    obtain rfl := Nat.eq_of_beq_eq_true hb
    split at hc
    · exact any_call (F_field_Row_Err_sim (K := K) hc)
    · cases hc
  | false =>
  rw [hb] at hc
  simp only [cond_false] at hc
  cases hb : Nat.beq f 97 with
  | true =>
    rw [hb] at hc
    simp only [cond_true] at hc
    obtain rfl := Nat.eq_of_beq_eq_true hb
    split at hc
    · exact any_call (F_field_Row_number_sim (K := K) hc)
    · cases hc
  | false =>
  rw [hb] at hc
  simp only [cond_false] at hc
  cases hc
set_option maxRecDepth 100000 in
theorem F_field_Row_U16_sim {R : Nat} {r : β} {a1 : Option Addr} {a2 : Int} {h : GH} {K : Value → GH → Option β} (hc : F_field_Row_U16 R a1 a2 h (fun q0 h' => K (Value.pointer q0) h') = some r) : ∃ v h', K v h' = some r ∧ CallSim Try.prog 78 [Value.pointer a1, Value.int .i64 a2] h v h' := by
  unfold F_field_Row_U16 G_field_Row_U16 at hc
  obtain ⟨v, h', hk, hs⟩ := gfun_sim (CF_field_Row_U16_sim (R := R)) mixed_ok (fun f h => by cases h) Try.func78 (by kernel_rfl) hc
  obtain ⟨u0, e0, hk⟩ := exP_v hk; cases e0
  exact ⟨_, h', hk, hs⟩
/-! F75 duffel/record.common -/
def CF_record_common (F_field_Row_U16 : Option Addr → Int → GH → (Option Addr → GH → Option β) → Option β) (F_field_Row_U32 : Option Addr → Int → GH → (Option Addr → GH → Option β) → Option β) : Orc β := fun f args h K => bif Nat.beq f 78 then (match args with | [.pointer p1, .int .i64 p2] => F_field_Row_U16 p1 p2 h (fun q19 h' => K (Value.pointer q19) h') | _ => none) else (bif Nat.beq f 74 then (match args with | [.pointer p1, .int .u32 p2] => F_field_Row_U32 p1 p2 h (fun q5 h' => K (Value.pointer q5) h') | _ => none) else none)
def HF_record_common : Hints := ⟨[], [], []⟩
noncomputable def G_record_common (F_field_Row_U16 : Option Addr → Int → GH → (Option Addr → GH → Option β) → Option β) (F_field_Row_U32 : Option Addr → Int → GH → (Option Addr → GH → Option β) → Option β) (R : Nat) (a1 : Option Addr) (a2 : Int) (a3 : Int) (a4 : Int) (a5 : Int) (a6 : Int) (a7 : Int) (a8 : Int) (a9 : Int) (a10 : Sl) (a11 : Sl) (h : GH) (K : GH → Option β) : Option β := gfun Try.prog (CF_record_common F_field_Row_U16 F_field_Row_U32) HF_record_common R Try.f75 [Value.pointer a1, Value.agg #[Value.int .i64 a2, Value.int .i64 a3, Value.int .i64 a4, Value.int .i64 a5, Value.int .i64 a6, Value.int .u32 a7, Value.int .u32 a8, Value.int .u32 a9, Value.slice a10.a a10.n a10.c, Value.slice a11.a a11.n a11.c]] h (fun _ h' => K h')
set_option maxRecDepth 100000 in
theorem F_record_common_gen (F_field_Row_U16 : Option Addr → Int → GH → (Option Addr → GH → Option β) → Option β) (F_field_Row_U32 : Option Addr → Int → GH → (Option Addr → GH → Option β) → Option β) (R : Nat) (a1 : Option Addr) (a2 : Int) (a3 : Int) (a4 : Int) (a5 : Int) (a6 : Int) (a7 : Int) (a8 : Int) (a9 : Int) (a10 : Sl) (a11 : Sl) (h : GH) (K : GH → Option β) : G_record_common F_field_Row_U16 F_field_Row_U32 R a1 a2 a3 a4 a5 a6 a7 a8 a9 a10 a11 h K =
    gnew [Value.int .i64 a2, Value.int .i64 a3, Value.int .i64 a4, Value.int .i64 a5, Value.int .i64 a6, Value.int .u32 a7, Value.int .u32 a8, Value.int .u32 a9, Value.slice a10.a a10.n a10.c, Value.slice a11.a a11.n a11.c] 0 h fun g12 h13 => exI .i64 (h13.cell ⟨g12, 0 + 0, none⟩) fun x14 => F_field_Row_U16 a1 x14 h13 fun r15 h16 => exI .i64 (h16.cell ⟨g12, 0 + 1, none⟩) fun x17 => F_field_Row_U16 r15 x17 h16 fun r18 h19 => exI .i64 (h19.cell ⟨g12, 0 + 2, none⟩) fun x20 => F_field_Row_U16 r18 x20 h19 fun r21 h22 => exI .i64 (h22.cell ⟨g12, 0 + 3, none⟩) fun x23 => F_field_Row_U16 r21 x23 h22 fun r24 h25 => exI .i64 (h25.cell ⟨g12, 0 + 4, none⟩) fun x26 => F_field_Row_U16 r24 x26 h25 fun r27 h28 => (bif sameAt g12 (0 + 4) 1 h22 h25 then (bif sameAt g12 (0 + 4) 1 h19 h22 then (bif sameAt g12 (0 + 4) 1 h16 h19 then (bif sameAt g12 (0 + 4) 1 h13 h16 then (bif sameAt g12 (0 + 3) 1 h19 h22 then (bif sameAt g12 (0 + 3) 1 h16 h19 then (bif sameAt g12 (0 + 3) 1 h13 h16 then (bif sameAt g12 (0 + 2) 1 h16 h19 then (bif sameAt g12 (0 + 2) 1 h13 h16 then (bif sameAt g12 (0 + 1) 1 h13 h16 then exI .u32 (h28.cell ⟨g12, 0 + 5, none⟩) fun x29 => F_field_Row_U32 a1 x29 h28 fun r30 h31 => exI .u32 (h31.cell ⟨g12, 0 + 6, none⟩) fun x32 => F_field_Row_U32 r30 x32 h31 fun r33 h34 => exI .u32 (h34.cell ⟨g12, 0 + 7, none⟩) fun x35 => F_field_Row_U32 r33 x35 h34 fun r36 h37 => (bif sameAt g12 (0 + 7) 1 h31 h34 then (bif sameAt g12 (0 + 7) 1 h28 h31 then (bif sameAt g12 (0 + 6) 1 h28 h31 then exS (h37.cell ⟨g12, 0 + 8, none⟩) fun x38 => F_field_Row_U16 a1 ((x38.n : Nat) : Int) h37 fun r39 h40 => exS (h40.cell ⟨g12, 0 + 9, none⟩) fun x41 => F_field_Row_U16 r39 ((x41.n : Nat) : Int) h40 fun r42 h43 => (bif sameAt g12 (0 + 9) 1 h37 h40 then K h43 else none) else none) else none) else none) else none) else none) else none) else none) else none) else none) else none) else none) else none) else none) := by kernel_rfl
noncomputable def F_record_common (R : Nat) (a1 : Option Addr) (a2 : Int) (a3 : Int) (a4 : Int) (a5 : Int) (a6 : Int) (a7 : Int) (a8 : Int) (a9 : Int) (a10 : Sl) (a11 : Sl) (h : GH) (K : GH → Option β) : Option β := G_record_common (F_field_Row_U16 R) (F_field_Row_U32 R) R a1 a2 a3 a4 a5 a6 a7 a8 a9 a10 a11 h K
set_option maxRecDepth 100000 in
theorem CF_record_common_sim {R : Nat} : SimOrc Try.prog (CF_record_common (F_field_Row_U16 R) (F_field_Row_U32 R) (β := β)) := by
  intro f args h K r hc
  unfold CF_record_common at hc
  cases hb : Nat.beq f 78 with
  | true =>
    rw [hb] at hc
    simp only [cond_true] at hc
    obtain rfl := Nat.eq_of_beq_eq_true hb
    split at hc
    · exact any_call (F_field_Row_U16_sim (K := K) hc)
    · cases hc
  | false =>
  rw [hb] at hc
  simp only [cond_false] at hc
  cases hb : Nat.beq f 74 with
  | true =>
    rw [hb] at hc
    simp only [cond_true] at hc
    obtain rfl := Nat.eq_of_beq_eq_true hb
    split at hc
    · exact any_call (F_field_Row_U32_sim (K := K) hc)
    · cases hc
  | false =>
  rw [hb] at hc
  simp only [cond_false] at hc
  cases hc
set_option maxRecDepth 100000 in
theorem F_record_common_sim {R : Nat} {r : β} {a1 : Option Addr} {a2 : Int} {a3 : Int} {a4 : Int} {a5 : Int} {a6 : Int} {a7 : Int} {a8 : Int} {a9 : Int} {a10 : Sl} {a11 : Sl} {h : GH} {K : Value → GH → Option β} (hc : F_record_common R a1 a2 a3 a4 a5 a6 a7 a8 a9 a10 a11 h (fun h' => K (Value.tuple #[]) h') = some r) : ∃ v h', K v h' = some r ∧ CallSim Try.prog 75 [Value.pointer a1, Value.agg #[Value.int .i64 a2, Value.int .i64 a3, Value.int .i64 a4, Value.int .i64 a5, Value.int .i64 a6, Value.int .u32 a7, Value.int .u32 a8, Value.int .u32 a9, Value.slice a10.a a10.n a10.c, Value.slice a11.a a11.n a11.c]] h v h' := by
  unfold F_record_common G_record_common at hc
  obtain ⟨v, h', hk, hs⟩ := gfun_sim (CF_record_common_sim (R := R)) mixed_ok (fun f h => by cases h) Try.func75 (by kernel_rfl) hc
  exact ⟨_, h', hk, hs.unit⟩
/-! F77 (*duffel/field.Row).Put -/
def CF_field_Row_Put (F_field_Row_Err : Option Addr → GH → (Int → GH → Option β) → Option β) : Orc β := fun f args h K => bif Nat.beq f 98 then (match args with | [.pointer p1] => F_field_Row_Err p1 h (fun q5 h' => K (Value.int .i64 q5) h') | _ => none) else none
def HF_field_Row_Put : Hints := ⟨[], [], []⟩
noncomputable def G_field_Row_Put (F_field_Row_Err : Option Addr → GH → (Int → GH → Option β) → Option β) (R : Nat) (a1 : Option Addr) (a2 : Sl) (h : GH) (K : Option Addr → GH → Option β) : Option β := gfun Try.prog (CF_field_Row_Put F_field_Row_Err) HF_field_Row_Put R Try.f77 [Value.pointer a1, Value.slice a2.a a2.n a2.c] h (fun v h' => exP (some v) fun u14 => K u14 h')
set_option maxRecDepth 100000 in
theorem F_field_Row_Put_gen (F_field_Row_Err : Option Addr → GH → (Int → GH → Option β) → Option β) (R : Nat) (a1 : Option Addr) (a2 : Sl) (h : GH) (K : Option Addr → GH → Option β) : G_field_Row_Put F_field_Row_Err R a1 a2 h K =
    F_field_Row_Err a1 h fun r3 h4 => (bif r3 == 0 then exA a1 fun g5 o6 => exS (h4.cell ⟨g5, o6 + 0, none⟩) fun x7 => gappS 1 1 x7 a2 h4 fun s8 h9 => exA a1 fun g10 o11 => gput g10 (o11 + 0) [Value.slice s8.a s8.n s8.c] h9 fun h12 => K a1 h12 else K a1 h4) := by kernel_rfl
noncomputable def F_field_Row_Put (R : Nat) (a1 : Option Addr) (a2 : Sl) (h : GH) (K : Option Addr → GH → Option β) : Option β := G_field_Row_Put (F_field_Row_Err R) R a1 a2 h K
set_option maxRecDepth 100000 in
theorem CF_field_Row_Put_sim {R : Nat} : SimOrc Try.prog (CF_field_Row_Put (F_field_Row_Err R) (β := β)) := by
  intro f args h K r hc
  unfold CF_field_Row_Put at hc
  cases hb : Nat.beq f 98 with
  | true =>
    rw [hb] at hc
    simp only [cond_true] at hc
    obtain rfl := Nat.eq_of_beq_eq_true hb
    split at hc
    · exact any_call (F_field_Row_Err_sim (K := K) hc)
    · cases hc
  | false =>
  rw [hb] at hc
  simp only [cond_false] at hc
  cases hc
set_option maxRecDepth 100000 in
theorem F_field_Row_Put_sim {R : Nat} {r : β} {a1 : Option Addr} {a2 : Sl} {h : GH} {K : Value → GH → Option β} (hc : F_field_Row_Put R a1 a2 h (fun q0 h' => K (Value.pointer q0) h') = some r) : ∃ v h', K v h' = some r ∧ CallSim Try.prog 77 [Value.pointer a1, Value.slice a2.a a2.n a2.c] h v h' := by
  unfold F_field_Row_Put G_field_Row_Put at hc
  obtain ⟨v, h', hk, hs⟩ := gfun_sim (CF_field_Row_Put_sim (R := R)) mixed_ok (fun f h => by cases h) Try.func77 (by kernel_rfl) hc
  obtain ⟨u0, e0, hk⟩ := exP_v hk; cases e0
  exact ⟨_, h', hk, hs⟩
/-! F99 (*duffel/field.Row).Bytes -/
def CF_field_Row_Bytes (F_field_Row_Err : Option Addr → GH → (Int → GH → Option β) → Option β) (F_bytes_Clone : Sl → GH → (Sl → GH → Option β) → Option β) : Orc β := fun f args h K => bif Nat.beq f 98 then (match args with | [.pointer p1] => F_field_Row_Err p1 h (fun q5 h' => K (Value.int .i64 q5) h') | _ => none) else (bif Nat.beq f 62 then (match args with | [.slice p1a p1n p1c] => F_bytes_Clone ⟨p1a, p1n, p1c⟩ h (fun q6 h' => K (Value.slice q6.a q6.n q6.c) h') | _ => none) else none)
def HF_field_Row_Bytes : Hints := ⟨[], [], []⟩
noncomputable def G_field_Row_Bytes (F_field_Row_Err : Option Addr → GH → (Int → GH → Option β) → Option β) (F_bytes_Clone : Sl → GH → (Sl → GH → Option β) → Option β) (R : Nat) (a1 : Option Addr) (h : GH) (K : Sl → GH → Option β) : Option β := gfun Try.prog (CF_field_Row_Bytes F_field_Row_Err F_bytes_Clone) HF_field_Row_Bytes R Try.f99 [Value.pointer a1] h (fun v h' => exS (some v) fun u10 => K u10 h')
set_option maxRecDepth 100000 in
theorem F_field_Row_Bytes_gen (F_field_Row_Err : Option Addr → GH → (Int → GH → Option β) → Option β) (F_bytes_Clone : Sl → GH → (Sl → GH → Option β) → Option β) (R : Nat) (a1 : Option Addr) (h : GH) (K : Sl → GH → Option β) : G_field_Row_Bytes F_field_Row_Err F_bytes_Clone R a1 h K =
    F_field_Row_Err a1 h fun r2 h3 => (bif r2 != 0 then K ⟨none, 0, 0⟩ h3 else exA a1 fun g4 o5 => exS (h3.cell ⟨g4, o5 + 0, none⟩) fun x6 => F_bytes_Clone x6 h3 fun r7 h8 => K r7 h8) := by kernel_rfl
noncomputable def F_field_Row_Bytes (R : Nat) (a1 : Option Addr) (h : GH) (K : Sl → GH → Option β) : Option β := G_field_Row_Bytes (F_field_Row_Err R) (F_bytes_Clone R) R a1 h K
set_option maxRecDepth 100000 in
theorem CF_field_Row_Bytes_sim {R : Nat} : SimOrc Try.prog (CF_field_Row_Bytes (F_field_Row_Err R) (F_bytes_Clone R) (β := β)) := by
  intro f args h K r hc
  unfold CF_field_Row_Bytes at hc
  cases hb : Nat.beq f 98 with
  | true =>
    rw [hb] at hc
    simp only [cond_true] at hc
    obtain rfl := Nat.eq_of_beq_eq_true hb
    split at hc
    · exact any_call (F_field_Row_Err_sim (K := K) hc)
    · cases hc
  | false =>
  rw [hb] at hc
  simp only [cond_false] at hc
  cases hb : Nat.beq f 62 with
  | true =>
    rw [hb] at hc
    simp only [cond_true] at hc
    obtain rfl := Nat.eq_of_beq_eq_true hb
    split at hc
    · exact any_call (F_bytes_Clone_sim (K := K) hc)
    · cases hc
  | false =>
  rw [hb] at hc
  simp only [cond_false] at hc
  cases hc
set_option maxRecDepth 100000 in
theorem F_field_Row_Bytes_sim {R : Nat} {r : β} {a1 : Option Addr} {h : GH} {K : Value → GH → Option β} (hc : F_field_Row_Bytes R a1 h (fun q0 h' => K (Value.slice q0.a q0.n q0.c) h') = some r) : ∃ v h', K v h' = some r ∧ CallSim Try.prog 99 [Value.pointer a1] h v h' := by
  unfold F_field_Row_Bytes G_field_Row_Bytes at hc
  obtain ⟨v, h', hk, hs⟩ := gfun_sim (CF_field_Row_Bytes_sim (R := R)) mixed_ok (fun f h => by cases h) Try.func99 (by kernel_rfl) hc
  obtain ⟨u0, e0, hk⟩ := exS_v hk; cases e0
  exact ⟨_, h', hk, hs⟩
/-! F76 duffel/record.done -/
def CF_record_done (F_field_Row_Err : Option Addr → GH → (Int → GH → Option β) → Option β) (F_field_Row_Bytes : Option Addr → GH → (Sl → GH → Option β) → Option β) : Orc β := fun f args h K => bif Nat.beq f 98 then (match args with | [.pointer p1] => F_field_Row_Err p1 h (fun q5 h' => K (Value.int .i64 q5) h') | _ => none) else (bif Nat.beq f 99 then (match args with | [.pointer p1] => F_field_Row_Bytes p1 h (fun q9 h' => K (Value.slice q9.a q9.n q9.c) h') | _ => none) else none)
def HF_record_done : Hints := ⟨[], [], []⟩
noncomputable def G_record_done (F_field_Row_Err : Option Addr → GH → (Int → GH → Option β) → Option β) (F_field_Row_Bytes : Option Addr → GH → (Sl → GH → Option β) → Option β) (R : Nat) (a1 : Option Addr) (h : GH) (K : Sl → Int → GH → Option β) : Option β := gfun Try.prog (CF_record_done F_field_Row_Err F_field_Row_Bytes) HF_record_done R Try.f76 [Value.pointer a1] h (fun v h' => exTup 2 v fun vs => exV (nth vs 0) fun v0 => exS (some v0) fun u8 => exV (nth vs 1) fun v1 => exI .i64 (some v1) fun u9 => K u8 u9 h')
set_option maxRecDepth 100000 in
theorem F_record_done_gen (F_field_Row_Err : Option Addr → GH → (Int → GH → Option β) → Option β) (F_field_Row_Bytes : Option Addr → GH → (Sl → GH → Option β) → Option β) (R : Nat) (a1 : Option Addr) (h : GH) (K : Sl → Int → GH → Option β) : G_record_done F_field_Row_Err F_field_Row_Bytes R a1 h K =
    F_field_Row_Err a1 h fun r2 h3 => (bif r2 != 0 then K ⟨none, 0, 0⟩ r2 h3 else F_field_Row_Bytes a1 h3 fun r4 h5 => K r4 0 h5) := by kernel_rfl
noncomputable def F_record_done (R : Nat) (a1 : Option Addr) (h : GH) (K : Sl → Int → GH → Option β) : Option β := G_record_done (F_field_Row_Err R) (F_field_Row_Bytes R) R a1 h K
set_option maxRecDepth 100000 in
theorem CF_record_done_sim {R : Nat} : SimOrc Try.prog (CF_record_done (F_field_Row_Err R) (F_field_Row_Bytes R) (β := β)) := by
  intro f args h K r hc
  unfold CF_record_done at hc
  cases hb : Nat.beq f 98 with
  | true =>
    rw [hb] at hc
    simp only [cond_true] at hc
    obtain rfl := Nat.eq_of_beq_eq_true hb
    split at hc
    · exact any_call (F_field_Row_Err_sim (K := K) hc)
    · cases hc
  | false =>
  rw [hb] at hc
  simp only [cond_false] at hc
  cases hb : Nat.beq f 99 with
  | true =>
    rw [hb] at hc
    simp only [cond_true] at hc
    obtain rfl := Nat.eq_of_beq_eq_true hb
    split at hc
    · exact any_call (F_field_Row_Bytes_sim (K := K) hc)
    · cases hc
  | false =>
  rw [hb] at hc
  simp only [cond_false] at hc
  cases hc
set_option maxRecDepth 100000 in
theorem F_record_done_sim {R : Nat} {r : β} {a1 : Option Addr} {h : GH} {K : Value → GH → Option β} (hc : F_record_done R a1 h (fun q0 q1 h' => K (Value.tuple #[Value.slice q0.a q0.n q0.c, Value.int .i64 q1]) h') = some r) : ∃ v h', K v h' = some r ∧ CallSim Try.prog 76 [Value.pointer a1] h v h' := by
  unfold F_record_done G_record_done at hc
  obtain ⟨v, h', hk, hs⟩ := gfun_sim (CF_record_done_sim (R := R)) mixed_ok (fun f h => by cases h) Try.func76 (by kernel_rfl) hc
  obtain ⟨vs, rfl, hl, hk⟩ := exTup_v hk
  obtain ⟨v0, t0, hk⟩ := exV_v hk
  obtain ⟨u0, e0, hk⟩ := exS_v hk; cases e0
  obtain ⟨v1, t1, hk⟩ := exV_v hk
  obtain ⟨u1, e1, hk⟩ := exI_v hk; cases e1
  obtain rfl := arr2 hl t0 t1
  exact ⟨_, h', hk, hs⟩
/-! F45 duffel/record.WriteLocal -/
def CF_record_WriteLocal (F_field_New : GH → (Option Addr → GH → Option β) → Option β) (F_field_Row_U32 : Option Addr → Int → GH → (Option Addr → GH → Option β) → Option β) (F_record_common : Option Addr → Int → Int → Int → Int → Int → Int → Int → Int → Sl → Sl → GH → (GH → Option β) → Option β) (F_field_Row_Put : Option Addr → Sl → GH → (Option Addr → GH → Option β) → Option β) (F_record_done : Option Addr → GH → (Sl → Int → GH → Option β) → Option β) : Orc β := fun f args h K => bif Nat.beq f 73 then (match args with | [] => F_field_New  h (fun q3 h' => K (Value.pointer q3) h') | _ => none) else (bif Nat.beq f 74 then (match args with | [.pointer p1, .int .u32 p2] => F_field_Row_U32 p1 p2 h (fun q5 h' => K (Value.pointer q5) h') | _ => none) else (bif Nat.beq f 75 then (match args with | [.pointer p1, .agg ⟨[.int .i64 p2, .int .i64 p3, .int .i64 p4, .int .i64 p5, .int .i64 p6, .int .u32 p7, .int .u32 p8, .int .u32 p9, .slice p10a p10n p10c, .slice p11a p11n p11c]⟩] => F_record_common p1 p2 p3 p4 p5 p6 p7 p8 p9 ⟨p10a, p10n, p10c⟩ ⟨p11a, p11n, p11c⟩ h (fun h' => K (Value.tuple #[]) h') | _ => none) else (bif Nat.beq f 77 then (match args with | [.pointer p1, .slice p2a p2n p2c] => F_field_Row_Put p1 ⟨p2a, p2n, p2c⟩ h (fun q13 h' => K (Value.pointer q13) h') | _ => none) else (bif Nat.beq f 76 then (match args with | [.pointer p1] => F_record_done p1 h (fun q6 q7 h' => K (Value.tuple #[Value.slice q6.a q6.n q6.c, Value.int .i64 q7]) h') | _ => none) else none))))
def HF_record_WriteLocal : Hints := ⟨[], [], []⟩
noncomputable def G_record_WriteLocal (F_field_New : GH → (Option Addr → GH → Option β) → Option β) (F_field_Row_U32 : Option Addr → Int → GH → (Option Addr → GH → Option β) → Option β) (F_record_common : Option Addr → Int → Int → Int → Int → Int → Int → Int → Int → Sl → Sl → GH → (GH → Option β) → Option β) (F_field_Row_Put : Option Addr → Sl → GH → (Option Addr → GH → Option β) → Option β) (F_record_done : Option Addr → GH → (Sl → Int → GH → Option β) → Option β) (R : Nat) (a1 : Int) (a2 : Int) (a3 : Int) (a4 : Int) (a5 : Int) (a6 : Int) (a7 : Int) (a8 : Int) (a9 : Sl) (a10 : Sl) (h : GH) (K : Sl → Int → GH → Option β) : Option β := gfun Try.prog (CF_record_WriteLocal F_field_New F_field_Row_U32 F_record_common F_field_Row_Put F_record_done) HF_record_WriteLocal R Try.f45 [Value.agg #[Value.int .i64 a1, Value.int .i64 a2, Value.int .i64 a3, Value.int .i64 a4, Value.int .i64 a5, Value.int .u32 a6, Value.int .u32 a7, Value.int .u32 a8, Value.slice a9.a a9.n a9.c, Value.slice a10.a a10.n a10.c]] h (fun v h' => exTup 2 v fun vs => exV (nth vs 0) fun v0 => exS (some v0) fun u39 => exV (nth vs 1) fun v1 => exI .i64 (some v1) fun u40 => K u39 u40 h')
set_option maxRecDepth 100000 in
theorem F_record_WriteLocal_gen (F_field_New : GH → (Option Addr → GH → Option β) → Option β) (F_field_Row_U32 : Option Addr → Int → GH → (Option Addr → GH → Option β) → Option β) (F_record_common : Option Addr → Int → Int → Int → Int → Int → Int → Int → Int → Sl → Sl → GH → (GH → Option β) → Option β) (F_field_Row_Put : Option Addr → Sl → GH → (Option Addr → GH → Option β) → Option β) (F_record_done : Option Addr → GH → (Sl → Int → GH → Option β) → Option β) (R : Nat) (a1 : Int) (a2 : Int) (a3 : Int) (a4 : Int) (a5 : Int) (a6 : Int) (a7 : Int) (a8 : Int) (a9 : Sl) (a10 : Sl) (h : GH) (K : Sl → Int → GH → Option β) : G_record_WriteLocal F_field_New F_field_Row_U32 F_record_common F_field_Row_Put F_record_done R a1 a2 a3 a4 a5 a6 a7 a8 a9 a10 h K =
    gnew [Value.int .i64 a1, Value.int .i64 a2, Value.int .i64 a3, Value.int .i64 a4, Value.int .i64 a5, Value.int .u32 a6, Value.int .u32 a7, Value.int .u32 a8, Value.slice a9.a a9.n a9.c, Value.slice a10.a a10.n a10.c] 0 h fun g11 h12 => F_field_New h12 fun r13 h14 => F_field_Row_U32 r13 67324752 h14 fun r15 h16 => exI .i64 (h16.cell ⟨g11, 0, none⟩) fun x17 => exI .i64 (h16.cell ⟨g11, 0 + 1, none⟩) fun x18 => exI .i64 (h16.cell ⟨g11, 0 + 1 + 1, none⟩) fun x19 => exI .i64 (h16.cell ⟨g11, 0 + 1 + 1 + 1, none⟩) fun x20 => exI .i64 (h16.cell ⟨g11, 0 + 1 + 1 + 1 + 1, none⟩) fun x21 => exI .u32 (h16.cell ⟨g11, 0 + 1 + 1 + 1 + 1 + 1, none⟩) fun x22 => exI .u32 (h16.cell ⟨g11, 0 + 1 + 1 + 1 + 1 + 1 + 1, none⟩) fun x23 => exI .u32 (h16.cell ⟨g11, 0 + 1 + 1 + 1 + 1 + 1 + 1 + 1, none⟩) fun x24 => exS (h16.cell ⟨g11, 0 + 1 + 1 + 1 + 1 + 1 + 1 + 1 + 1, none⟩) fun x25 => exS (h16.cell ⟨g11, 0 + 1 + 1 + 1 + 1 + 1 + 1 + 1 + 1 + 1, none⟩) fun x26 => F_record_common r15 x17 x18 x19 x20 x21 x22 x23 x24 x25 x26 h16 fun h27 => exS (h27.cell ⟨g11, 0 + 8, none⟩) fun x28 => F_field_Row_Put r15 x28 h27 fun r29 h30 => exS (h30.cell ⟨g11, 0 + 9, none⟩) fun x31 => F_field_Row_Put r29 x31 h30 fun r32 h33 => F_record_done r32 h33 fun r34 r35 h36 => (bif sameAt g11 (0 + 9) 1 h27 h30 then K r34 r35 h36 else none) := by kernel_rfl
noncomputable def F_record_WriteLocal (R : Nat) (a1 : Int) (a2 : Int) (a3 : Int) (a4 : Int) (a5 : Int) (a6 : Int) (a7 : Int) (a8 : Int) (a9 : Sl) (a10 : Sl) (h : GH) (K : Sl → Int → GH → Option β) : Option β := G_record_WriteLocal (F_field_New R) (F_field_Row_U32 R) (F_record_common R) (F_field_Row_Put R) (F_record_done R) R a1 a2 a3 a4 a5 a6 a7 a8 a9 a10 h K
set_option maxRecDepth 100000 in
theorem CF_record_WriteLocal_sim {R : Nat} : SimOrc Try.prog (CF_record_WriteLocal (F_field_New R) (F_field_Row_U32 R) (F_record_common R) (F_field_Row_Put R) (F_record_done R) (β := β)) := by
  intro f args h K r hc
  unfold CF_record_WriteLocal at hc
  cases hb : Nat.beq f 73 with
  | true =>
    rw [hb] at hc
    simp only [cond_true] at hc
    obtain rfl := Nat.eq_of_beq_eq_true hb
    split at hc
    · exact any_call (F_field_New_sim (K := K) hc)
    · cases hc
  | false =>
  rw [hb] at hc
  simp only [cond_false] at hc
  cases hb : Nat.beq f 74 with
  | true =>
    rw [hb] at hc
    simp only [cond_true] at hc
    obtain rfl := Nat.eq_of_beq_eq_true hb
    split at hc
    · exact any_call (F_field_Row_U32_sim (K := K) hc)
    · cases hc
  | false =>
  rw [hb] at hc
  simp only [cond_false] at hc
  cases hb : Nat.beq f 75 with
  | true =>
    rw [hb] at hc
    simp only [cond_true] at hc
    obtain rfl := Nat.eq_of_beq_eq_true hb
    split at hc
    · exact any_call (F_record_common_sim (K := K) hc)
    · cases hc
  | false =>
  rw [hb] at hc
  simp only [cond_false] at hc
  cases hb : Nat.beq f 77 with
  | true =>
    rw [hb] at hc
    simp only [cond_true] at hc
    obtain rfl := Nat.eq_of_beq_eq_true hb
    split at hc
    · exact any_call (F_field_Row_Put_sim (K := K) hc)
    · cases hc
  | false =>
  rw [hb] at hc
  simp only [cond_false] at hc
  cases hb : Nat.beq f 76 with
  | true =>
    rw [hb] at hc
    simp only [cond_true] at hc
    obtain rfl := Nat.eq_of_beq_eq_true hb
    split at hc
    · exact any_call (F_record_done_sim (K := K) hc)
    · cases hc
  | false =>
  rw [hb] at hc
  simp only [cond_false] at hc
  cases hc
set_option maxRecDepth 100000 in
theorem F_record_WriteLocal_sim {R : Nat} {r : β} {a1 : Int} {a2 : Int} {a3 : Int} {a4 : Int} {a5 : Int} {a6 : Int} {a7 : Int} {a8 : Int} {a9 : Sl} {a10 : Sl} {h : GH} {K : Value → GH → Option β} (hc : F_record_WriteLocal R a1 a2 a3 a4 a5 a6 a7 a8 a9 a10 h (fun q0 q1 h' => K (Value.tuple #[Value.slice q0.a q0.n q0.c, Value.int .i64 q1]) h') = some r) : ∃ v h', K v h' = some r ∧ CallSim Try.prog 45 [Value.agg #[Value.int .i64 a1, Value.int .i64 a2, Value.int .i64 a3, Value.int .i64 a4, Value.int .i64 a5, Value.int .u32 a6, Value.int .u32 a7, Value.int .u32 a8, Value.slice a9.a a9.n a9.c, Value.slice a10.a a10.n a10.c]] h v h' := by
  unfold F_record_WriteLocal G_record_WriteLocal at hc
  obtain ⟨v, h', hk, hs⟩ := gfun_sim (CF_record_WriteLocal_sim (R := R)) mixed_ok (fun f h => by cases h) Try.func45 (by kernel_rfl) hc
  obtain ⟨vs, rfl, hl, hk⟩ := exTup_v hk
  obtain ⟨v0, t0, hk⟩ := exV_v hk
  obtain ⟨u0, e0, hk⟩ := exS_v hk; cases e0
  obtain ⟨v1, t1, hk⟩ := exV_v hk
  obtain ⟨u1, e1, hk⟩ := exI_v hk; cases e1
  obtain rfl := arr2 hl t0 t1
  exact ⟨_, h', hk, hs⟩
/-! F46 duffel/record.WriteCentral -/
def CF_record_WriteCentral (F_field_New : GH → (Option Addr → GH → Option β) → Option β) (F_field_Row_U32 : Option Addr → Int → GH → (Option Addr → GH → Option β) → Option β) (F_field_Row_U16 : Option Addr → Int → GH → (Option Addr → GH → Option β) → Option β) (F_record_common : Option Addr → Int → Int → Int → Int → Int → Int → Int → Int → Sl → Sl → GH → (GH → Option β) → Option β) (F_field_Row_Put : Option Addr → Sl → GH → (Option Addr → GH → Option β) → Option β) (F_record_done : Option Addr → GH → (Sl → Int → GH → Option β) → Option β) : Orc β := fun f args h K => bif Nat.beq f 73 then (match args with | [] => F_field_New  h (fun q3 h' => K (Value.pointer q3) h') | _ => none) else (bif Nat.beq f 74 then (match args with | [.pointer p1, .int .u32 p2] => F_field_Row_U32 p1 p2 h (fun q5 h' => K (Value.pointer q5) h') | _ => none) else (bif Nat.beq f 78 then (match args with | [.pointer p1, .int .i64 p2] => F_field_Row_U16 p1 p2 h (fun q19 h' => K (Value.pointer q19) h') | _ => none) else (bif Nat.beq f 75 then (match args with | [.pointer p1, .agg ⟨[.int .i64 p2, .int .i64 p3, .int .i64 p4, .int .i64 p5, .int .i64 p6, .int .u32 p7, .int .u32 p8, .int .u32 p9, .slice p10a p10n p10c, .slice p11a p11n p11c]⟩] => F_record_common p1 p2 p3 p4 p5 p6 p7 p8 p9 ⟨p10a, p10n, p10c⟩ ⟨p11a, p11n, p11c⟩ h (fun h' => K (Value.tuple #[]) h') | _ => none) else (bif Nat.beq f 77 then (match args with | [.pointer p1, .slice p2a p2n p2c] => F_field_Row_Put p1 ⟨p2a, p2n, p2c⟩ h (fun q13 h' => K (Value.pointer q13) h') | _ => none) else (bif Nat.beq f 76 then (match args with | [.pointer p1] => F_record_done p1 h (fun q6 q7 h' => K (Value.tuple #[Value.slice q6.a q6.n q6.c, Value.int .i64 q7]) h') | _ => none) else none)))))
def HF_record_WriteCentral : Hints := ⟨[], [], []⟩
noncomputable def G_record_WriteCentral (F_field_New : GH → (Option Addr → GH → Option β) → Option β) (F_field_Row_U32 : Option Addr → Int → GH → (Option Addr → GH → Option β) → Option β) (F_field_Row_U16 : Option Addr → Int → GH → (Option Addr → GH → Option β) → Option β) (F_record_common : Option Addr → Int → Int → Int → Int → Int → Int → Int → Int → Sl → Sl → GH → (GH → Option β) → Option β) (F_field_Row_Put : Option Addr → Sl → GH → (Option Addr → GH → Option β) → Option β) (F_record_done : Option Addr → GH → (Sl → Int → GH → Option β) → Option β) (R : Nat) (a1 : Int) (a2 : Int) (a3 : Int) (a4 : Int) (a5 : Int) (a6 : Int) (a7 : Int) (a8 : Int) (a9 : Sl) (a10 : Sl) (a11 : Int) (a12 : Int) (a13 : Int) (a14 : Int) (a15 : Int) (a16 : Sl) (h : GH) (K : Sl → Int → GH → Option β) : Option β := gfun Try.prog (CF_record_WriteCentral F_field_New F_field_Row_U32 F_field_Row_U16 F_record_common F_field_Row_Put F_record_done) HF_record_WriteCentral R Try.f46 [Value.agg #[Value.int .i64 a1, Value.int .i64 a2, Value.int .i64 a3, Value.int .i64 a4, Value.int .i64 a5, Value.int .u32 a6, Value.int .u32 a7, Value.int .u32 a8, Value.slice a9.a a9.n a9.c, Value.slice a10.a a10.n a10.c, Value.int .i64 a11, Value.int .i64 a12, Value.int .i64 a13, Value.int .u32 a14, Value.int .u32 a15, Value.slice a16.a a16.n a16.c]] h (fun v h' => exTup 2 v fun vs => exV (nth vs 0) fun v0 => exS (some v0) fun u66 => exV (nth vs 1) fun v1 => exI .i64 (some v1) fun u67 => K u66 u67 h')
set_option maxRecDepth 100000 in
theorem F_record_WriteCentral_gen (F_field_New : GH → (Option Addr → GH → Option β) → Option β) (F_field_Row_U32 : Option Addr → Int → GH → (Option Addr → GH → Option β) → Option β) (F_field_Row_U16 : Option Addr → Int → GH → (Option Addr → GH → Option β) → Option β) (F_record_common : Option Addr → Int → Int → Int → Int → Int → Int → Int → Int → Sl → Sl → GH → (GH → Option β) → Option β) (F_field_Row_Put : Option Addr → Sl → GH → (Option Addr → GH → Option β) → Option β) (F_record_done : Option Addr → GH → (Sl → Int → GH → Option β) → Option β) (R : Nat) (a1 : Int) (a2 : Int) (a3 : Int) (a4 : Int) (a5 : Int) (a6 : Int) (a7 : Int) (a8 : Int) (a9 : Sl) (a10 : Sl) (a11 : Int) (a12 : Int) (a13 : Int) (a14 : Int) (a15 : Int) (a16 : Sl) (h : GH) (K : Sl → Int → GH → Option β) : G_record_WriteCentral F_field_New F_field_Row_U32 F_field_Row_U16 F_record_common F_field_Row_Put F_record_done R a1 a2 a3 a4 a5 a6 a7 a8 a9 a10 a11 a12 a13 a14 a15 a16 h K =
    gnew [Value.int .i64 a1, Value.int .i64 a2, Value.int .i64 a3, Value.int .i64 a4, Value.int .i64 a5, Value.int .u32 a6, Value.int .u32 a7, Value.int .u32 a8, Value.slice a9.a a9.n a9.c, Value.slice a10.a a10.n a10.c, Value.int .i64 a11, Value.int .i64 a12, Value.int .i64 a13, Value.int .u32 a14, Value.int .u32 a15, Value.slice a16.a a16.n a16.c] 0 h fun g17 h18 => F_field_New h18 fun r19 h20 => F_field_Row_U32 r19 33639248 h20 fun r21 h22 => exI .i64 (h22.cell ⟨g17, 0 + 10, none⟩) fun x23 => F_field_Row_U16 r21 x23 h22 fun r24 h25 => (bif sameAt g17 (0 + 10) 1 h20 h22 then (bif sameAt g17 (0 + 10) 1 h18 h20 then exI .i64 (h25.cell ⟨g17, 0 + 0, none⟩) fun x26 => exI .i64 (h25.cell ⟨g17, 0 + 0 + 1, none⟩) fun x27 => exI .i64 (h25.cell ⟨g17, 0 + 0 + 1 + 1, none⟩) fun x28 => exI .i64 (h25.cell ⟨g17, 0 + 0 + 1 + 1 + 1, none⟩) fun x29 => exI .i64 (h25.cell ⟨g17, 0 + 0 + 1 + 1 + 1 + 1, none⟩) fun x30 => exI .u32 (h25.cell ⟨g17, 0 + 0 + 1 + 1 + 1 + 1 + 1, none⟩) fun x31 => exI .u32 (h25.cell ⟨g17, 0 + 0 + 1 + 1 + 1 + 1 + 1 + 1, none⟩) fun x32 => exI .u32 (h25.cell ⟨g17, 0 + 0 + 1 + 1 + 1 + 1 + 1 + 1 + 1, none⟩) fun x33 => exS (h25.cell ⟨g17, 0 + 0 + 1 + 1 + 1 + 1 + 1 + 1 + 1 + 1, none⟩) fun x34 => exS (h25.cell ⟨g17, 0 + 0 + 1 + 1 + 1 + 1 + 1 + 1 + 1 + 1 + 1, none⟩) fun x35 => F_record_common r24 x26 x27 x28 x29 x30 x31 x32 x33 x34 x35 h25 fun h36 => exS (h36.cell ⟨g17, 0 + 15, none⟩) fun x37 => F_field_Row_U16 r24 ((x37.n : Nat) : Int) h36 fun r38 h39 => exI .i64 (h39.cell ⟨g17, 0 + 11, none⟩) fun x40 => F_field_Row_U16 r38 x40 h39 fun r41 h42 => exI .i64 (h42.cell ⟨g17, 0 + 12, none⟩) fun x43 => F_field_Row_U16 r41 x43 h42 fun r44 h45 => exI .u32 (h45.cell ⟨g17, 0 + 13, none⟩) fun x46 => F_field_Row_U32 r44 x46 h45 fun r47 h48 => exI .u32 (h48.cell ⟨g17, 0 + 14, none⟩) fun x49 => F_field_Row_U32 r47 x49 h48 fun r50 h51 => (bif sameAt g17 (0 + 14) 1 h45 h48 then (bif sameAt g17 (0 + 14) 1 h42 h45 then (bif sameAt g17 (0 + 14) 1 h39 h42 then (bif sameAt g17 (0 + 14) 1 h36 h39 then (bif sameAt g17 (0 + 13) 1 h42 h45 then (bif sameAt g17 (0 + 13) 1 h39 h42 then (bif sameAt g17 (0 + 13) 1 h36 h39 then (bif sameAt g17 (0 + 12) 1 h39 h42 then (bif sameAt g17 (0 + 12) 1 h36 h39 then (bif sameAt g17 (0 + 11) 1 h36 h39 then exS (h51.cell ⟨g17, 0 + 0 + 8, none⟩) fun x52 => F_field_Row_Put r24 x52 h51 fun r53 h54 => exS (h54.cell ⟨g17, 0 + 0 + 9, none⟩) fun x55 => F_field_Row_Put r53 x55 h54 fun r56 h57 => exS (h57.cell ⟨g17, 0 + 15, none⟩) fun x58 => F_field_Row_Put r56 x58 h57 fun r59 h60 => F_record_done r59 h60 fun r61 r62 h63 => (bif sameAt g17 (0 + 15) 1 h54 h57 then (bif sameAt g17 (0 + 15) 1 h51 h54 then (bif sameAt g17 (0 + 0 + 9) 1 h51 h54 then K r61 r62 h63 else none) else none) else none) else none) else none) else none) else none) else none) else none) else none) else none) else none) else none) else none) else none) := by kernel_rfl
noncomputable def F_record_WriteCentral (R : Nat) (a1 : Int) (a2 : Int) (a3 : Int) (a4 : Int) (a5 : Int) (a6 : Int) (a7 : Int) (a8 : Int) (a9 : Sl) (a10 : Sl) (a11 : Int) (a12 : Int) (a13 : Int) (a14 : Int) (a15 : Int) (a16 : Sl) (h : GH) (K : Sl → Int → GH → Option β) : Option β := G_record_WriteCentral (F_field_New R) (F_field_Row_U32 R) (F_field_Row_U16 R) (F_record_common R) (F_field_Row_Put R) (F_record_done R) R a1 a2 a3 a4 a5 a6 a7 a8 a9 a10 a11 a12 a13 a14 a15 a16 h K
set_option maxRecDepth 100000 in
theorem CF_record_WriteCentral_sim {R : Nat} : SimOrc Try.prog (CF_record_WriteCentral (F_field_New R) (F_field_Row_U32 R) (F_field_Row_U16 R) (F_record_common R) (F_field_Row_Put R) (F_record_done R) (β := β)) := by
  intro f args h K r hc
  unfold CF_record_WriteCentral at hc
  cases hb : Nat.beq f 73 with
  | true =>
    rw [hb] at hc
    simp only [cond_true] at hc
    obtain rfl := Nat.eq_of_beq_eq_true hb
    split at hc
    · exact any_call (F_field_New_sim (K := K) hc)
    · cases hc
  | false =>
  rw [hb] at hc
  simp only [cond_false] at hc
  cases hb : Nat.beq f 74 with
  | true =>
    rw [hb] at hc
    simp only [cond_true] at hc
    obtain rfl := Nat.eq_of_beq_eq_true hb
    split at hc
    · exact any_call (F_field_Row_U32_sim (K := K) hc)
    · cases hc
  | false =>
  rw [hb] at hc
  simp only [cond_false] at hc
  cases hb : Nat.beq f 78 with
  | true =>
    rw [hb] at hc
    simp only [cond_true] at hc
    obtain rfl := Nat.eq_of_beq_eq_true hb
    split at hc
    · exact any_call (F_field_Row_U16_sim (K := K) hc)
    · cases hc
  | false =>
  rw [hb] at hc
  simp only [cond_false] at hc
  cases hb : Nat.beq f 75 with
  | true =>
    rw [hb] at hc
    simp only [cond_true] at hc
    obtain rfl := Nat.eq_of_beq_eq_true hb
    split at hc
    · exact any_call (F_record_common_sim (K := K) hc)
    · cases hc
  | false =>
  rw [hb] at hc
  simp only [cond_false] at hc
  cases hb : Nat.beq f 77 with
  | true =>
    rw [hb] at hc
    simp only [cond_true] at hc
    obtain rfl := Nat.eq_of_beq_eq_true hb
    split at hc
    · exact any_call (F_field_Row_Put_sim (K := K) hc)
    · cases hc
  | false =>
  rw [hb] at hc
  simp only [cond_false] at hc
  cases hb : Nat.beq f 76 with
  | true =>
    rw [hb] at hc
    simp only [cond_true] at hc
    obtain rfl := Nat.eq_of_beq_eq_true hb
    split at hc
    · exact any_call (F_record_done_sim (K := K) hc)
    · cases hc
  | false =>
  rw [hb] at hc
  simp only [cond_false] at hc
  cases hc
set_option maxRecDepth 100000 in
theorem F_record_WriteCentral_sim {R : Nat} {r : β} {a1 : Int} {a2 : Int} {a3 : Int} {a4 : Int} {a5 : Int} {a6 : Int} {a7 : Int} {a8 : Int} {a9 : Sl} {a10 : Sl} {a11 : Int} {a12 : Int} {a13 : Int} {a14 : Int} {a15 : Int} {a16 : Sl} {h : GH} {K : Value → GH → Option β} (hc : F_record_WriteCentral R a1 a2 a3 a4 a5 a6 a7 a8 a9 a10 a11 a12 a13 a14 a15 a16 h (fun q0 q1 h' => K (Value.tuple #[Value.slice q0.a q0.n q0.c, Value.int .i64 q1]) h') = some r) : ∃ v h', K v h' = some r ∧ CallSim Try.prog 46 [Value.agg #[Value.int .i64 a1, Value.int .i64 a2, Value.int .i64 a3, Value.int .i64 a4, Value.int .i64 a5, Value.int .u32 a6, Value.int .u32 a7, Value.int .u32 a8, Value.slice a9.a a9.n a9.c, Value.slice a10.a a10.n a10.c, Value.int .i64 a11, Value.int .i64 a12, Value.int .i64 a13, Value.int .u32 a14, Value.int .u32 a15, Value.slice a16.a a16.n a16.c]] h v h' := by
  unfold F_record_WriteCentral G_record_WriteCentral at hc
  obtain ⟨v, h', hk, hs⟩ := gfun_sim (CF_record_WriteCentral_sim (R := R)) mixed_ok (fun f h => by cases h) Try.func46 (by kernel_rfl) hc
  obtain ⟨vs, rfl, hl, hk⟩ := exTup_v hk
  obtain ⟨v0, t0, hk⟩ := exV_v hk
  obtain ⟨u0, e0, hk⟩ := exS_v hk; cases e0
  obtain ⟨v1, t1, hk⟩ := exV_v hk
  obtain ⟨u1, e1, hk⟩ := exI_v hk; cases e1
  obtain rfl := arr2 hl t0 t1
  exact ⟨_, h', hk, hs⟩
/-! F47 duffel/record.WriteEnd -/
def CF_record_WriteEnd (F_field_New : GH → (Option Addr → GH → Option β) → Option β) (F_field_Row_U32 : Option Addr → Int → GH → (Option Addr → GH → Option β) → Option β) (F_field_Row_U16 : Option Addr → Int → GH → (Option Addr → GH → Option β) → Option β) (F_field_Row_Put : Option Addr → Sl → GH → (Option Addr → GH → Option β) → Option β) (F_record_done : Option Addr → GH → (Sl → Int → GH → Option β) → Option β) : Orc β := fun f args h K => bif Nat.beq f 73 then (match args with | [] => F_field_New  h (fun q3 h' => K (Value.pointer q3) h') | _ => none) else (bif Nat.beq f 74 then (match args with | [.pointer p1, .int .u32 p2] => F_field_Row_U32 p1 p2 h (fun q5 h' => K (Value.pointer q5) h') | _ => none) else (bif Nat.beq f 78 then (match args with | [.pointer p1, .int .i64 p2] => F_field_Row_U16 p1 p2 h (fun q19 h' => K (Value.pointer q19) h') | _ => none) else (bif Nat.beq f 77 then (match args with | [.pointer p1, .slice p2a p2n p2c] => F_field_Row_Put p1 ⟨p2a, p2n, p2c⟩ h (fun q13 h' => K (Value.pointer q13) h') | _ => none) else (bif Nat.beq f 76 then (match args with | [.pointer p1] => F_record_done p1 h (fun q6 q7 h' => K (Value.tuple #[Value.slice q6.a q6.n q6.c, Value.int .i64 q7]) h') | _ => none) else none))))
def HF_record_WriteEnd : Hints := ⟨[], [], []⟩
noncomputable def G_record_WriteEnd (F_field_New : GH → (Option Addr → GH → Option β) → Option β) (F_field_Row_U32 : Option Addr → Int → GH → (Option Addr → GH → Option β) → Option β) (F_field_Row_U16 : Option Addr → Int → GH → (Option Addr → GH → Option β) → Option β) (F_field_Row_Put : Option Addr → Sl → GH → (Option Addr → GH → Option β) → Option β) (F_record_done : Option Addr → GH → (Sl → Int → GH → Option β) → Option β) (R : Nat) (a1 : Int) (a2 : Int) (a3 : Int) (a4 : Int) (a5 : Int) (a6 : Int) (a7 : Sl) (h : GH) (K : Sl → Int → GH → Option β) : Option β := gfun Try.prog (CF_record_WriteEnd F_field_New F_field_Row_U32 F_field_Row_U16 F_field_Row_Put F_record_done) HF_record_WriteEnd R Try.f47 [Value.agg #[Value.int .i64 a1, Value.int .i64 a2, Value.int .i64 a3, Value.int .i64 a4, Value.int .u32 a5, Value.int .u32 a6, Value.slice a7.a a7.n a7.c]] h (fun v h' => exTup 2 v fun vs => exV (nth vs 0) fun v0 => exS (some v0) fun u43 => exV (nth vs 1) fun v1 => exI .i64 (some v1) fun u44 => K u43 u44 h')
set_option maxRecDepth 100000 in
theorem F_record_WriteEnd_gen (F_field_New : GH → (Option Addr → GH → Option β) → Option β) (F_field_Row_U32 : Option Addr → Int → GH → (Option Addr → GH → Option β) → Option β) (F_field_Row_U16 : Option Addr → Int → GH → (Option Addr → GH → Option β) → Option β) (F_field_Row_Put : Option Addr → Sl → GH → (Option Addr → GH → Option β) → Option β) (F_record_done : Option Addr → GH → (Sl → Int → GH → Option β) → Option β) (R : Nat) (a1 : Int) (a2 : Int) (a3 : Int) (a4 : Int) (a5 : Int) (a6 : Int) (a7 : Sl) (h : GH) (K : Sl → Int → GH → Option β) : G_record_WriteEnd F_field_New F_field_Row_U32 F_field_Row_U16 F_field_Row_Put F_record_done R a1 a2 a3 a4 a5 a6 a7 h K =
    gnew [Value.int .i64 a1, Value.int .i64 a2, Value.int .i64 a3, Value.int .i64 a4, Value.int .u32 a5, Value.int .u32 a6, Value.slice a7.a a7.n a7.c] 0 h fun g8 h9 => F_field_New h9 fun r10 h11 => F_field_Row_U32 r10 101010256 h11 fun r12 h13 => exI .i64 (h13.cell ⟨g8, 0 + 0, none⟩) fun x14 => F_field_Row_U16 r12 x14 h13 fun r15 h16 => exI .i64 (h16.cell ⟨g8, 0 + 1, none⟩) fun x17 => F_field_Row_U16 r15 x17 h16 fun r18 h19 => exI .i64 (h19.cell ⟨g8, 0 + 2, none⟩) fun x20 => F_field_Row_U16 r18 x20 h19 fun r21 h22 => exI .i64 (h22.cell ⟨g8, 0 + 3, none⟩) fun x23 => F_field_Row_U16 r21 x23 h22 fun r24 h25 => (bif sameAt g8 (0 + 3) 1 h19 h22 then (bif sameAt g8 (0 + 3) 1 h16 h19 then (bif sameAt g8 (0 + 3) 1 h13 h16 then (bif sameAt g8 (0 + 3) 1 h11 h13 then (bif sameAt g8 (0 + 3) 1 h9 h11 then (bif sameAt g8 (0 + 2) 1 h16 h19 then (bif sameAt g8 (0 + 2) 1 h13 h16 then (bif sameAt g8 (0 + 2) 1 h11 h13 then (bif sameAt g8 (0 + 2) 1 h9 h11 then (bif sameAt g8 (0 + 1) 1 h13 h16 then (bif sameAt g8 (0 + 1) 1 h11 h13 then (bif sameAt g8 (0 + 1) 1 h9 h11 then (bif sameAt g8 (0 + 0) 1 h11 h13 then (bif sameAt g8 (0 + 0) 1 h9 h11 then exI .u32 (h25.cell ⟨g8, 0 + 4, none⟩) fun x26 => F_field_Row_U32 r24 x26 h25 fun r27 h28 => exI .u32 (h28.cell ⟨g8, 0 + 5, none⟩) fun x29 => F_field_Row_U32 r27 x29 h28 fun r30 h31 => exS (h31.cell ⟨g8, 0 + 6, none⟩) fun x32 => F_field_Row_U16 r30 ((x32.n : Nat) : Int) h31 fun r33 h34 => exS (h34.cell ⟨g8, 0 + 6, none⟩) fun x35 => F_field_Row_Put r33 x35 h34 fun r36 h37 => F_record_done r36 h37 fun r38 r39 h40 => (bif sameAt g8 (0 + 6) 1 h31 h34 then (bif sameAt g8 (0 + 6) 1 h28 h31 then (bif sameAt g8 (0 + 6) 1 h25 h28 then (bif sameAt g8 (0 + 6) 1 h28 h31 then (bif sameAt g8 (0 + 6) 1 h25 h28 then (bif sameAt g8 (0 + 5) 1 h25 h28 then K r38 r39 h40 else none) else none) else none) else none) else none) else none) else none) else none) else none) else none) else none) else none) else none) else none) else none) else none) else none) else none) else none) else none) := by kernel_rfl
noncomputable def F_record_WriteEnd (R : Nat) (a1 : Int) (a2 : Int) (a3 : Int) (a4 : Int) (a5 : Int) (a6 : Int) (a7 : Sl) (h : GH) (K : Sl → Int → GH → Option β) : Option β := G_record_WriteEnd (F_field_New R) (F_field_Row_U32 R) (F_field_Row_U16 R) (F_field_Row_Put R) (F_record_done R) R a1 a2 a3 a4 a5 a6 a7 h K
set_option maxRecDepth 100000 in
theorem CF_record_WriteEnd_sim {R : Nat} : SimOrc Try.prog (CF_record_WriteEnd (F_field_New R) (F_field_Row_U32 R) (F_field_Row_U16 R) (F_field_Row_Put R) (F_record_done R) (β := β)) := by
  intro f args h K r hc
  unfold CF_record_WriteEnd at hc
  cases hb : Nat.beq f 73 with
  | true =>
    rw [hb] at hc
    simp only [cond_true] at hc
    obtain rfl := Nat.eq_of_beq_eq_true hb
    split at hc
    · exact any_call (F_field_New_sim (K := K) hc)
    · cases hc
  | false =>
  rw [hb] at hc
  simp only [cond_false] at hc
  cases hb : Nat.beq f 74 with
  | true =>
    rw [hb] at hc
    simp only [cond_true] at hc
    obtain rfl := Nat.eq_of_beq_eq_true hb
    split at hc
    · exact any_call (F_field_Row_U32_sim (K := K) hc)
    · cases hc
  | false =>
  rw [hb] at hc
  simp only [cond_false] at hc
  cases hb : Nat.beq f 78 with
  | true =>
    rw [hb] at hc
    simp only [cond_true] at hc
    obtain rfl := Nat.eq_of_beq_eq_true hb
    split at hc
    · exact any_call (F_field_Row_U16_sim (K := K) hc)
    · cases hc
  | false =>
  rw [hb] at hc
  simp only [cond_false] at hc
  cases hb : Nat.beq f 77 with
  | true =>
    rw [hb] at hc
    simp only [cond_true] at hc
    obtain rfl := Nat.eq_of_beq_eq_true hb
    split at hc
    · exact any_call (F_field_Row_Put_sim (K := K) hc)
    · cases hc
  | false =>
  rw [hb] at hc
  simp only [cond_false] at hc
  cases hb : Nat.beq f 76 with
  | true =>
    rw [hb] at hc
    simp only [cond_true] at hc
    obtain rfl := Nat.eq_of_beq_eq_true hb
    split at hc
    · exact any_call (F_record_done_sim (K := K) hc)
    · cases hc
  | false =>
  rw [hb] at hc
  simp only [cond_false] at hc
  cases hc
set_option maxRecDepth 100000 in
theorem F_record_WriteEnd_sim {R : Nat} {r : β} {a1 : Int} {a2 : Int} {a3 : Int} {a4 : Int} {a5 : Int} {a6 : Int} {a7 : Sl} {h : GH} {K : Value → GH → Option β} (hc : F_record_WriteEnd R a1 a2 a3 a4 a5 a6 a7 h (fun q0 q1 h' => K (Value.tuple #[Value.slice q0.a q0.n q0.c, Value.int .i64 q1]) h') = some r) : ∃ v h', K v h' = some r ∧ CallSim Try.prog 47 [Value.agg #[Value.int .i64 a1, Value.int .i64 a2, Value.int .i64 a3, Value.int .i64 a4, Value.int .u32 a5, Value.int .u32 a6, Value.slice a7.a a7.n a7.c]] h v h' := by
  unfold F_record_WriteEnd G_record_WriteEnd at hc
  obtain ⟨v, h', hk, hs⟩ := gfun_sim (CF_record_WriteEnd_sim (R := R)) mixed_ok (fun f h => by cases h) Try.func47 (by kernel_rfl) hc
  obtain ⟨vs, rfl, hl, hk⟩ := exTup_v hk
  obtain ⟨v0, t0, hk⟩ := exV_v hk
  obtain ⟨u0, e0, hk⟩ := exS_v hk; cases e0
  obtain ⟨v1, t1, hk⟩ := exV_v hk
  obtain ⟨u1, e1, hk⟩ := exI_v hk; cases e1
  obtain rfl := arr2 hl t0 t1
  exact ⟨_, h', hk, hs⟩
/-! F20 duffel/denote.Join -/
def CF_denote_Join (F_record_WriteLocal : Int → Int → Int → Int → Int → Int → Int → Int → Sl → Sl → GH → (Sl → Int → GH → Option β) → Option β) (F_record_WriteCentral : Int → Int → Int → Int → Int → Int → Int → Int → Sl → Sl → Int → Int → Int → Int → Int → Sl → GH → (Sl → Int → GH → Option β) → Option β) (F_record_WriteEnd : Int → Int → Int → Int → Int → Int → Sl → GH → (Sl → Int → GH → Option β) → Option β) (F_record_FindEnd : Sl → GH → (Int → GH → Option β) → Option β) : Orc β := fun f args h K => bif Nat.beq f 45 then (match args with | [.agg ⟨[.int .i64 p1, .int .i64 p2, .int .i64 p3, .int .i64 p4, .int .i64 p5, .int .u32 p6, .int .u32 p7, .int .u32 p8, .slice p9a p9n p9c, .slice p10a p10n p10c]⟩] => F_record_WriteLocal p1 p2 p3 p4 p5 p6 p7 p8 ⟨p9a, p9n, p9c⟩ ⟨p10a, p10n, p10c⟩ h (fun q37 q38 h' => K (Value.tuple #[Value.slice q37.a q37.n q37.c, Value.int .i64 q38]) h') | _ => none) else (bif Nat.beq f 46 then (match args with | [.agg ⟨[.int .i64 p1, .int .i64 p2, .int .i64 p3, .int .i64 p4, .int .i64 p5, .int .u32 p6, .int .u32 p7, .int .u32 p8, .slice p9a p9n p9c, .slice p10a p10n p10c, .int .i64 p11, .int .i64 p12, .int .i64 p13, .int .u32 p14, .int .u32 p15, .slice p16a p16n p16c]⟩] => F_record_WriteCentral p1 p2 p3 p4 p5 p6 p7 p8 ⟨p9a, p9n, p9c⟩ ⟨p10a, p10n, p10c⟩ p11 p12 p13 p14 p15 ⟨p16a, p16n, p16c⟩ h (fun q64 q65 h' => K (Value.tuple #[Value.slice q64.a q64.n q64.c, Value.int .i64 q65]) h') | _ => none) else (bif Nat.beq f 47 then (match args with | [.agg ⟨[.int .i64 p1, .int .i64 p2, .int .i64 p3, .int .i64 p4, .int .u32 p5, .int .u32 p6, .slice p7a p7n p7c]⟩] => F_record_WriteEnd p1 p2 p3 p4 p5 p6 ⟨p7a, p7n, p7c⟩ h (fun q41 q42 h' => K (Value.tuple #[Value.slice q41.a q41.n q41.c, Value.int .i64 q42]) h') | _ => none) else (bif Nat.beq f 24 then (match args with | [.slice p1a p1n p1c] => F_record_FindEnd ⟨p1a, p1n, p1c⟩ h (fun q15 h' => K (Value.int .i64 q15) h') | _ => none) else none)))
def HF_denote_Join : Hints := ⟨[(5, [0, 1, 6, 7, 21, 22, 23], [(0, [(0, .ty 36), (1, .ty 23), (6, .ty 23), (7, .ty 23)])], some [(4, .ty 23), (5, .ty 29)])], [], []⟩
noncomputable def BF_denote_Join : Code := match Try.f20.body with | some c => c | none => .skip
noncomputable def F_denote_Join_l0 (F_record_WriteLocal : Int → Int → Int → Int → Int → Int → Int → Int → Sl → Sl → GH → (Sl → Int → GH → Option β) → Option β) (F_record_WriteCentral : Int → Int → Int → Int → Int → Int → Int → Int → Sl → Sl → Int → Int → Int → Int → Int → Sl → GH → (Sl → Int → GH → Option β) → Option β) (F_record_WriteEnd : Int → Int → Int → Int → Int → Int → Sl → GH → (Sl → Int → GH → Option β) → Option β) (F_record_FindEnd : Sl → GH → (Int → GH → Option β) → Option β) (R : Nat) (n : Nat) (y3 : Sl) (y4 : Sl) (y5 : Sl) (y6 : Sl) (y7 : Sl) (y8 : Int) (y9 : Int) (h : GH) (K0 : Sl → Sl → Sl → Sl → GH → Option β) (Kr : Sl → Int → GH → Option β) : Option β := gloop (gcode Try.prog (CF_denote_Join F_record_WriteLocal F_record_WriteCentral F_record_WriteEnd F_record_FindEnd) Try.f20.ntmps HF_denote_Join R (at_ [true, true, true, false, true, false, false] BF_denote_Join)) [0, 1, 6, 7, 21, 22, 23] n [(0, Value.slice y3.a y3.n y3.c), (1, Value.slice y4.a y4.n y4.c), (6, Value.slice y5.a y5.n y5.c), (7, Value.slice y6.a y6.n y6.c), (21, Value.slice y7.a y7.n y7.c), (22, Value.int .i64 y8), (23, Value.int .i64 y9)] h (fun i e' h' => bif Nat.beq i 0 then (exS (some (e'.get 0)) fun u135 => exS (some (e'.get 1)) fun u136 => exS (some (e'.get 6)) fun u137 => exS (some (e'.get 7)) fun u138 => K0 u135 u136 u137 u138 h') else none) (fun e' h' => exS (some (e'.get 4)) fun u139 => exI .i64 (some (e'.get 5)) fun u140 => Kr u139 u140 h')
set_option maxRecDepth 100000 in
theorem F_denote_Join_l0_succ (F_record_WriteLocal : Int → Int → Int → Int → Int → Int → Int → Int → Sl → Sl → GH → (Sl → Int → GH → Option β) → Option β) (F_record_WriteCentral : Int → Int → Int → Int → Int → Int → Int → Int → Sl → Sl → Int → Int → Int → Int → Int → Sl → GH → (Sl → Int → GH → Option β) → Option β) (F_record_WriteEnd : Int → Int → Int → Int → Int → Int → Sl → GH → (Sl → Int → GH → Option β) → Option β) (F_record_FindEnd : Sl → GH → (Int → GH → Option β) → Option β) (R : Nat) (n : Nat) (y3 : Sl) (y4 : Sl) (y5 : Sl) (y6 : Sl) (y7 : Sl) (y8 : Int) (y9 : Int) (h : GH) (K0 : Sl → Sl → Sl → Sl → GH → Option β) (Kr : Sl → Int → GH → Option β) : F_denote_Join_l0 F_record_WriteLocal F_record_WriteCentral F_record_WriteEnd F_record_FindEnd R (n + 1) y3 y4 y5 y6 y7 y8 y9 h K0 Kr =
    (bif decide (y9 < y8) then exA y7.a fun g16 o17 => within y9 y7.n (exI .i64 (h.cell ⟨g16, o17 + y9.toNat * 18, none⟩) fun x18 => exI .i64 (h.cell ⟨g16, o17 + y9.toNat * 18 + 1, none⟩) fun x19 => exI .i64 (h.cell ⟨g16, o17 + y9.toNat * 18 + 1 + 1, none⟩) fun x20 => exI .i64 (h.cell ⟨g16, o17 + y9.toNat * 18 + 1 + 1 + 1, none⟩) fun x21 => exI .i64 (h.cell ⟨g16, o17 + y9.toNat * 18 + 1 + 1 + 1 + 1, none⟩) fun x22 => exI .u32 (h.cell ⟨g16, o17 + y9.toNat * 18 + 1 + 1 + 1 + 1 + 1, none⟩) fun x23 => exI .u32 (h.cell ⟨g16, o17 + y9.toNat * 18 + 1 + 1 + 1 + 1 + 1 + 1, none⟩) fun x24 => exI .u32 (h.cell ⟨g16, o17 + y9.toNat * 18 + 1 + 1 + 1 + 1 + 1 + 1 + 1, none⟩) fun x25 => exS (h.cell ⟨g16, o17 + y9.toNat * 18 + 1 + 1 + 1 + 1 + 1 + 1 + 1 + 1, none⟩) fun x26 => exS (h.cell ⟨g16, o17 + y9.toNat * 18 + 1 + 1 + 1 + 1 + 1 + 1 + 1 + 1 + 1, none⟩) fun x27 => exI .i64 (h.cell ⟨g16, o17 + y9.toNat * 18 + 1 + 1 + 1 + 1 + 1 + 1 + 1 + 1 + 1 + 1, none⟩) fun x28 => exI .i64 (h.cell ⟨g16, o17 + y9.toNat * 18 + 1 + 1 + 1 + 1 + 1 + 1 + 1 + 1 + 1 + 1 + 1, none⟩) fun x29 => exI .i64 (h.cell ⟨g16, o17 + y9.toNat * 18 + 1 + 1 + 1 + 1 + 1 + 1 + 1 + 1 + 1 + 1 + 1 + 1, none⟩) fun x30 => exI .u32 (h.cell ⟨g16, o17 + y9.toNat * 18 + 1 + 1 + 1 + 1 + 1 + 1 + 1 + 1 + 1 + 1 + 1 + 1 + 1, none⟩) fun x31 => exI .u32 (h.cell ⟨g16, o17 + y9.toNat * 18 + 1 + 1 + 1 + 1 + 1 + 1 + 1 + 1 + 1 + 1 + 1 + 1 + 1 + 1, none⟩) fun x32 => exS (h.cell ⟨g16, o17 + y9.toNat * 18 + 1 + 1 + 1 + 1 + 1 + 1 + 1 + 1 + 1 + 1 + 1 + 1 + 1 + 1 + 1, none⟩) fun x33 => exS (h.cell ⟨g16, o17 + y9.toNat * 18 + 1 + 1 + 1 + 1 + 1 + 1 + 1 + 1 + 1 + 1 + 1 + 1 + 1 + 1 + 1 + 1, none⟩) fun x34 => exS (h.cell ⟨g16, o17 + y9.toNat * 18 + 1 + 1 + 1 + 1 + 1 + 1 + 1 + 1 + 1 + 1 + 1 + 1 + 1 + 1 + 1 + 1 + 1, none⟩) fun x35 => gnew [Value.int .i64 0, Value.int .i64 0, Value.int .i64 0, Value.int .i64 0, Value.int .i64 0, Value.int .u32 0, Value.int .u32 0, Value.int .u32 0, Value.slice none 0 0, Value.slice none 0 0, Value.int .i64 0, Value.int .i64 0, Value.int .i64 0, Value.int .u32 0, Value.int .u32 0, Value.slice none 0 0, Value.slice none 0 0, Value.slice none 0 0] 0 h fun g36 h37 => gput g36 (0) [Value.int .i64 x18, Value.int .i64 x19, Value.int .i64 x20, Value.int .i64 x21, Value.int .i64 x22, Value.int .u32 x23, Value.int .u32 x24, Value.int .u32 x25, Value.slice x26.a x26.n x26.c, Value.slice x27.a x27.n x27.c, Value.int .i64 x28, Value.int .i64 x29, Value.int .i64 x30, Value.int .u32 x31, Value.int .u32 x32, Value.slice x33.a x33.n x33.c, Value.slice x34.a x34.n x34.c, Value.slice x35.a x35.n x35.c] h37 fun h38 => (bif decide (((y5.n : Nat) : Int) ≥ 4294967295) then Kr ⟨none, 0, 0⟩ 18 h38 else exS (h38.cell ⟨g36, 0 + 17, none⟩) fun x39 => (bif decide (((x39.n : Nat) : Int) ≥ 4294967295) then Kr ⟨none, 0, 0⟩ 18 h38 else exI .i64 (h38.cell ⟨g36, 0 + 0, none⟩) fun x40 => exI .i64 (h38.cell ⟨g36, 0 + 0 + 1, none⟩) fun x41 => exI .i64 (h38.cell ⟨g36, 0 + 0 + 1 + 1, none⟩) fun x42 => exI .i64 (h38.cell ⟨g36, 0 + 0 + 1 + 1 + 1, none⟩) fun x43 => exI .i64 (h38.cell ⟨g36, 0 + 0 + 1 + 1 + 1 + 1, none⟩) fun x44 => exI .u32 (h38.cell ⟨g36, 0 + 0 + 1 + 1 + 1 + 1 + 1, none⟩) fun x45 => exI .u32 (h38.cell ⟨g36, 0 + 0 + 1 + 1 + 1 + 1 + 1 + 1, none⟩) fun x46 => exI .u32 (h38.cell ⟨g36, 0 + 0 + 1 + 1 + 1 + 1 + 1 + 1 + 1, none⟩) fun x47 => exS (h38.cell ⟨g36, 0 + 0 + 1 + 1 + 1 + 1 + 1 + 1 + 1 + 1, none⟩) fun x48 => exS (h38.cell ⟨g36, 0 + 0 + 1 + 1 + 1 + 1 + 1 + 1 + 1 + 1 + 1, none⟩) fun x49 => exI .i64 (h38.cell ⟨g36, 0 + 0 + 1 + 1 + 1 + 1 + 1 + 1 + 1 + 1 + 1 + 1, none⟩) fun x50 => exI .i64 (h38.cell ⟨g36, 0 + 0 + 1 + 1 + 1 + 1 + 1 + 1 + 1 + 1 + 1 + 1 + 1, none⟩) fun x51 => exI .i64 (h38.cell ⟨g36, 0 + 0 + 1 + 1 + 1 + 1 + 1 + 1 + 1 + 1 + 1 + 1 + 1 + 1, none⟩) fun x52 => exI .u32 (h38.cell ⟨g36, 0 + 0 + 1 + 1 + 1 + 1 + 1 + 1 + 1 + 1 + 1 + 1 + 1 + 1 + 1, none⟩) fun x53 => exI .u32 (h38.cell ⟨g36, 0 + 0 + 1 + 1 + 1 + 1 + 1 + 1 + 1 + 1 + 1 + 1 + 1 + 1 + 1 + 1, none⟩) fun x54 => exS (h38.cell ⟨g36, 0 + 0 + 1 + 1 + 1 + 1 + 1 + 1 + 1 + 1 + 1 + 1 + 1 + 1 + 1 + 1 + 1, none⟩) fun x55 => gnew [Value.int .i64 0, Value.int .i64 0, Value.int .i64 0, Value.int .i64 0, Value.int .i64 0, Value.int .u32 0, Value.int .u32 0, Value.int .u32 0, Value.slice none 0 0, Value.slice none 0 0, Value.int .i64 0, Value.int .i64 0, Value.int .i64 0, Value.int .u32 0, Value.int .u32 0, Value.slice none 0 0] 0 h38 fun g56 h57 => gput g56 (0) [Value.int .i64 x40, Value.int .i64 x41, Value.int .i64 x42, Value.int .i64 x43, Value.int .i64 x44, Value.int .u32 x45, Value.int .u32 x46, Value.int .u32 x47, Value.slice x48.a x48.n x48.c, Value.slice x49.a x49.n x49.c, Value.int .i64 x50, Value.int .i64 x51, Value.int .i64 x52, Value.int .u32 x53, Value.int .u32 x54, Value.slice x55.a x55.n x55.c] h57 fun h58 => exS (h58.cell ⟨g36, 0 + 17, none⟩) fun x59 => gput g56 (0 + 14) [Value.int .u32 (IntKind.wrap .u32 ((y5.n : Nat) : Int))] h58 fun h60 => gput g56 (0 + 0 + 6) [Value.int .u32 (IntKind.wrap .u32 ((x59.n : Nat) : Int))] h60 fun h61 => (bif sameAt g36 (0 + 17) 1 h58 h60 then exI .i64 (h61.cell ⟨g56, 0 + 0, none⟩) fun x62 => exI .i64 (h61.cell ⟨g56, 0 + 0 + 1, none⟩) fun x63 => exI .i64 (h61.cell ⟨g56, 0 + 0 + 1 + 1, none⟩) fun x64 => exI .i64 (h61.cell ⟨g56, 0 + 0 + 1 + 1 + 1, none⟩) fun x65 => exI .i64 (h61.cell ⟨g56, 0 + 0 + 1 + 1 + 1 + 1, none⟩) fun x66 => exI .u32 (h61.cell ⟨g56, 0 + 0 + 1 + 1 + 1 + 1 + 1, none⟩) fun x67 => exI .u32 (h61.cell ⟨g56, 0 + 0 + 1 + 1 + 1 + 1 + 1 + 1, none⟩) fun x68 => exI .u32 (h61.cell ⟨g56, 0 + 0 + 1 + 1 + 1 + 1 + 1 + 1 + 1, none⟩) fun x69 => exS (h61.cell ⟨g56, 0 + 0 + 1 + 1 + 1 + 1 + 1 + 1 + 1 + 1, none⟩) fun x70 => exS (h61.cell ⟨g56, 0 + 0 + 1 + 1 + 1 + 1 + 1 + 1 + 1 + 1 + 1, none⟩) fun x71 => gnew [Value.int .i64 0, Value.int .i64 0, Value.int .i64 0, Value.int .i64 0, Value.int .i64 0, Value.int .u32 0, Value.int .u32 0, Value.int .u32 0, Value.slice none 0 0, Value.slice none 0 0] 0 h61 fun g72 h73 => gput g72 (0) [Value.int .i64 x62, Value.int .i64 x63, Value.int .i64 x64, Value.int .i64 x65, Value.int .i64 x66, Value.int .u32 x67, Value.int .u32 x68, Value.int .u32 x69, Value.slice x70.a x70.n x70.c, Value.slice x71.a x71.n x71.c] h73 fun h74 => exS (h74.cell ⟨g36, 0 + 16, none⟩) fun x75 => gput g72 (0 + 9) [Value.slice x75.a x75.n x75.c] h74 fun h76 => exI .i64 (h76.cell ⟨g72, 0, none⟩) fun x77 => exI .i64 (h76.cell ⟨g72, 0 + 1, none⟩) fun x78 => exI .i64 (h76.cell ⟨g72, 0 + 1 + 1, none⟩) fun x79 => exI .i64 (h76.cell ⟨g72, 0 + 1 + 1 + 1, none⟩) fun x80 => exI .i64 (h76.cell ⟨g72, 0 + 1 + 1 + 1 + 1, none⟩) fun x81 => exI .u32 (h76.cell ⟨g72, 0 + 1 + 1 + 1 + 1 + 1, none⟩) fun x82 => exI .u32 (h76.cell ⟨g72, 0 + 1 + 1 + 1 + 1 + 1 + 1, none⟩) fun x83 => exI .u32 (h76.cell ⟨g72, 0 + 1 + 1 + 1 + 1 + 1 + 1 + 1, none⟩) fun x84 => exS (h76.cell ⟨g72, 0 + 1 + 1 + 1 + 1 + 1 + 1 + 1 + 1, none⟩) fun x85 => exS (h76.cell ⟨g72, 0 + 1 + 1 + 1 + 1 + 1 + 1 + 1 + 1 + 1, none⟩) fun x86 => F_record_WriteLocal x77 x78 x79 x80 x81 x82 x83 x84 x85 x86 h76 fun r87 r88 h89 => (bif r88 != 0 then Kr ⟨none, 0, 0⟩ r88 h89 else exI .i64 (h89.cell ⟨g56, 0, none⟩) fun x90 => exI .i64 (h89.cell ⟨g56, 0 + 1, none⟩) fun x91 => exI .i64 (h89.cell ⟨g56, 0 + 1 + 1, none⟩) fun x92 => exI .i64 (h89.cell ⟨g56, 0 + 1 + 1 + 1, none⟩) fun x93 => exI .i64 (h89.cell ⟨g56, 0 + 1 + 1 + 1 + 1, none⟩) fun x94 => exI .u32 (h89.cell ⟨g56, 0 + 1 + 1 + 1 + 1 + 1, none⟩) fun x95 => exI .u32 (h89.cell ⟨g56, 0 + 1 + 1 + 1 + 1 + 1 + 1, none⟩) fun x96 => exI .u32 (h89.cell ⟨g56, 0 + 1 + 1 + 1 + 1 + 1 + 1 + 1, none⟩) fun x97 => exS (h89.cell ⟨g56, 0 + 1 + 1 + 1 + 1 + 1 + 1 + 1 + 1, none⟩) fun x98 => exS (h89.cell ⟨g56, 0 + 1 + 1 + 1 + 1 + 1 + 1 + 1 + 1 + 1, none⟩) fun x99 => exI .i64 (h89.cell ⟨g56, 0 + 1 + 1 + 1 + 1 + 1 + 1 + 1 + 1 + 1 + 1, none⟩) fun x100 => exI .i64 (h89.cell ⟨g56, 0 + 1 + 1 + 1 + 1 + 1 + 1 + 1 + 1 + 1 + 1 + 1, none⟩) fun x101 => exI .i64 (h89.cell ⟨g56, 0 + 1 + 1 + 1 + 1 + 1 + 1 + 1 + 1 + 1 + 1 + 1 + 1, none⟩) fun x102 => exI .u32 (h89.cell ⟨g56, 0 + 1 + 1 + 1 + 1 + 1 + 1 + 1 + 1 + 1 + 1 + 1 + 1 + 1, none⟩) fun x103 => exI .u32 (h89.cell ⟨g56, 0 + 1 + 1 + 1 + 1 + 1 + 1 + 1 + 1 + 1 + 1 + 1 + 1 + 1 + 1, none⟩) fun x104 => exS (h89.cell ⟨g56, 0 + 1 + 1 + 1 + 1 + 1 + 1 + 1 + 1 + 1 + 1 + 1 + 1 + 1 + 1 + 1, none⟩) fun x105 => F_record_WriteCentral x90 x91 x92 x93 x94 x95 x96 x97 x98 x99 x100 x101 x102 x103 x104 x105 h89 fun r106 r107 h108 => (bif r107 != 0 then Kr ⟨none, 0, 0⟩ r107 h108 else gappS 1 1 y5 r87 h108 fun s109 h110 => exS (h110.cell ⟨g36, 0 + 17, none⟩) fun x111 => gappS 1 1 s109 x111 h110 fun s112 h113 => (bif sameAt g36 (0 + 17) 1 h108 h110 then gappS 1 1 y6 r106 h113 fun s114 h115 => F_denote_Join_l0 F_record_WriteLocal F_record_WriteCentral F_record_WriteEnd F_record_FindEnd R n y3 y4 s112 s114 y7 y8 (IntKind.wrap .i64 (y9 + 1)) h115 K0 Kr else none))) else none)))) else K0 y3 y4 y5 y6 h) := by kernel_rfl
noncomputable def G_denote_Join (F_record_WriteLocal : Int → Int → Int → Int → Int → Int → Int → Int → Sl → Sl → GH → (Sl → Int → GH → Option β) → Option β) (F_record_WriteCentral : Int → Int → Int → Int → Int → Int → Int → Int → Sl → Sl → Int → Int → Int → Int → Int → Sl → GH → (Sl → Int → GH → Option β) → Option β) (F_record_WriteEnd : Int → Int → Int → Int → Int → Int → Sl → GH → (Sl → Int → GH → Option β) → Option β) (F_record_FindEnd : Sl → GH → (Int → GH → Option β) → Option β) (R : Nat) (a1 : Sl) (a2 : Sl) (h : GH) (K : Sl → Int → GH → Option β) : Option β := gfun Try.prog (CF_denote_Join F_record_WriteLocal F_record_WriteCentral F_record_WriteEnd F_record_FindEnd) HF_denote_Join R Try.f20 [Value.slice a1.a a1.n a1.c, Value.slice a2.a a2.n a2.c] h (fun v h' => exTup 2 v fun vs => exV (nth vs 0) fun v0 => exS (some v0) fun u141 => exV (nth vs 1) fun v1 => exI .i64 (some v1) fun u142 => K u141 u142 h')
set_option maxRecDepth 100000 in
theorem F_denote_Join_gen (F_record_WriteLocal : Int → Int → Int → Int → Int → Int → Int → Int → Sl → Sl → GH → (Sl → Int → GH → Option β) → Option β) (F_record_WriteCentral : Int → Int → Int → Int → Int → Int → Int → Int → Sl → Sl → Int → Int → Int → Int → Int → Sl → GH → (Sl → Int → GH → Option β) → Option β) (F_record_WriteEnd : Int → Int → Int → Int → Int → Int → Sl → GH → (Sl → Int → GH → Option β) → Option β) (F_record_FindEnd : Sl → GH → (Int → GH → Option β) → Option β) (R : Nat) (a1 : Sl) (a2 : Sl) (h : GH) (K : Sl → Int → GH → Option β) : G_denote_Join F_record_WriteLocal F_record_WriteCentral F_record_WriteEnd F_record_FindEnd R a1 a2 h K =
    (bif decide (((a1.n : Nat) : Int) > 65535) then K ⟨none, 0, 0⟩ 18 h else F_denote_Join_l0 F_record_WriteLocal F_record_WriteCentral F_record_WriteEnd F_record_FindEnd R R a1 a2 ⟨none, 0, 0⟩ ⟨none, 0, 0⟩ a1 ((a1.n : Nat) : Int) 0 h (fun w116 w117 w118 w119 h120 => (bif decide (((w118.n : Nat) : Int) ≥ 4294967295) then K ⟨none, 0, 0⟩ 18 h120 else (bif decide (((w119.n : Nat) : Int) ≥ 4294967295) then K ⟨none, 0, 0⟩ 18 h120 else F_record_WriteEnd 0 0 ((w116.n : Nat) : Int) ((w116.n : Nat) : Int) (IntKind.wrap .u32 ((w119.n : Nat) : Int)) (IntKind.wrap .u32 ((w118.n : Nat) : Int)) w117 h120 fun r121 r122 h123 => (bif r122 != 0 then K ⟨none, 0, 0⟩ r122 h123 else gappS 1 1 w118 w119 h123 fun s124 h125 => gappS 1 1 s124 r121 h125 fun s126 h127 => F_record_FindEnd s126 h127 fun r128 h129 => (bif r128 != (IntKind.wrap .i64 (((w118.n : Nat) : Int) + ((w119.n : Nat) : Int))) then K ⟨none, 0, 0⟩ 4 h129 else K s126 0 h129))))) (fun w130 w131 h132 => K w130 w131 h132)) := by kernel_rfl
noncomputable def F_denote_Join (R : Nat) (a1 : Sl) (a2 : Sl) (h : GH) (K : Sl → Int → GH → Option β) : Option β := G_denote_Join (F_record_WriteLocal R) (F_record_WriteCentral R) (F_record_WriteEnd R) (F_record_FindEnd R) R a1 a2 h K
set_option maxRecDepth 100000 in
theorem CF_denote_Join_sim {R : Nat} : SimOrc Try.prog (CF_denote_Join (F_record_WriteLocal R) (F_record_WriteCentral R) (F_record_WriteEnd R) (F_record_FindEnd R) (β := β)) := by
  intro f args h K r hc
  unfold CF_denote_Join at hc
  cases hb : Nat.beq f 45 with
  | true =>
    rw [hb] at hc
    simp only [cond_true] at hc
    obtain rfl := Nat.eq_of_beq_eq_true hb
    split at hc
    · exact any_call (F_record_WriteLocal_sim (K := K) hc)
    · cases hc
  | false =>
  rw [hb] at hc
  simp only [cond_false] at hc
  cases hb : Nat.beq f 46 with
  | true =>
    rw [hb] at hc
    simp only [cond_true] at hc
    obtain rfl := Nat.eq_of_beq_eq_true hb
    split at hc
    · exact any_call (F_record_WriteCentral_sim (K := K) hc)
    · cases hc
  | false =>
  rw [hb] at hc
  simp only [cond_false] at hc
  cases hb : Nat.beq f 47 with
  | true =>
    rw [hb] at hc
    simp only [cond_true] at hc
    obtain rfl := Nat.eq_of_beq_eq_true hb
    split at hc
    · exact any_call (F_record_WriteEnd_sim (K := K) hc)
    · cases hc
  | false =>
  rw [hb] at hc
  simp only [cond_false] at hc
  cases hb : Nat.beq f 24 with
  | true =>
    rw [hb] at hc
    simp only [cond_true] at hc
    obtain rfl := Nat.eq_of_beq_eq_true hb
    split at hc
    · exact any_call (F_record_FindEnd_sim (K := K) hc)
    · cases hc
  | false =>
  rw [hb] at hc
  simp only [cond_false] at hc
  cases hc
set_option maxRecDepth 100000 in
theorem F_denote_Join_sim {R : Nat} {r : β} {a1 : Sl} {a2 : Sl} {h : GH} {K : Value → GH → Option β} (hc : F_denote_Join R a1 a2 h (fun q0 q1 h' => K (Value.tuple #[Value.slice q0.a q0.n q0.c, Value.int .i64 q1]) h') = some r) : ∃ v h', K v h' = some r ∧ CallSim Try.prog 20 [Value.slice a1.a a1.n a1.c, Value.slice a2.a a2.n a2.c] h v h' := by
  unfold F_denote_Join G_denote_Join at hc
  obtain ⟨v, h', hk, hs⟩ := gfun_sim (CF_denote_Join_sim (R := R)) mixed_ok (fun f h => by cases h) Try.func20 (by kernel_rfl) hc
  obtain ⟨vs, rfl, hl, hk⟩ := exTup_v hk
  obtain ⟨v0, t0, hk⟩ := exV_v hk
  obtain ⟨u0, e0, hk⟩ := exS_v hk; cases e0
  obtain ⟨v1, t1, hk⟩ := exV_v hk
  obtain ⟨u1, e1, hk⟩ := exI_v hk; cases e1
  obtain rfl := arr2 hl t0 t1
  exact ⟨_, h', hk, hs⟩
/-! F16 duffel/duffelref01.Same -/
def CF_ref01_Same  : Orc β := fun f args h K => none
def HF_ref01_Same : Hints := ⟨[(4, [0, 1, 5], [(0, [])], some [(4, .ty 4)])], [], []⟩
noncomputable def BF_ref01_Same : Code := match Try.f16.body with | some c => c | none => .skip
noncomputable def F_ref01_Same_l0  (R : Nat) (n : Nat) (y3 : Sl) (y4 : Sl) (y5 : Int) (h : GH) (K0 : GH → Option β) (Kr : Bool → GH → Option β) : Option β := gloop (gcode Try.prog (CF_ref01_Same ) Try.f16.ntmps HF_ref01_Same R (at_ [true, true, false, true, false, false] BF_ref01_Same)) [0, 1, 5] n [(0, Value.slice y3.a y3.n y3.c), (1, Value.slice y4.a y4.n y4.c), (5, Value.int .i64 y5)] h (fun i e' h' => bif Nat.beq i 0 then (K0 h') else none) (fun e' h' => exB (some (e'.get 4)) fun u17 => Kr u17 h')
set_option maxRecDepth 100000 in
theorem F_ref01_Same_l0_succ  (R : Nat) (n : Nat) (y3 : Sl) (y4 : Sl) (y5 : Int) (h : GH) (K0 : GH → Option β) (Kr : Bool → GH → Option β) : F_ref01_Same_l0  R (n + 1) y3 y4 y5 h K0 Kr =
    (bif decide (y5 < ((y3.n : Nat) : Int)) then exA y3.a fun g7 o8 => within y5 y3.n (exI .u8 (h.cell ⟨g7, o8 + y5.toNat * 1, none⟩) fun x9 => exA y4.a fun g10 o11 => within y5 y4.n (exI .u8 (h.cell ⟨g10, o11 + y5.toNat * 1, none⟩) fun x12 => (bif x9 != x12 then Kr false h else F_ref01_Same_l0 R n y3 y4 (IntKind.wrap .i64 (y5 + 1)) h K0 Kr))) else K0 h) := by kernel_rfl
noncomputable def G_ref01_Same  (R : Nat) (a1 : Sl) (a2 : Sl) (h : GH) (K : Bool → GH → Option β) : Option β := gfun Try.prog (CF_ref01_Same ) HF_ref01_Same R Try.f16 [Value.slice a1.a a1.n a1.c, Value.slice a2.a a2.n a2.c] h (fun v h' => exB (some v) fun u18 => K u18 h')
set_option maxRecDepth 100000 in
theorem F_ref01_Same_gen  (R : Nat) (a1 : Sl) (a2 : Sl) (h : GH) (K : Bool → GH → Option β) : G_ref01_Same  R a1 a2 h K =
    (bif ((a1.n : Nat) : Int) != ((a2.n : Nat) : Int) then K false h else F_ref01_Same_l0 R R a1 a2 0 h (fun h13 => K true h13) (fun w14 h15 => K w14 h15)) := by kernel_rfl
noncomputable def F_ref01_Same (R : Nat) (a1 : Sl) (a2 : Sl) (h : GH) (K : Bool → GH → Option β) : Option β := G_ref01_Same  R a1 a2 h K
theorem CF_ref01_Same_sim : SimOrc Try.prog (CF_ref01_Same (β := β)) := by
  intro f args h K r hc
  cases hc
set_option maxRecDepth 100000 in
theorem F_ref01_Same_sim {R : Nat} {r : β} {a1 : Sl} {a2 : Sl} {h : GH} {K : Value → GH → Option β} (hc : F_ref01_Same R a1 a2 h (fun q0 h' => K (Value.bool q0) h') = some r) : ∃ v h', K v h' = some r ∧ CallSim Try.prog 16 [Value.slice a1.a a1.n a1.c, Value.slice a2.a a2.n a2.c] h v h' := by
  unfold F_ref01_Same G_ref01_Same at hc
  obtain ⟨v, h', hk, hs⟩ := gfun_sim CF_ref01_Same_sim mixed_ok (fun f h => by cases h) Try.func16 (by kernel_rfl) hc
  obtain ⟨u0, e0, hk⟩ := exB_v hk; cases e0
  exact ⟨_, h', hk, hs⟩
/-! F6 duffel/duffellaw26.DenoteAgain -/
def CF_law26_DenoteAgain (F_ref01_Cut : Sl → Int → GH → (Sl → GH → Option β) → Option β) (F_denote_Scan : Sl → GH → (Sl → Sl → Int → GH → Option β) → Option β) (F_law26_lives : GH → (Bool → GH → Option β) → Option β) (F_denote_Join : Sl → Sl → GH → (Sl → Int → GH → Option β) → Option β) (F_ref01_Same : Sl → Sl → GH → (Bool → GH → Option β) → Option β) : Orc β := fun f args h K => bif Nat.beq f 12 then (match args with | [.slice p1a p1n p1c, .int .i64 p2] => F_ref01_Cut ⟨p1a, p1n, p1c⟩ p2 h (fun q4 h' => K (Value.slice q4.a q4.n q4.c) h') | _ => none) else (bif Nat.beq f 14 then (match args with | [.slice p1a p1n p1c] => F_denote_Scan ⟨p1a, p1n, p1c⟩ h (fun q41 q42 q43 h' => K (Value.tuple #[Value.slice q41.a q41.n q41.c, Value.slice q42.a q42.n q42.c, Value.int .i64 q43]) h') | _ => none) else (bif Nat.beq f 11 then (match args with | [] => F_law26_lives  h (fun q1 h' => K (Value.bool q1) h') | _ => none) else (bif Nat.beq f 20 then (match args with | [.slice p1a p1n p1c, .slice p2a p2n p2c] => F_denote_Join ⟨p1a, p1n, p1c⟩ ⟨p2a, p2n, p2c⟩ h (fun q133 q134 h' => K (Value.tuple #[Value.slice q133.a q133.n q133.c, Value.int .i64 q134]) h') | _ => none) else (bif Nat.beq f 16 then (match args with | [.slice p1a p1n p1c, .slice p2a p2n p2c] => F_ref01_Same ⟨p1a, p1n, p1c⟩ ⟨p2a, p2n, p2c⟩ h (fun q16 h' => K (Value.bool q16) h') | _ => none) else none))))
def HF_law26_DenoteAgain : Hints := ⟨[], [], []⟩
noncomputable def G_law26_DenoteAgain (F_ref01_Cut : Sl → Int → GH → (Sl → GH → Option β) → Option β) (F_denote_Scan : Sl → GH → (Sl → Sl → Int → GH → Option β) → Option β) (F_law26_lives : GH → (Bool → GH → Option β) → Option β) (F_denote_Join : Sl → Sl → GH → (Sl → Int → GH → Option β) → Option β) (F_ref01_Same : Sl → Sl → GH → (Bool → GH → Option β) → Option β) (R : Nat) (a1 : Sl) (h : GH) (K : Bool → GH → Option β) : Option β := gfun Try.prog (CF_law26_DenoteAgain F_ref01_Cut F_denote_Scan F_law26_lives F_denote_Join F_ref01_Same) HF_law26_DenoteAgain R Try.f6 [Value.slice a1.a a1.n a1.c] h (fun v h' => exB (some v) fun u18 => K u18 h')
set_option maxRecDepth 100000 in
theorem F_law26_DenoteAgain_gen (F_ref01_Cut : Sl → Int → GH → (Sl → GH → Option β) → Option β) (F_denote_Scan : Sl → GH → (Sl → Sl → Int → GH → Option β) → Option β) (F_law26_lives : GH → (Bool → GH → Option β) → Option β) (F_denote_Join : Sl → Sl → GH → (Sl → Int → GH → Option β) → Option β) (F_ref01_Same : Sl → Sl → GH → (Bool → GH → Option β) → Option β) (R : Nat) (a1 : Sl) (h : GH) (K : Bool → GH → Option β) : G_law26_DenoteAgain F_ref01_Cut F_denote_Scan F_law26_lives F_denote_Join F_ref01_Same R a1 h K =
    F_ref01_Cut a1 900 h fun r2 h3 => F_denote_Scan r2 h3 fun r4 r5 r6 h7 => (bif r6 != 0 then (bif (IntKind.wrap .i64 (((r4.n : Nat) : Int) + ((r5.n : Nat) : Int))) == 0 then F_law26_lives h7 fun r8 h9 => K r8 h9 else K false h7) else F_denote_Join r4 r5 h7 fun r10 r11 h12 => (bif r11 == 0 then F_ref01_Same r2 r10 h12 fun r13 h14 => (bif r13 then F_law26_lives h14 fun r15 h16 => K r15 h16 else K false h14) else K false h12)) := by kernel_rfl
noncomputable def F_law26_DenoteAgain (R : Nat) (a1 : Sl) (h : GH) (K : Bool → GH → Option β) : Option β := G_law26_DenoteAgain (F_ref01_Cut R) (F_denote_Scan R) F_law26_lives (F_denote_Join R) (F_ref01_Same R) R a1 h K
set_option maxRecDepth 100000 in
theorem CF_law26_DenoteAgain_sim {R : Nat} : SimOrc Try.prog (CF_law26_DenoteAgain (F_ref01_Cut R) (F_denote_Scan R) F_law26_lives (F_denote_Join R) (F_ref01_Same R) (β := β)) := by
  intro f args h K r hc
  unfold CF_law26_DenoteAgain at hc
  cases hb : Nat.beq f 12 with
  | true =>
    rw [hb] at hc
    simp only [cond_true] at hc
    obtain rfl := Nat.eq_of_beq_eq_true hb
    split at hc
    · exact any_call (F_ref01_Cut_sim (K := K) hc)
    · cases hc
  | false =>
  rw [hb] at hc
  simp only [cond_false] at hc
  cases hb : Nat.beq f 14 with
  | true =>
    rw [hb] at hc
    simp only [cond_true] at hc
    obtain rfl := Nat.eq_of_beq_eq_true hb
    split at hc
    · exact any_call (F_denote_Scan_sim (K := K) hc)
    · cases hc
  | false =>
  rw [hb] at hc
  simp only [cond_false] at hc
  cases hb : Nat.beq f 11 with
  | true =>
    rw [hb] at hc
    simp only [cond_true] at hc
    obtain rfl := Nat.eq_of_beq_eq_true hb
    split at hc
    · exact any_call (F_law26_lives_sim (K := K) hc)
    · cases hc
  | false =>
  rw [hb] at hc
  simp only [cond_false] at hc
  cases hb : Nat.beq f 20 with
  | true =>
    rw [hb] at hc
    simp only [cond_true] at hc
    obtain rfl := Nat.eq_of_beq_eq_true hb
    split at hc
    · exact any_call (F_denote_Join_sim (K := K) hc)
    · cases hc
  | false =>
  rw [hb] at hc
  simp only [cond_false] at hc
  cases hb : Nat.beq f 16 with
  | true =>
    rw [hb] at hc
    simp only [cond_true] at hc
    obtain rfl := Nat.eq_of_beq_eq_true hb
    split at hc
    · exact any_call (F_ref01_Same_sim (K := K) hc)
    · cases hc
  | false =>
  rw [hb] at hc
  simp only [cond_false] at hc
  cases hc
set_option maxRecDepth 100000 in
theorem F_law26_DenoteAgain_sim {R : Nat} {r : β} {a1 : Sl} {h : GH} {K : Value → GH → Option β} (hc : F_law26_DenoteAgain R a1 h (fun q0 h' => K (Value.bool q0) h') = some r) : ∃ v h', K v h' = some r ∧ CallSim Try.prog 6 [Value.slice a1.a a1.n a1.c] h v h' := by
  unfold F_law26_DenoteAgain G_law26_DenoteAgain at hc
  obtain ⟨v, h', hk, hs⟩ := gfun_sim (CF_law26_DenoteAgain_sim (R := R)) mixed_ok (fun f h => by cases h) Try.func6 (by kernel_rfl) hc
  obtain ⟨u0, e0, hk⟩ := exB_v hk; cases e0
  exact ⟨_, h', hk, hs⟩
/-! F30 duffel/duffelref25.Known -/
def CF_ref25_Known  : Orc β := fun f args h K => none
def HF_ref25_Known : Hints := ⟨[], [], []⟩
noncomputable def G_ref25_Known  (R : Nat) (a1 : Int) (h : GH) (K : Bool → GH → Option β) : Option β := gfun Try.prog (CF_ref25_Known ) HF_ref25_Known R Try.f30 [Value.int .i64 a1] h (fun v h' => exB (some v) fun u3 => K u3 h')
set_option maxRecDepth 100000 in
theorem F_ref25_Known_gen  (R : Nat) (a1 : Int) (h : GH) (K : Bool → GH → Option β) : G_ref25_Known  R a1 h K =
    (bif decide (a1 ≥ 0) then (bif decide (a1 ≤ 9) then K (a1 != 7) h else K false h) else K false h) := by kernel_rfl
noncomputable def F_ref25_Known (R : Nat) (a1 : Int) (h : GH) (K : Bool → GH → Option β) : Option β := G_ref25_Known  R a1 h K
theorem CF_ref25_Known_sim : SimOrc Try.prog (CF_ref25_Known (β := β)) := by
  intro f args h K r hc
  cases hc
set_option maxRecDepth 100000 in
theorem F_ref25_Known_sim {R : Nat} {r : β} {a1 : Int} {h : GH} {K : Value → GH → Option β} (hc : F_ref25_Known R a1 h (fun q0 h' => K (Value.bool q0) h') = some r) : ∃ v h', K v h' = some r ∧ CallSim Try.prog 30 [Value.int .i64 a1] h v h' := by
  unfold F_ref25_Known G_ref25_Known at hc
  obtain ⟨v, h', hk, hs⟩ := gfun_sim CF_ref25_Known_sim mixed_ok (fun f h => by cases h) Try.func30 (by kernel_rfl) hc
  obtain ⟨u0, e0, hk⟩ := exB_v hk; cases e0
  exact ⟨_, h', hk, hs⟩
/-! F31 duffel/duffelref25.Allowed -/
def CF_ref25_Allowed  : Orc β := fun f args h K => none
def HF_ref25_Allowed : Hints := ⟨[], [], []⟩
noncomputable def G_ref25_Allowed  (R : Nat) (a1 : Int) (h : GH) (K : Int → GH → Option β) : Option β := gfun Try.prog (CF_ref25_Allowed ) HF_ref25_Allowed R Try.f31 [Value.int .i64 a1] h (fun v h' => exI .i64 (some v) fun u3 => K u3 h')
set_option maxRecDepth 100000 in
theorem F_ref25_Allowed_gen  (R : Nat) (a1 : Int) (h : GH) (K : Int → GH → Option β) : G_ref25_Allowed  R a1 h K =
    (bif a1 == 6 then K 6 h else (bif a1 == 8 then K 6 h else (bif a1 == 9 then K 6 h else K 0 h))) := by kernel_rfl
noncomputable def F_ref25_Allowed (R : Nat) (a1 : Int) (h : GH) (K : Int → GH → Option β) : Option β := G_ref25_Allowed  R a1 h K
theorem CF_ref25_Allowed_sim : SimOrc Try.prog (CF_ref25_Allowed (β := β)) := by
  intro f args h K r hc
  cases hc
set_option maxRecDepth 100000 in
theorem F_ref25_Allowed_sim {R : Nat} {r : β} {a1 : Int} {h : GH} {K : Value → GH → Option β} (hc : F_ref25_Allowed R a1 h (fun q0 h' => K (Value.int .i64 q0) h') = some r) : ∃ v h', K v h' = some r ∧ CallSim Try.prog 31 [Value.int .i64 a1] h v h' := by
  unfold F_ref25_Allowed G_ref25_Allowed at hc
  obtain ⟨v, h', hk, hs⟩ := gfun_sim CF_ref25_Allowed_sim mixed_ok (fun f h => by cases h) Try.func31 (by kernel_rfl) hc
  obtain ⟨u0, e0, hk⟩ := exI_v hk; cases e0
  exact ⟨_, h', hk, hs⟩
/-! F82 duffel/duffelref02.Num -/
def CF_ref02_Num  : Orc β := fun f args h K => none
def HF_ref02_Num : Hints := ⟨[(3, [0, 3, 4], [(0, [(3, .ty 22)])], none)], [], []⟩
noncomputable def BF_ref02_Num : Code := match Try.f82.body with | some c => c | none => .skip
noncomputable def F_ref02_Num_l0  (R : Nat) (n : Nat) (y2 : Sl) (y3 : Int) (y4 : Int) (h : GH) (K0 : Int → GH → Option β) : Option β := gloop (gcode Try.prog (CF_ref02_Num ) Try.f82.ntmps HF_ref02_Num R (at_ [true, true, false, true, false, false] BF_ref02_Num)) [0, 3, 4] n [(0, Value.slice y2.a y2.n y2.c), (3, Value.int .u32 y3), (4, Value.int .i64 y4)] h (fun i e' h' => bif Nat.beq i 0 then (exI .u32 (some (e'.get 3)) fun u12 => K0 u12 h') else none) (fun e' h' => none)
set_option maxRecDepth 100000 in
theorem F_ref02_Num_l0_succ  (R : Nat) (n : Nat) (y2 : Sl) (y3 : Int) (y4 : Int) (h : GH) (K0 : Int → GH → Option β) : F_ref02_Num_l0  R (n + 1) y2 y3 y4 h K0 =
    (bif decide (y4 ≥ 0) then exA y2.a fun g6 o7 => within y4 y2.n (exI .u8 (h.cell ⟨g6, o7 + y4.toNat * 1, none⟩) fun x8 => F_ref02_Num_l0 R n y2 (IntKind.wrap .u32 ((IntKind.wrap .u32 (y3 * 256)) + (IntKind.wrap .u32 x8))) (IntKind.wrap .i64 (y4 - 1)) h K0) else K0 y3 h) := by kernel_rfl
noncomputable def G_ref02_Num  (R : Nat) (a1 : Sl) (h : GH) (K : Int → GH → Option β) : Option β := gfun Try.prog (CF_ref02_Num ) HF_ref02_Num R Try.f82 [Value.slice a1.a a1.n a1.c] h (fun v h' => exI .u32 (some v) fun u13 => K u13 h')
set_option maxRecDepth 100000 in
theorem F_ref02_Num_gen  (R : Nat) (a1 : Sl) (h : GH) (K : Int → GH → Option β) : G_ref02_Num  R a1 h K =
    F_ref02_Num_l0 R R a1 0 (IntKind.wrap .i64 (((a1.n : Nat) : Int) - 1)) h (fun w9 h10 => K w9 h10) := by kernel_rfl
noncomputable def F_ref02_Num (R : Nat) (a1 : Sl) (h : GH) (K : Int → GH → Option β) : Option β := G_ref02_Num  R a1 h K
theorem CF_ref02_Num_sim : SimOrc Try.prog (CF_ref02_Num (β := β)) := by
  intro f args h K r hc
  cases hc
set_option maxRecDepth 100000 in
theorem F_ref02_Num_sim {R : Nat} {r : β} {a1 : Sl} {h : GH} {K : Value → GH → Option β} (hc : F_ref02_Num R a1 h (fun q0 h' => K (Value.int .u32 q0) h') = some r) : ∃ v h', K v h' = some r ∧ CallSim Try.prog 82 [Value.slice a1.a a1.n a1.c] h v h' := by
  unfold F_ref02_Num G_ref02_Num at hc
  obtain ⟨v, h', hk, hs⟩ := gfun_sim CF_ref02_Num_sim mixed_ok (fun f h => by cases h) Try.func82 (by kernel_rfl) hc
  obtain ⟨u0, e0, hk⟩ := exI_v hk; cases e0
  exact ⟨_, h', hk, hs⟩
/-! F13 duffel/duffelref01.Copy -/
def CF_ref01_Copy  : Orc β := fun f args h K => none
def HF_ref01_Copy : Hints := ⟨[], [], []⟩
noncomputable def G_ref01_Copy  (R : Nat) (a1 : Sl) (h : GH) (K : Sl → GH → Option β) : Option β := gfun Try.prog (CF_ref01_Copy ) HF_ref01_Copy R Try.f13 [Value.slice a1.a a1.n a1.c] h (fun v h' => exS (some v) fun u5 => K u5 h')
set_option maxRecDepth 100000 in
theorem F_ref01_Copy_gen  (R : Nat) (a1 : Sl) (h : GH) (K : Sl → GH → Option β) : G_ref01_Copy  R a1 h K =
    gappS 1 1 ⟨none, 0, 0⟩ a1 h fun s2 h3 => K s2 h3 := by kernel_rfl
noncomputable def F_ref01_Copy (R : Nat) (a1 : Sl) (h : GH) (K : Sl → GH → Option β) : Option β := G_ref01_Copy  R a1 h K
theorem CF_ref01_Copy_sim : SimOrc Try.prog (CF_ref01_Copy (β := β)) := by
  intro f args h K r hc
  cases hc
set_option maxRecDepth 100000 in
theorem F_ref01_Copy_sim {R : Nat} {r : β} {a1 : Sl} {h : GH} {K : Value → GH → Option β} (hc : F_ref01_Copy R a1 h (fun q0 h' => K (Value.slice q0.a q0.n q0.c) h') = some r) : ∃ v h', K v h' = some r ∧ CallSim Try.prog 13 [Value.slice a1.a a1.n a1.c] h v h' := by
  unfold F_ref01_Copy G_ref01_Copy at hc
  obtain ⟨v, h', hk, hs⟩ := gfun_sim CF_ref01_Copy_sim mixed_ok (fun f h => by cases h) Try.func13 (by kernel_rfl) hc
  obtain ⟨u0, e0, hk⟩ := exS_v hk; cases e0
  exact ⟨_, h', hk, hs⟩
/-! F58 duffel/duffelref23.Read -/
def CF_ref23_Read (F_ref02_Num : Sl → GH → (Int → GH → Option β) → Option β) (F_ref01_Copy : Sl → GH → (Sl → GH → Option β) → Option β) : Orc β := fun f args h K => bif Nat.beq f 82 then (match args with | [.slice p1a p1n p1c] => F_ref02_Num ⟨p1a, p1n, p1c⟩ h (fun q11 h' => K (Value.int .u32 q11) h') | _ => none) else (bif Nat.beq f 13 then (match args with | [.slice p1a p1n p1c] => F_ref01_Copy ⟨p1a, p1n, p1c⟩ h (fun q4 h' => K (Value.slice q4.a q4.n q4.c) h') | _ => none) else none)
def HF_ref23_Read : Hints := ⟨[(3, [0, 4, 5], [(0, [(4, .ty 103)])], some [(2, .ty 103), (3, .ty 3)])], [], []⟩
noncomputable def BF_ref23_Read : Code := match Try.f58.body with | some c => c | none => .skip
noncomputable def F_ref23_Read_l0 (F_ref02_Num : Sl → GH → (Int → GH → Option β) → Option β) (F_ref01_Copy : Sl → GH → (Sl → GH → Option β) → Option β) (R : Nat) (n : Nat) (y2 : Sl) (y3 : Sl) (y4 : Int) (h : GH) (K0 : Sl → GH → Option β) (Kr : Sl → Int → GH → Option β) : Option β := gloop (gcode Try.prog (CF_ref23_Read F_ref02_Num F_ref01_Copy) Try.f58.ntmps HF_ref23_Read R (at_ [true, true, true, false, false, false] BF_ref23_Read)) [0, 4, 5] n [(0, Value.slice y2.a y2.n y2.c), (4, Value.slice y3.a y3.n y3.c), (5, Value.int .i64 y4)] h (fun i e' h' => bif Nat.beq i 0 then (exS (some (e'.get 4)) fun u31 => K0 u31 h') else none) (fun e' h' => exS (some (e'.get 2)) fun u32 => exI .i64 (some (e'.get 3)) fun u33 => Kr u32 u33 h')
set_option maxRecDepth 100000 in
theorem F_ref23_Read_l0_succ (F_ref02_Num : Sl → GH → (Int → GH → Option β) → Option β) (F_ref01_Copy : Sl → GH → (Sl → GH → Option β) → Option β) (R : Nat) (n : Nat) (y2 : Sl) (y3 : Sl) (y4 : Int) (h : GH) (K0 : Sl → GH → Option β) (Kr : Sl → Int → GH → Option β) : F_ref23_Read_l0 F_ref02_Num F_ref01_Copy R (n + 1) y2 y3 y4 h K0 Kr =
    (bif decide (y4 < ((y2.n : Nat) : Int)) then (bif decide ((IntKind.wrap .i64 (((y2.n : Nat) : Int) - y4)) < 4) then Kr ⟨none, 0, 0⟩ 3 h else bnd (IntKind.wrap .i64 (y4 + 4)) y2.c fun m8 => bnd (IntKind.wrap .i64 (y4 + 2)) m8 fun m9 => F_ref02_Num ⟨addO y2.a (m9 * 1), m8 - m9, y2.c - m9⟩ h fun r10 h11 => (bif decide ((IntKind.wrap .i64 r10) > (IntKind.wrap .i64 ((IntKind.wrap .i64 (((y2.n : Nat) : Int) - y4)) - 4))) then Kr ⟨none, 0, 0⟩ 3 h11 else bnd (IntKind.wrap .i64 (y4 + 2)) y2.c fun m12 => bnd y4 m12 fun m13 => F_ref02_Num ⟨addO y2.a (m13 * 1), m12 - m13, y2.c - m13⟩ h11 fun r14 h15 => bnd (IntKind.wrap .i64 ((IntKind.wrap .i64 (y4 + 4)) + (IntKind.wrap .i64 r10))) y2.c fun m16 => bnd (IntKind.wrap .i64 (y4 + 4)) m16 fun m17 => F_ref01_Copy ⟨addO y2.a (m17 * 1), m16 - m17, y2.c - m17⟩ h15 fun r18 h19 => gnew [Value.int .i64 (IntKind.wrap .i64 r14), Value.slice r18.a r18.n r18.c] 2 h19 fun g20 h21 => gappS 2 32 y3 ⟨(some ⟨g20, 0, none⟩), 1, 1⟩ h21 fun s22 h23 => F_ref23_Read_l0 F_ref02_Num F_ref01_Copy R n y2 s22 (IntKind.wrap .i64 ((IntKind.wrap .i64 (y4 + 4)) + (IntKind.wrap .i64 r10))) h23 K0 Kr)) else K0 y3 h) := by kernel_rfl
noncomputable def G_ref23_Read (F_ref02_Num : Sl → GH → (Int → GH → Option β) → Option β) (F_ref01_Copy : Sl → GH → (Sl → GH → Option β) → Option β) (R : Nat) (a1 : Sl) (h : GH) (K : Sl → Int → GH → Option β) : Option β := gfun Try.prog (CF_ref23_Read F_ref02_Num F_ref01_Copy) HF_ref23_Read R Try.f58 [Value.slice a1.a a1.n a1.c] h (fun v h' => exTup 2 v fun vs => exV (nth vs 0) fun v0 => exS (some v0) fun u34 => exV (nth vs 1) fun v1 => exI .i64 (some v1) fun u35 => K u34 u35 h')
set_option maxRecDepth 100000 in
theorem F_ref23_Read_gen (F_ref02_Num : Sl → GH → (Int → GH → Option β) → Option β) (F_ref01_Copy : Sl → GH → (Sl → GH → Option β) → Option β) (R : Nat) (a1 : Sl) (h : GH) (K : Sl → Int → GH → Option β) : G_ref23_Read F_ref02_Num F_ref01_Copy R a1 h K =
    F_ref23_Read_l0 F_ref02_Num F_ref01_Copy R R a1 ⟨none, 0, 0⟩ 0 h (fun w24 h25 => K w24 0 h25) (fun w26 w27 h28 => K w26 w27 h28) := by kernel_rfl
noncomputable def F_ref23_Read (R : Nat) (a1 : Sl) (h : GH) (K : Sl → Int → GH → Option β) : Option β := G_ref23_Read (F_ref02_Num R) (F_ref01_Copy R) R a1 h K
set_option maxRecDepth 100000 in
theorem CF_ref23_Read_sim {R : Nat} : SimOrc Try.prog (CF_ref23_Read (F_ref02_Num R) (F_ref01_Copy R) (β := β)) := by
  intro f args h K r hc
  unfold CF_ref23_Read at hc
  cases hb : Nat.beq f 82 with
  | true =>
    rw [hb] at hc
    simp only [cond_true] at hc
    obtain rfl := Nat.eq_of_beq_eq_true hb
    split at hc
    · exact any_call (F_ref02_Num_sim (K := K) hc)
    · cases hc
  | false =>
  rw [hb] at hc
  simp only [cond_false] at hc
  cases hb : Nat.beq f 13 with
  | true =>
    rw [hb] at hc
    simp only [cond_true] at hc
    obtain rfl := Nat.eq_of_beq_eq_true hb
    split at hc
    · exact any_call (F_ref01_Copy_sim (K := K) hc)
    · cases hc
  | false =>
  rw [hb] at hc
  simp only [cond_false] at hc
  cases hc
set_option maxRecDepth 100000 in
theorem F_ref23_Read_sim {R : Nat} {r : β} {a1 : Sl} {h : GH} {K : Value → GH → Option β} (hc : F_ref23_Read R a1 h (fun q0 q1 h' => K (Value.tuple #[Value.slice q0.a q0.n q0.c, Value.int .i64 q1]) h') = some r) : ∃ v h', K v h' = some r ∧ CallSim Try.prog 58 [Value.slice a1.a a1.n a1.c] h v h' := by
  unfold F_ref23_Read G_ref23_Read at hc
  obtain ⟨v, h', hk, hs⟩ := gfun_sim (CF_ref23_Read_sim (R := R)) mixed_ok (fun f h => by cases h) Try.func58 (by kernel_rfl) hc
  obtain ⟨vs, rfl, hl, hk⟩ := exTup_v hk
  obtain ⟨v0, t0, hk⟩ := exV_v hk
  obtain ⟨u0, e0, hk⟩ := exS_v hk; cases e0
  obtain ⟨v1, t1, hk⟩ := exV_v hk
  obtain ⟨u1, e1, hk⟩ := exI_v hk; cases e1
  obtain rfl := arr2 hl t0 t1
  exact ⟨_, h', hk, hs⟩
/-! F32 duffel/duffelref26.list -/
def CF_ref26_list (F_ref23_Read : Sl → GH → (Sl → Int → GH → Option β) → Option β) : Orc β := fun f args h K => bif Nat.beq f 58 then (match args with | [.slice p1a p1n p1c] => F_ref23_Read ⟨p1a, p1n, p1c⟩ h (fun q29 q30 h' => K (Value.tuple #[Value.slice q29.a q29.n q29.c, Value.int .i64 q30]) h') | _ => none) else none
def HF_ref26_list : Hints := ⟨[(5, [3, 5], [(0, [])], some [(2, .ty 3)])], [], []⟩
noncomputable def BF_ref26_list : Code := match Try.f32.body with | some c => c | none => .skip
noncomputable def F_ref26_list_l0 (F_ref23_Read : Sl → GH → (Sl → Int → GH → Option β) → Option β) (R : Nat) (n : Nat) (y5 : Sl) (y6 : Int) (h : GH) (K0 : GH → Option β) (Kr : Int → GH → Option β) : Option β := gloop (gcode Try.prog (CF_ref26_list F_ref23_Read) Try.f32.ntmps HF_ref26_list R (at_ [true, true, true, false, true, false, false] BF_ref26_list)) [3, 5] n [(3, Value.slice y5.a y5.n y5.c), (5, Value.int .i64 y6)] h (fun i e' h' => bif Nat.beq i 0 then (K0 h') else none) (fun e' h' => exI .i64 (some (e'.get 2)) fun u15 => Kr u15 h')
set_option maxRecDepth 100000 in
theorem F_ref26_list_l0_succ (F_ref23_Read : Sl → GH → (Sl → Int → GH → Option β) → Option β) (R : Nat) (n : Nat) (y5 : Sl) (y6 : Int) (h : GH) (K0 : GH → Option β) (Kr : Int → GH → Option β) : F_ref26_list_l0 F_ref23_Read R (n + 1) y5 y6 h K0 Kr =
    (bif decide (y6 < ((y5.n : Nat) : Int)) then exA y5.a fun g8 o9 => within y6 y5.n (exI .i64 (h.cell ⟨g8, o9 + y6.toNat * 2 + 0, none⟩) fun x10 => (bif x10 == 1 then Kr 12 h else F_ref26_list_l0 F_ref23_Read R n y5 (IntKind.wrap .i64 (y6 + 1)) h K0 Kr)) else K0 h) := by kernel_rfl
noncomputable def G_ref26_list (F_ref23_Read : Sl → GH → (Sl → Int → GH → Option β) → Option β) (R : Nat) (a1 : Sl) (h : GH) (K : Int → GH → Option β) : Option β := gfun Try.prog (CF_ref26_list F_ref23_Read) HF_ref26_list R Try.f32 [Value.slice a1.a a1.n a1.c] h (fun v h' => exI .i64 (some v) fun u16 => K u16 h')
set_option maxRecDepth 100000 in
theorem F_ref26_list_gen (F_ref23_Read : Sl → GH → (Sl → Int → GH → Option β) → Option β) (R : Nat) (a1 : Sl) (h : GH) (K : Int → GH → Option β) : G_ref26_list F_ref23_Read R a1 h K =
    F_ref23_Read a1 h fun r2 r3 h4 => (bif r3 != 0 then K 4 h4 else F_ref26_list_l0 F_ref23_Read R R r2 0 h4 (fun h11 => K 0 h11) (fun w12 h13 => K w12 h13)) := by kernel_rfl
noncomputable def F_ref26_list (R : Nat) (a1 : Sl) (h : GH) (K : Int → GH → Option β) : Option β := G_ref26_list (F_ref23_Read R) R a1 h K
set_option maxRecDepth 100000 in
theorem CF_ref26_list_sim {R : Nat} : SimOrc Try.prog (CF_ref26_list (F_ref23_Read R) (β := β)) := by
  intro f args h K r hc
  unfold CF_ref26_list at hc
  cases hb : Nat.beq f 58 with
  | true =>
    rw [hb] at hc
    simp only [cond_true] at hc
    obtain rfl := Nat.eq_of_beq_eq_true hb
    split at hc
    · exact any_call (F_ref23_Read_sim (K := K) hc)
    · cases hc
  | false =>
  rw [hb] at hc
  simp only [cond_false] at hc
  cases hc
set_option maxRecDepth 100000 in
theorem F_ref26_list_sim {R : Nat} {r : β} {a1 : Sl} {h : GH} {K : Value → GH → Option β} (hc : F_ref26_list R a1 h (fun q0 h' => K (Value.int .i64 q0) h') = some r) : ∃ v h', K v h' = some r ∧ CallSim Try.prog 32 [Value.slice a1.a a1.n a1.c] h v h' := by
  unfold F_ref26_list G_ref26_list at hc
  obtain ⟨v, h', hk, hs⟩ := gfun_sim (CF_ref26_list_sim (R := R)) mixed_ok (fun f h => by cases h) Try.func32 (by kernel_rfl) hc
  obtain ⟨u0, e0, hk⟩ := exI_v hk; cases e0
  exact ⟨_, h', hk, hs⟩
/-! F88 duffel/duffelref22.Month -/
def CF_ref22_Month  : Orc β := fun f args h K => none
def HF_ref22_Month : Hints := ⟨[], [], []⟩
noncomputable def G_ref22_Month  (R : Nat) (a1 : Int) (a2 : Int) (h : GH) (K : Int → GH → Option β) : Option β := gfun Try.prog (CF_ref22_Month ) HF_ref22_Month R Try.f88 [Value.int .i64 a1, Value.int .i64 a2] h (fun v h' => exI .i64 (some v) fun u9 => K u9 h')
set_option maxRecDepth 100000 in
theorem F_ref22_Month_gen  (R : Nat) (a1 : Int) (a2 : Int) (h : GH) (K : Int → GH → Option β) : G_ref22_Month  R a1 a2 h K =
    gnew [Value.int .i64 31, Value.int .i64 28, Value.int .i64 31, Value.int .i64 30, Value.int .i64 31, Value.int .i64 30, Value.int .i64 31, Value.int .i64 31, Value.int .i64 30, Value.int .i64 31, Value.int .i64 30, Value.int .i64 31] 1 h fun g3 h4 => (bif a2 == 2 then (bif (Int.tmod a1 4) == 0 then (bif a1 != 2100 then K 29 h4 else within (IntKind.wrap .i64 (a2 - 1)) 12 (exI .i64 (h4.cell ⟨g3, 0 + (IntKind.wrap .i64 (a2 - 1)).toNat * 1, none⟩) fun x5 => K x5 h4)) else within (IntKind.wrap .i64 (a2 - 1)) 12 (exI .i64 (h4.cell ⟨g3, 0 + (IntKind.wrap .i64 (a2 - 1)).toNat * 1, none⟩) fun x6 => K x6 h4)) else within (IntKind.wrap .i64 (a2 - 1)) 12 (exI .i64 (h4.cell ⟨g3, 0 + (IntKind.wrap .i64 (a2 - 1)).toNat * 1, none⟩) fun x7 => K x7 h4)) := by kernel_rfl
noncomputable def F_ref22_Month (R : Nat) (a1 : Int) (a2 : Int) (h : GH) (K : Int → GH → Option β) : Option β := G_ref22_Month  R a1 a2 h K
theorem CF_ref22_Month_sim : SimOrc Try.prog (CF_ref22_Month (β := β)) := by
  intro f args h K r hc
  cases hc
set_option maxRecDepth 100000 in
theorem F_ref22_Month_sim {R : Nat} {r : β} {a1 : Int} {a2 : Int} {h : GH} {K : Value → GH → Option β} (hc : F_ref22_Month R a1 a2 h (fun q0 h' => K (Value.int .i64 q0) h') = some r) : ∃ v h', K v h' = some r ∧ CallSim Try.prog 88 [Value.int .i64 a1, Value.int .i64 a2] h v h' := by
  unfold F_ref22_Month G_ref22_Month at hc
  obtain ⟨v, h', hk, hs⟩ := gfun_sim CF_ref22_Month_sim mixed_ok (fun f h => by cases h) Try.func88 (by kernel_rfl) hc
  obtain ⟨u0, e0, hk⟩ := exI_v hk; cases e0
  exact ⟨_, h', hk, hs⟩
/-! F59 duffel/duffelref22.Is -/
def CF_ref22_Is (F_ref22_Month : Int → Int → GH → (Int → GH → Option β) → Option β) : Orc β := fun f args h K => bif Nat.beq f 88 then (match args with | [.int .i64 p1, .int .i64 p2] => F_ref22_Month p1 p2 h (fun q8 h' => K (Value.int .i64 q8) h') | _ => none) else none
def HF_ref22_Is : Hints := ⟨[], [], []⟩
noncomputable def G_ref22_Is (F_ref22_Month : Int → Int → GH → (Int → GH → Option β) → Option β) (R : Nat) (a1 : Int) (a2 : Int) (a3 : Int) (a4 : Int) (a5 : Int) (a6 : Int) (h : GH) (K : Bool → GH → Option β) : Option β := gfun Try.prog (CF_ref22_Is F_ref22_Month) HF_ref22_Is R Try.f59 [Value.agg #[Value.int .i64 a1, Value.int .i64 a2, Value.int .i64 a3, Value.int .i64 a4, Value.int .i64 a5, Value.int .i64 a6]] h (fun v h' => exB (some v) fun u27 => K u27 h')
set_option maxRecDepth 100000 in
theorem F_ref22_Is_gen (F_ref22_Month : Int → Int → GH → (Int → GH → Option β) → Option β) (R : Nat) (a1 : Int) (a2 : Int) (a3 : Int) (a4 : Int) (a5 : Int) (a6 : Int) (h : GH) (K : Bool → GH → Option β) : G_ref22_Is F_ref22_Month R a1 a2 a3 a4 a5 a6 h K =
    gnew [Value.int .i64 a1, Value.int .i64 a2, Value.int .i64 a3, Value.int .i64 a4, Value.int .i64 a5, Value.int .i64 a6] 0 h fun g7 h8 => exI .i64 (h8.cell ⟨g7, 0 + 0, none⟩) fun x9 => (bif decide (x9 < 1980) then K false h8 else exI .i64 (h8.cell ⟨g7, 0 + 0, none⟩) fun x10 => (bif decide (x10 > 2107) then K false h8 else exI .i64 (h8.cell ⟨g7, 0 + 1, none⟩) fun x11 => (bif decide (x11 < 1) then K false h8 else exI .i64 (h8.cell ⟨g7, 0 + 1, none⟩) fun x12 => (bif decide (x12 > 12) then K false h8 else exI .i64 (h8.cell ⟨g7, 0 + 2, none⟩) fun x13 => (bif decide (x13 < 1) then K false h8 else exI .i64 (h8.cell ⟨g7, 0 + 2, none⟩) fun x14 => exI .i64 (h8.cell ⟨g7, 0 + 0, none⟩) fun x15 => exI .i64 (h8.cell ⟨g7, 0 + 1, none⟩) fun x16 => F_ref22_Month x15 x16 h8 fun r17 h18 => (bif sameAt g7 (0 + 2) 1 h8 h18 then (bif decide (x14 > r17) then K false h18 else exI .i64 (h18.cell ⟨g7, 0 + 3, none⟩) fun x19 => (bif decide ((0 : Int) ≤ x19) then exI .i64 (h18.cell ⟨g7, 0 + 3, none⟩) fun x20 => (bif decide (x20 ≤ 23) then exI .i64 (h18.cell ⟨g7, 0 + 4, none⟩) fun x21 => (bif decide ((0 : Int) ≤ x21) then exI .i64 (h18.cell ⟨g7, 0 + 4, none⟩) fun x22 => (bif decide (x22 ≤ 59) then exI .i64 (h18.cell ⟨g7, 0 + 5, none⟩) fun x23 => (bif decide ((0 : Int) ≤ x23) then exI .i64 (h18.cell ⟨g7, 0 + 5, none⟩) fun x24 => (bif decide (x24 ≤ 58) then exI .i64 (h18.cell ⟨g7, 0 + 5, none⟩) fun x25 => K ((Int.tmod x25 2) == 0) h18 else K false h18) else K false h18) else K false h18) else K false h18) else K false h18) else K false h18)) else none)))))) := by kernel_rfl
noncomputable def F_ref22_Is (R : Nat) (a1 : Int) (a2 : Int) (a3 : Int) (a4 : Int) (a5 : Int) (a6 : Int) (h : GH) (K : Bool → GH → Option β) : Option β := G_ref22_Is (F_ref22_Month R) R a1 a2 a3 a4 a5 a6 h K
set_option maxRecDepth 100000 in
theorem CF_ref22_Is_sim {R : Nat} : SimOrc Try.prog (CF_ref22_Is (F_ref22_Month R) (β := β)) := by
  intro f args h K r hc
  unfold CF_ref22_Is at hc
  cases hb : Nat.beq f 88 with
  | true =>
    rw [hb] at hc
    simp only [cond_true] at hc
    obtain rfl := Nat.eq_of_beq_eq_true hb
    split at hc
    · exact any_call (F_ref22_Month_sim (K := K) hc)
    · cases hc
  | false =>
  rw [hb] at hc
  simp only [cond_false] at hc
  cases hc
set_option maxRecDepth 100000 in
theorem F_ref22_Is_sim {R : Nat} {r : β} {a1 : Int} {a2 : Int} {a3 : Int} {a4 : Int} {a5 : Int} {a6 : Int} {h : GH} {K : Value → GH → Option β} (hc : F_ref22_Is R a1 a2 a3 a4 a5 a6 h (fun q0 h' => K (Value.bool q0) h') = some r) : ∃ v h', K v h' = some r ∧ CallSim Try.prog 59 [Value.agg #[Value.int .i64 a1, Value.int .i64 a2, Value.int .i64 a3, Value.int .i64 a4, Value.int .i64 a5, Value.int .i64 a6]] h v h' := by
  unfold F_ref22_Is G_ref22_Is at hc
  obtain ⟨v, h', hk, hs⟩ := gfun_sim (CF_ref22_Is_sim (R := R)) mixed_ok (fun f h => by cases h) Try.func59 (by kernel_rfl) hc
  obtain ⟨u0, e0, hk⟩ := exB_v hk; cases e0
  exact ⟨_, h', hk, hs⟩
/-! F33 duffel/duffelref22.Unpack -/
def CF_ref22_Unpack (F_ref22_Is : Int → Int → Int → Int → Int → Int → GH → (Bool → GH → Option β) → Option β) : Orc β := fun f args h K => bif Nat.beq f 59 then (match args with | [.agg ⟨[.int .i64 p1, .int .i64 p2, .int .i64 p3, .int .i64 p4, .int .i64 p5, .int .i64 p6]⟩] => F_ref22_Is p1 p2 p3 p4 p5 p6 h (fun q26 h' => K (Value.bool q26) h') | _ => none) else none
def HF_ref22_Unpack : Hints := ⟨[], [], []⟩
noncomputable def G_ref22_Unpack (F_ref22_Is : Int → Int → Int → Int → Int → Int → GH → (Bool → GH → Option β) → Option β) (R : Nat) (a1 : Int) (a2 : Int) (h : GH) (K : Int → Int → Int → Int → Int → Int → Int → GH → Option β) : Option β := gfun Try.prog (CF_ref22_Unpack F_ref22_Is) HF_ref22_Unpack R Try.f33 [Value.int .i64 a1, Value.int .i64 a2] h (fun v h' => exTup 2 v fun vs => exV (nth vs 0) fun v0 => exAg v0 fun c71 => (bif Nat.beq c71.length 6 then exI .i64 (nth c71 (0)) fun u72 => exI .i64 (nth c71 (0 + 1)) fun u73 => exI .i64 (nth c71 (0 + 1 + 1)) fun u74 => exI .i64 (nth c71 (0 + 1 + 1 + 1)) fun u75 => exI .i64 (nth c71 (0 + 1 + 1 + 1 + 1)) fun u76 => exI .i64 (nth c71 (0 + 1 + 1 + 1 + 1 + 1)) fun u77 => exV (nth vs 1) fun v1 => exI .i64 (some v1) fun u78 => K u72 u73 u74 u75 u76 u77 u78 h' else none))
set_option maxRecDepth 100000 in
theorem F_ref22_Unpack_gen (F_ref22_Is : Int → Int → Int → Int → Int → Int → GH → (Bool → GH → Option β) → Option β) (R : Nat) (a1 : Int) (a2 : Int) (h : GH) (K : Int → Int → Int → Int → Int → Int → Int → GH → Option β) : G_ref22_Unpack F_ref22_Is R a1 a2 h K =
    gnew [Value.int .i64 0, Value.int .i64 0, Value.int .i64 0, Value.int .i64 0, Value.int .i64 0, Value.int .i64 0] 0 h fun g3 h4 => (bif decide (a1 < 0) then gput g3 (0) [Value.int .i64 0, Value.int .i64 0, Value.int .i64 0, Value.int .i64 0, Value.int .i64 0, Value.int .i64 0] h4 fun h5 => exI .i64 (h5.cell ⟨g3, 0, none⟩) fun x6 => exI .i64 (h5.cell ⟨g3, 0 + 1, none⟩) fun x7 => exI .i64 (h5.cell ⟨g3, 0 + 1 + 1, none⟩) fun x8 => exI .i64 (h5.cell ⟨g3, 0 + 1 + 1 + 1, none⟩) fun x9 => exI .i64 (h5.cell ⟨g3, 0 + 1 + 1 + 1 + 1, none⟩) fun x10 => exI .i64 (h5.cell ⟨g3, 0 + 1 + 1 + 1 + 1 + 1, none⟩) fun x11 => K x6 x7 x8 x9 x10 x11 2 h5 else (bif decide (a1 > 65535) then gput g3 (0) [Value.int .i64 0, Value.int .i64 0, Value.int .i64 0, Value.int .i64 0, Value.int .i64 0, Value.int .i64 0] h4 fun h12 => exI .i64 (h12.cell ⟨g3, 0, none⟩) fun x13 => exI .i64 (h12.cell ⟨g3, 0 + 1, none⟩) fun x14 => exI .i64 (h12.cell ⟨g3, 0 + 1 + 1, none⟩) fun x15 => exI .i64 (h12.cell ⟨g3, 0 + 1 + 1 + 1, none⟩) fun x16 => exI .i64 (h12.cell ⟨g3, 0 + 1 + 1 + 1 + 1, none⟩) fun x17 => exI .i64 (h12.cell ⟨g3, 0 + 1 + 1 + 1 + 1 + 1, none⟩) fun x18 => K x13 x14 x15 x16 x17 x18 2 h12 else (bif decide (a2 < 0) then gput g3 (0) [Value.int .i64 0, Value.int .i64 0, Value.int .i64 0, Value.int .i64 0, Value.int .i64 0, Value.int .i64 0] h4 fun h19 => exI .i64 (h19.cell ⟨g3, 0, none⟩) fun x20 => exI .i64 (h19.cell ⟨g3, 0 + 1, none⟩) fun x21 => exI .i64 (h19.cell ⟨g3, 0 + 1 + 1, none⟩) fun x22 => exI .i64 (h19.cell ⟨g3, 0 + 1 + 1 + 1, none⟩) fun x23 => exI .i64 (h19.cell ⟨g3, 0 + 1 + 1 + 1 + 1, none⟩) fun x24 => exI .i64 (h19.cell ⟨g3, 0 + 1 + 1 + 1 + 1 + 1, none⟩) fun x25 => K x20 x21 x22 x23 x24 x25 2 h19 else (bif decide (a2 > 65535) then gput g3 (0) [Value.int .i64 0, Value.int .i64 0, Value.int .i64 0, Value.int .i64 0, Value.int .i64 0, Value.int .i64 0] h4 fun h26 => exI .i64 (h26.cell ⟨g3, 0, none⟩) fun x27 => exI .i64 (h26.cell ⟨g3, 0 + 1, none⟩) fun x28 => exI .i64 (h26.cell ⟨g3, 0 + 1 + 1, none⟩) fun x29 => exI .i64 (h26.cell ⟨g3, 0 + 1 + 1 + 1, none⟩) fun x30 => exI .i64 (h26.cell ⟨g3, 0 + 1 + 1 + 1 + 1, none⟩) fun x31 => exI .i64 (h26.cell ⟨g3, 0 + 1 + 1 + 1 + 1 + 1, none⟩) fun x32 => K x27 x28 x29 x30 x31 x32 2 h26 else gnew [Value.int .i64 0, Value.int .i64 0, Value.int .i64 0, Value.int .i64 0, Value.int .i64 0, Value.int .i64 0] 0 h4 fun g33 h34 => gput g33 (0) [Value.int .i64 (IntKind.wrap .i64 (1980 + (IntKind.wrap .i64 (Int.tdiv a2 512)))), Value.int .i64 (Int.tmod (IntKind.wrap .i64 (Int.tdiv a2 32)) 16), Value.int .i64 (Int.tmod a2 32), Value.int .i64 (IntKind.wrap .i64 (Int.tdiv a1 2048)), Value.int .i64 (Int.tmod (IntKind.wrap .i64 (Int.tdiv a1 32)) 64), Value.int .i64 (IntKind.wrap .i64 (2 * (Int.tmod a1 32)))] h34 fun h35 => exI .i64 (h35.cell ⟨g33, 0, none⟩) fun x36 => exI .i64 (h35.cell ⟨g33, 0 + 1, none⟩) fun x37 => exI .i64 (h35.cell ⟨g33, 0 + 1 + 1, none⟩) fun x38 => exI .i64 (h35.cell ⟨g33, 0 + 1 + 1 + 1, none⟩) fun x39 => exI .i64 (h35.cell ⟨g33, 0 + 1 + 1 + 1 + 1, none⟩) fun x40 => exI .i64 (h35.cell ⟨g33, 0 + 1 + 1 + 1 + 1 + 1, none⟩) fun x41 => F_ref22_Is x36 x37 x38 x39 x40 x41 h35 fun r42 h43 => (bif !r42 then gput g3 (0) [Value.int .i64 0, Value.int .i64 0, Value.int .i64 0, Value.int .i64 0, Value.int .i64 0, Value.int .i64 0] h43 fun h44 => exI .i64 (h44.cell ⟨g3, 0, none⟩) fun x45 => exI .i64 (h44.cell ⟨g3, 0 + 1, none⟩) fun x46 => exI .i64 (h44.cell ⟨g3, 0 + 1 + 1, none⟩) fun x47 => exI .i64 (h44.cell ⟨g3, 0 + 1 + 1 + 1, none⟩) fun x48 => exI .i64 (h44.cell ⟨g3, 0 + 1 + 1 + 1 + 1, none⟩) fun x49 => exI .i64 (h44.cell ⟨g3, 0 + 1 + 1 + 1 + 1 + 1, none⟩) fun x50 => K x45 x46 x47 x48 x49 x50 17 h44 else exI .i64 (h43.cell ⟨g33, 0, none⟩) fun x51 => exI .i64 (h43.cell ⟨g33, 0 + 1, none⟩) fun x52 => exI .i64 (h43.cell ⟨g33, 0 + 1 + 1, none⟩) fun x53 => exI .i64 (h43.cell ⟨g33, 0 + 1 + 1 + 1, none⟩) fun x54 => exI .i64 (h43.cell ⟨g33, 0 + 1 + 1 + 1 + 1, none⟩) fun x55 => exI .i64 (h43.cell ⟨g33, 0 + 1 + 1 + 1 + 1 + 1, none⟩) fun x56 => gput g3 (0) [Value.int .i64 x51, Value.int .i64 x52, Value.int .i64 x53, Value.int .i64 x54, Value.int .i64 x55, Value.int .i64 x56] h43 fun h57 => exI .i64 (h57.cell ⟨g3, 0, none⟩) fun x58 => exI .i64 (h57.cell ⟨g3, 0 + 1, none⟩) fun x59 => exI .i64 (h57.cell ⟨g3, 0 + 1 + 1, none⟩) fun x60 => exI .i64 (h57.cell ⟨g3, 0 + 1 + 1 + 1, none⟩) fun x61 => exI .i64 (h57.cell ⟨g3, 0 + 1 + 1 + 1 + 1, none⟩) fun x62 => exI .i64 (h57.cell ⟨g3, 0 + 1 + 1 + 1 + 1 + 1, none⟩) fun x63 => K x58 x59 x60 x61 x62 x63 0 h57))))) := by kernel_rfl
noncomputable def F_ref22_Unpack (R : Nat) (a1 : Int) (a2 : Int) (h : GH) (K : Int → Int → Int → Int → Int → Int → Int → GH → Option β) : Option β := G_ref22_Unpack (F_ref22_Is R) R a1 a2 h K
set_option maxRecDepth 100000 in
theorem CF_ref22_Unpack_sim {R : Nat} : SimOrc Try.prog (CF_ref22_Unpack (F_ref22_Is R) (β := β)) := by
  intro f args h K r hc
  unfold CF_ref22_Unpack at hc
  cases hb : Nat.beq f 59 with
  | true =>
    rw [hb] at hc
    simp only [cond_true] at hc
    obtain rfl := Nat.eq_of_beq_eq_true hb
    split at hc
    · exact any_call (F_ref22_Is_sim (K := K) hc)
    · cases hc
  | false =>
  rw [hb] at hc
  simp only [cond_false] at hc
  cases hc
set_option maxRecDepth 100000 in
theorem F_ref22_Unpack_sim {R : Nat} {r : β} {a1 : Int} {a2 : Int} {h : GH} {K : Value → GH → Option β} (hc : F_ref22_Unpack R a1 a2 h (fun q0 q1 q2 q3 q4 q5 q6 h' => K (Value.tuple #[Value.agg #[Value.int .i64 q0, Value.int .i64 q1, Value.int .i64 q2, Value.int .i64 q3, Value.int .i64 q4, Value.int .i64 q5], Value.int .i64 q6]) h') = some r) : ∃ v h', K v h' = some r ∧ CallSim Try.prog 33 [Value.int .i64 a1, Value.int .i64 a2] h v h' := by
  unfold F_ref22_Unpack G_ref22_Unpack at hc
  obtain ⟨v, h', hk, hs⟩ := gfun_sim (CF_ref22_Unpack_sim (R := R)) mixed_ok (fun f h => by cases h) Try.func33 (by kernel_rfl) hc
  obtain ⟨vs, rfl, hl, hk⟩ := exTup_v hk
  obtain ⟨v0, t0, hk⟩ := exV_v hk
  obtain ⟨cs0, f0, hk⟩ := exAg_v hk; cases f0; obtain ⟨hl0, hk⟩ := beq_v hk
  obtain ⟨u1, e1, hk⟩ := exI_v hk
  obtain ⟨u2, e2, hk⟩ := exI_v hk
  obtain ⟨u3, e3, hk⟩ := exI_v hk
  obtain ⟨u4, e4, hk⟩ := exI_v hk
  obtain ⟨u5, e5, hk⟩ := exI_v hk
  obtain ⟨u6, e6, hk⟩ := exI_v hk
  obtain rfl := arr6 hl0 e1 e2 e3 e4 e5 e6
  obtain ⟨v1, t1, hk⟩ := exV_v hk
  obtain ⟨u7, e7, hk⟩ := exI_v hk; cases e7
  obtain rfl := arr2 hl t0 t1
  exact ⟨_, h', hk, hs⟩
/-! F10 duffel/duffelref26.CheckCentral -/
def CF_ref26_CheckCentral (F_ref25_Known : Int → GH → (Bool → GH → Option β) → Option β) (F_ref25_Allowed : Int → GH → (Int → GH → Option β) → Option β) (F_ref26_list : Sl → GH → (Int → GH → Option β) → Option β) (F_ref22_Unpack : Int → Int → GH → (Int → Int → Int → Int → Int → Int → Int → GH → Option β) → Option β) : Orc β := fun f args h K => bif Nat.beq f 30 then (match args with | [.int .i64 p1] => F_ref25_Known p1 h (fun q2 h' => K (Value.bool q2) h') | _ => none) else (bif Nat.beq f 31 then (match args with | [.int .i64 p1] => F_ref25_Allowed p1 h (fun q2 h' => K (Value.int .i64 q2) h') | _ => none) else (bif Nat.beq f 32 then (match args with | [.slice p1a p1n p1c] => F_ref26_list ⟨p1a, p1n, p1c⟩ h (fun q14 h' => K (Value.int .i64 q14) h') | _ => none) else (bif Nat.beq f 33 then (match args with | [.int .i64 p1, .int .i64 p2] => F_ref22_Unpack p1 p2 h (fun q64 q65 q66 q67 q68 q69 q70 h' => K (Value.tuple #[Value.agg #[Value.int .i64 q64, Value.int .i64 q65, Value.int .i64 q66, Value.int .i64 q67, Value.int .i64 q68, Value.int .i64 q69], Value.int .i64 q70]) h') | _ => none) else none)))
def HF_ref26_CheckCentral : Hints := ⟨[(4, [1, 3, 4, 5], [(0, [(1, .ty 15), (3, .ty 15)])], some [(2, .ty 3)])], [], []⟩
noncomputable def BF_ref26_CheckCentral : Code := match Try.f10.body with | some c => c | none => .skip
noncomputable def F_ref26_CheckCentral_l0 (F_ref25_Known : Int → GH → (Bool → GH → Option β) → Option β) (F_ref25_Allowed : Int → GH → (Int → GH → Option β) → Option β) (F_ref26_list : Sl → GH → (Int → GH → Option β) → Option β) (F_ref22_Unpack : Int → Int → GH → (Int → Int → Int → Int → Int → Int → Int → GH → Option β) → Option β) (R : Nat) (n : Nat) (y42 : Option Addr) (y43 : Option Addr) (y44 : Sl) (y45 : Int) (h : GH) (K0 : Option Addr → Option Addr → GH → Option β) (Kr : Int → GH → Option β) : Option β := gloop (gcode Try.prog (CF_ref26_CheckCentral F_ref25_Known F_ref25_Allowed F_ref26_list F_ref22_Unpack) Try.f10.ntmps HF_ref26_CheckCentral R (at_ [true, true, true, false, true, false, false] BF_ref26_CheckCentral)) [1, 3, 4, 5] n [(1, Value.pointer y42), (3, Value.pointer y43), (4, Value.slice y44.a y44.n y44.c), (5, Value.int .i64 y45)] h (fun i e' h' => bif Nat.beq i 0 then (exP (some (e'.get 1)) fun u378 => exP (some (e'.get 3)) fun u379 => K0 u378 u379 h') else none) (fun e' h' => exI .i64 (some (e'.get 2)) fun u380 => Kr u380 h')
set_option maxRecDepth 100000 in
theorem F_ref26_CheckCentral_l0_succ (F_ref25_Known : Int → GH → (Bool → GH → Option β) → Option β) (F_ref25_Allowed : Int → GH → (Int → GH → Option β) → Option β) (F_ref26_list : Sl → GH → (Int → GH → Option β) → Option β) (F_ref22_Unpack : Int → Int → GH → (Int → Int → Int → Int → Int → Int → Int → GH → Option β) → Option β) (R : Nat) (n : Nat) (y42 : Option Addr) (y43 : Option Addr) (y44 : Sl) (y45 : Int) (h : GH) (K0 : Option Addr → Option Addr → GH → Option β) (Kr : Int → GH → Option β) : F_ref26_CheckCentral_l0 F_ref25_Known F_ref25_Allowed F_ref26_list F_ref22_Unpack R (n + 1) y42 y43 y44 y45 h K0 Kr =
    (bif decide (y45 < ((y44.n : Nat) : Int)) then exA y44.a fun g49 o50 => within y45 y44.n (exI .i64 (h.cell ⟨g49, o50 + y45.toNat * 1, none⟩) fun x51 => (bif decide (x51 < 0) then Kr 18 h else exA y44.a fun g52 o53 => within y45 y44.n (exI .i64 (h.cell ⟨g52, o53 + y45.toNat * 1, none⟩) fun x54 => (bif decide (x54 > 65535) then Kr 18 h else F_ref26_CheckCentral_l0 F_ref25_Known F_ref25_Allowed F_ref26_list F_ref22_Unpack R n y42 y43 y44 (IntKind.wrap .i64 (y45 + 1)) h K0 Kr)))) else K0 y42 y43 h) := by kernel_rfl
noncomputable def G_ref26_CheckCentral (F_ref25_Known : Int → GH → (Bool → GH → Option β) → Option β) (F_ref25_Allowed : Int → GH → (Int → GH → Option β) → Option β) (F_ref26_list : Sl → GH → (Int → GH → Option β) → Option β) (F_ref22_Unpack : Int → Int → GH → (Int → Int → Int → Int → Int → Int → Int → GH → Option β) → Option β) (R : Nat) (a1 : Int) (a2 : Int) (a3 : Int) (a4 : Int) (a5 : Int) (a6 : Int) (a7 : Int) (a8 : Int) (a9 : Sl) (a10 : Sl) (a11 : Int) (a12 : Int) (a13 : Int) (a14 : Int) (a15 : Int) (a16 : Sl) (h : GH) (K : Int → GH → Option β) : Option β := gfun Try.prog (CF_ref26_CheckCentral F_ref25_Known F_ref25_Allowed F_ref26_list F_ref22_Unpack) HF_ref26_CheckCentral R Try.f10 [Value.agg #[Value.int .i64 a1, Value.int .i64 a2, Value.int .i64 a3, Value.int .i64 a4, Value.int .i64 a5, Value.int .u32 a6, Value.int .u32 a7, Value.int .u32 a8, Value.slice a9.a a9.n a9.c, Value.slice a10.a a10.n a10.c, Value.int .i64 a11, Value.int .i64 a12, Value.int .i64 a13, Value.int .u32 a14, Value.int .u32 a15, Value.slice a16.a a16.n a16.c]] h (fun v h' => exI .i64 (some v) fun u381 => K u381 h')
set_option maxRecDepth 100000 in
theorem F_ref26_CheckCentral_gen (F_ref25_Known : Int → GH → (Bool → GH → Option β) → Option β) (F_ref25_Allowed : Int → GH → (Int → GH → Option β) → Option β) (F_ref26_list : Sl → GH → (Int → GH → Option β) → Option β) (F_ref22_Unpack : Int → Int → GH → (Int → Int → Int → Int → Int → Int → Int → GH → Option β) → Option β) (R : Nat) (a1 : Int) (a2 : Int) (a3 : Int) (a4 : Int) (a5 : Int) (a6 : Int) (a7 : Int) (a8 : Int) (a9 : Sl) (a10 : Sl) (a11 : Int) (a12 : Int) (a13 : Int) (a14 : Int) (a15 : Int) (a16 : Sl) (h : GH) (K : Int → GH → Option β) : G_ref26_CheckCentral F_ref25_Known F_ref25_Allowed F_ref26_list F_ref22_Unpack R a1 a2 a3 a4 a5 a6 a7 a8 a9 a10 a11 a12 a13 a14 a15 a16 h K =
    gnew [Value.int .i64 a1, Value.int .i64 a2, Value.int .i64 a3, Value.int .i64 a4, Value.int .i64 a5, Value.int .u32 a6, Value.int .u32 a7, Value.int .u32 a8, Value.slice a9.a a9.n a9.c, Value.slice a10.a a10.n a10.c, Value.int .i64 a11, Value.int .i64 a12, Value.int .i64 a13, Value.int .u32 a14, Value.int .u32 a15, Value.slice a16.a a16.n a16.c] 0 h fun g17 h18 => exI .i64 (h18.cell ⟨g17, 0 + 0, none⟩) fun x19 => exI .i64 (h18.cell ⟨g17, 0 + 0 + 1, none⟩) fun x20 => exI .i64 (h18.cell ⟨g17, 0 + 0 + 1 + 1, none⟩) fun x21 => exI .i64 (h18.cell ⟨g17, 0 + 0 + 1 + 1 + 1, none⟩) fun x22 => exI .i64 (h18.cell ⟨g17, 0 + 0 + 1 + 1 + 1 + 1, none⟩) fun x23 => exI .u32 (h18.cell ⟨g17, 0 + 0 + 1 + 1 + 1 + 1 + 1, none⟩) fun x24 => exI .u32 (h18.cell ⟨g17, 0 + 0 + 1 + 1 + 1 + 1 + 1 + 1, none⟩) fun x25 => exI .u32 (h18.cell ⟨g17, 0 + 0 + 1 + 1 + 1 + 1 + 1 + 1 + 1, none⟩) fun x26 => exS (h18.cell ⟨g17, 0 + 0 + 1 + 1 + 1 + 1 + 1 + 1 + 1 + 1, none⟩) fun x27 => exS (h18.cell ⟨g17, 0 + 0 + 1 + 1 + 1 + 1 + 1 + 1 + 1 + 1 + 1, none⟩) fun x28 => gnew [Value.int .i64 0, Value.int .i64 0, Value.int .i64 0, Value.int .i64 0, Value.int .i64 0, Value.int .u32 0, Value.int .u32 0, Value.int .u32 0, Value.slice none 0 0, Value.slice none 0 0] 0 h18 fun g29 h30 => gput g29 (0) [Value.int .i64 x19, Value.int .i64 x20, Value.int .i64 x21, Value.int .i64 x22, Value.int .i64 x23, Value.int .u32 x24, Value.int .u32 x25, Value.int .u32 x26, Value.slice x27.a x27.n x27.c, Value.slice x28.a x28.n x28.c] h30 fun h31 => exI .i64 (h31.cell ⟨g29, 0 + 0, none⟩) fun x32 => exI .i64 (h31.cell ⟨g29, 0 + 1, none⟩) fun x33 => exI .i64 (h31.cell ⟨g29, 0 + 2, none⟩) fun x34 => exI .i64 (h31.cell ⟨g29, 0 + 3, none⟩) fun x35 => exI .i64 (h31.cell ⟨g29, 0 + 4, none⟩) fun x36 => exI .i64 (h31.cell ⟨g17, 0 + 10, none⟩) fun x37 => exI .i64 (h31.cell ⟨g17, 0 + 11, none⟩) fun x38 => exI .i64 (h31.cell ⟨g17, 0 + 12, none⟩) fun x39 => gnew [Value.int .i64 x32, Value.int .i64 x33, Value.int .i64 x34, Value.int .i64 x35, Value.int .i64 x36, Value.int .i64 x37, Value.int .i64 x38, Value.int .i64 x39] 1 h31 fun g40 h41 => F_ref26_CheckCentral_l0 F_ref25_Known F_ref25_Allowed F_ref26_list F_ref22_Unpack R R (some ⟨g17, 0, none⟩) (some ⟨g29, 0, none⟩) ⟨(some ⟨g40, 0, none⟩), 8, 8⟩ 0 h41 (fun w55 w56 h57 => exA w55 fun g58 o59 => exI .i64 (h57.cell ⟨g58, o59 + 11, none⟩) fun x60 => (bif x60 != 0 then K 12 h57 else exA w56 fun g61 o62 => exI .u32 (h57.cell ⟨g61, o62 + 6, none⟩) fun x63 => (bif x63 == 4294967295 then K 12 h57 else exA w56 fun g64 o65 => exI .u32 (h57.cell ⟨g64, o65 + 7, none⟩) fun x66 => (bif x66 == 4294967295 then K 12 h57 else exA w55 fun g67 o68 => exI .u32 (h57.cell ⟨g67, o68 + 14, none⟩) fun x69 => (bif x69 == 4294967295 then K 12 h57 else exA w56 fun g70 o71 => exI .i64 (h57.cell ⟨g70, o71 + 2, none⟩) fun x72 => F_ref25_Known x72 h57 fun r73 h74 => (bif !r73 then K 11 h74 else exA w56 fun g75 o76 => exI .i64 (h74.cell ⟨g75, o76 + 1, none⟩) fun x77 => exA w56 fun g78 o79 => exI .i64 (h74.cell ⟨g78, o79 + 2, none⟩) fun x80 => F_ref25_Allowed x80 h74 fun r81 h82 => (bif r81 == 6 then exA w56 fun g83 o84 => exI .i64 (h82.cell ⟨g83, o84 + 1, none⟩) fun x85 => (bif x85 == 0 then exA w56 fun g86 o87 => exI .i64 (h82.cell ⟨g86, o87 + 0, none⟩) fun x88 => (bif decide (x88 > 21) then K 12 h82 else exA w56 fun g89 o90 => exI .i64 (h82.cell ⟨g89, o90 + 2, none⟩) fun x91 => (bif x91 == 0 then exA w56 fun g92 o93 => exI .u32 (h82.cell ⟨g92, o93 + 6, none⟩) fun x94 => exA w56 fun g95 o96 => exI .u32 (h82.cell ⟨g95, o96 + 7, none⟩) fun x97 => (bif x94 != x97 then K 9 h82 else exA w56 fun g98 o99 => exS (h82.cell ⟨g98, o99 + 9, none⟩) fun x100 => F_ref26_list x100 h82 fun r101 h102 => (bif r101 != 0 then K r101 h102 else exA w56 fun g103 o104 => exI .i64 (h102.cell ⟨g103, o104 + 3, none⟩) fun x105 => exA w56 fun g106 o107 => exI .i64 (h102.cell ⟨g106, o107 + 4, none⟩) fun x108 => F_ref22_Unpack x105 x108 h102 fun r109 r110 r111 r112 r113 r114 r115 h116 => gnew [Value.int .i64 0, Value.int .i64 0, Value.int .i64 0, Value.int .i64 0, Value.int .i64 0, Value.int .i64 0] 0 h116 fun g117 h118 => gput g117 (0) [Value.int .i64 r109, Value.int .i64 r110, Value.int .i64 r111, Value.int .i64 r112, Value.int .i64 r113, Value.int .i64 r114] h118 fun h119 => K r115 h119)) else exA w56 fun g120 o121 => exS (h82.cell ⟨g120, o121 + 9, none⟩) fun x122 => F_ref26_list x122 h82 fun r123 h124 => (bif r123 != 0 then K r123 h124 else exA w56 fun g125 o126 => exI .i64 (h124.cell ⟨g125, o126 + 3, none⟩) fun x127 => exA w56 fun g128 o129 => exI .i64 (h124.cell ⟨g128, o129 + 4, none⟩) fun x130 => F_ref22_Unpack x127 x130 h124 fun r131 r132 r133 r134 r135 r136 r137 h138 => gnew [Value.int .i64 0, Value.int .i64 0, Value.int .i64 0, Value.int .i64 0, Value.int .i64 0, Value.int .i64 0] 0 h138 fun g139 h140 => gput g139 (0) [Value.int .i64 r131, Value.int .i64 r132, Value.int .i64 r133, Value.int .i64 r134, Value.int .i64 r135, Value.int .i64 r136] h140 fun h141 => K r137 h141))) else exA w56 fun g142 o143 => exI .i64 (h82.cell ⟨g142, o143 + 1, none⟩) fun x144 => (bif x144 == 2 then exA w56 fun g145 o146 => exI .i64 (h82.cell ⟨g145, o146 + 0, none⟩) fun x147 => (bif decide (x147 > 21) then K 12 h82 else exA w56 fun g148 o149 => exI .i64 (h82.cell ⟨g148, o149 + 2, none⟩) fun x150 => (bif x150 == 0 then exA w56 fun g151 o152 => exI .u32 (h82.cell ⟨g151, o152 + 6, none⟩) fun x153 => exA w56 fun g154 o155 => exI .u32 (h82.cell ⟨g154, o155 + 7, none⟩) fun x156 => (bif x153 != x156 then K 9 h82 else exA w56 fun g157 o158 => exS (h82.cell ⟨g157, o158 + 9, none⟩) fun x159 => F_ref26_list x159 h82 fun r160 h161 => (bif r160 != 0 then K r160 h161 else exA w56 fun g162 o163 => exI .i64 (h161.cell ⟨g162, o163 + 3, none⟩) fun x164 => exA w56 fun g165 o166 => exI .i64 (h161.cell ⟨g165, o166 + 4, none⟩) fun x167 => F_ref22_Unpack x164 x167 h161 fun r168 r169 r170 r171 r172 r173 r174 h175 => gnew [Value.int .i64 0, Value.int .i64 0, Value.int .i64 0, Value.int .i64 0, Value.int .i64 0, Value.int .i64 0] 0 h175 fun g176 h177 => gput g176 (0) [Value.int .i64 r168, Value.int .i64 r169, Value.int .i64 r170, Value.int .i64 r171, Value.int .i64 r172, Value.int .i64 r173] h177 fun h178 => K r174 h178)) else exA w56 fun g179 o180 => exS (h82.cell ⟨g179, o180 + 9, none⟩) fun x181 => F_ref26_list x181 h82 fun r182 h183 => (bif r182 != 0 then K r182 h183 else exA w56 fun g184 o185 => exI .i64 (h183.cell ⟨g184, o185 + 3, none⟩) fun x186 => exA w56 fun g187 o188 => exI .i64 (h183.cell ⟨g187, o188 + 4, none⟩) fun x189 => F_ref22_Unpack x186 x189 h183 fun r190 r191 r192 r193 r194 r195 r196 h197 => gnew [Value.int .i64 0, Value.int .i64 0, Value.int .i64 0, Value.int .i64 0, Value.int .i64 0, Value.int .i64 0] 0 h197 fun g198 h199 => gput g198 (0) [Value.int .i64 r190, Value.int .i64 r191, Value.int .i64 r192, Value.int .i64 r193, Value.int .i64 r194, Value.int .i64 r195] h199 fun h200 => K r196 h200))) else exA w56 fun g201 o202 => exI .i64 (h82.cell ⟨g201, o202 + 1, none⟩) fun x203 => (bif x203 == 4 then exA w56 fun g204 o205 => exI .i64 (h82.cell ⟨g204, o205 + 0, none⟩) fun x206 => (bif decide (x206 > 21) then K 12 h82 else exA w56 fun g207 o208 => exI .i64 (h82.cell ⟨g207, o208 + 2, none⟩) fun x209 => (bif x209 == 0 then exA w56 fun g210 o211 => exI .u32 (h82.cell ⟨g210, o211 + 6, none⟩) fun x212 => exA w56 fun g213 o214 => exI .u32 (h82.cell ⟨g213, o214 + 7, none⟩) fun x215 => (bif x212 != x215 then K 9 h82 else exA w56 fun g216 o217 => exS (h82.cell ⟨g216, o217 + 9, none⟩) fun x218 => F_ref26_list x218 h82 fun r219 h220 => (bif r219 != 0 then K r219 h220 else exA w56 fun g221 o222 => exI .i64 (h220.cell ⟨g221, o222 + 3, none⟩) fun x223 => exA w56 fun g224 o225 => exI .i64 (h220.cell ⟨g224, o225 + 4, none⟩) fun x226 => F_ref22_Unpack x223 x226 h220 fun r227 r228 r229 r230 r231 r232 r233 h234 => gnew [Value.int .i64 0, Value.int .i64 0, Value.int .i64 0, Value.int .i64 0, Value.int .i64 0, Value.int .i64 0] 0 h234 fun g235 h236 => gput g235 (0) [Value.int .i64 r227, Value.int .i64 r228, Value.int .i64 r229, Value.int .i64 r230, Value.int .i64 r231, Value.int .i64 r232] h236 fun h237 => K r233 h237)) else exA w56 fun g238 o239 => exS (h82.cell ⟨g238, o239 + 9, none⟩) fun x240 => F_ref26_list x240 h82 fun r241 h242 => (bif r241 != 0 then K r241 h242 else exA w56 fun g243 o244 => exI .i64 (h242.cell ⟨g243, o244 + 3, none⟩) fun x245 => exA w56 fun g246 o247 => exI .i64 (h242.cell ⟨g246, o247 + 4, none⟩) fun x248 => F_ref22_Unpack x245 x248 h242 fun r249 r250 r251 r252 r253 r254 r255 h256 => gnew [Value.int .i64 0, Value.int .i64 0, Value.int .i64 0, Value.int .i64 0, Value.int .i64 0, Value.int .i64 0] 0 h256 fun g257 h258 => gput g257 (0) [Value.int .i64 r249, Value.int .i64 r250, Value.int .i64 r251, Value.int .i64 r252, Value.int .i64 r253, Value.int .i64 r254] h258 fun h259 => K r255 h259))) else exA w56 fun g260 o261 => exI .i64 (h82.cell ⟨g260, o261 + 1, none⟩) fun x262 => (bif !(x262 == 6) then K 12 h82 else exA w56 fun g263 o264 => exI .i64 (h82.cell ⟨g263, o264 + 0, none⟩) fun x265 => (bif decide (x265 > 21) then K 12 h82 else exA w56 fun g266 o267 => exI .i64 (h82.cell ⟨g266, o267 + 2, none⟩) fun x268 => (bif x268 == 0 then exA w56 fun g269 o270 => exI .u32 (h82.cell ⟨g269, o270 + 6, none⟩) fun x271 => exA w56 fun g272 o273 => exI .u32 (h82.cell ⟨g272, o273 + 7, none⟩) fun x274 => (bif x271 != x274 then K 9 h82 else exA w56 fun g275 o276 => exS (h82.cell ⟨g275, o276 + 9, none⟩) fun x277 => F_ref26_list x277 h82 fun r278 h279 => (bif r278 != 0 then K r278 h279 else exA w56 fun g280 o281 => exI .i64 (h279.cell ⟨g280, o281 + 3, none⟩) fun x282 => exA w56 fun g283 o284 => exI .i64 (h279.cell ⟨g283, o284 + 4, none⟩) fun x285 => F_ref22_Unpack x282 x285 h279 fun r286 r287 r288 r289 r290 r291 r292 h293 => gnew [Value.int .i64 0, Value.int .i64 0, Value.int .i64 0, Value.int .i64 0, Value.int .i64 0, Value.int .i64 0] 0 h293 fun g294 h295 => gput g294 (0) [Value.int .i64 r286, Value.int .i64 r287, Value.int .i64 r288, Value.int .i64 r289, Value.int .i64 r290, Value.int .i64 r291] h295 fun h296 => K r292 h296)) else exA w56 fun g297 o298 => exS (h82.cell ⟨g297, o298 + 9, none⟩) fun x299 => F_ref26_list x299 h82 fun r300 h301 => (bif r300 != 0 then K r300 h301 else exA w56 fun g302 o303 => exI .i64 (h301.cell ⟨g302, o303 + 3, none⟩) fun x304 => exA w56 fun g305 o306 => exI .i64 (h301.cell ⟨g305, o306 + 4, none⟩) fun x307 => F_ref22_Unpack x304 x307 h301 fun r308 r309 r310 r311 r312 r313 r314 h315 => gnew [Value.int .i64 0, Value.int .i64 0, Value.int .i64 0, Value.int .i64 0, Value.int .i64 0, Value.int .i64 0] 0 h315 fun g316 h317 => gput g316 (0) [Value.int .i64 r308, Value.int .i64 r309, Value.int .i64 r310, Value.int .i64 r311, Value.int .i64 r312, Value.int .i64 r313] h317 fun h318 => K r314 h318))))))) else (bif !(x77 == 0) then K 12 h82 else exA w56 fun g319 o320 => exI .i64 (h82.cell ⟨g319, o320 + 0, none⟩) fun x321 => (bif decide (x321 > 21) then K 12 h82 else exA w56 fun g322 o323 => exI .i64 (h82.cell ⟨g322, o323 + 2, none⟩) fun x324 => (bif x324 == 0 then exA w56 fun g325 o326 => exI .u32 (h82.cell ⟨g325, o326 + 6, none⟩) fun x327 => exA w56 fun g328 o329 => exI .u32 (h82.cell ⟨g328, o329 + 7, none⟩) fun x330 => (bif x327 != x330 then K 9 h82 else exA w56 fun g331 o332 => exS (h82.cell ⟨g331, o332 + 9, none⟩) fun x333 => F_ref26_list x333 h82 fun r334 h335 => (bif r334 != 0 then K r334 h335 else exA w56 fun g336 o337 => exI .i64 (h335.cell ⟨g336, o337 + 3, none⟩) fun x338 => exA w56 fun g339 o340 => exI .i64 (h335.cell ⟨g339, o340 + 4, none⟩) fun x341 => F_ref22_Unpack x338 x341 h335 fun r342 r343 r344 r345 r346 r347 r348 h349 => gnew [Value.int .i64 0, Value.int .i64 0, Value.int .i64 0, Value.int .i64 0, Value.int .i64 0, Value.int .i64 0] 0 h349 fun g350 h351 => gput g350 (0) [Value.int .i64 r342, Value.int .i64 r343, Value.int .i64 r344, Value.int .i64 r345, Value.int .i64 r346, Value.int .i64 r347] h351 fun h352 => K r348 h352)) else exA w56 fun g353 o354 => exS (h82.cell ⟨g353, o354 + 9, none⟩) fun x355 => F_ref26_list x355 h82 fun r356 h357 => (bif r356 != 0 then K r356 h357 else exA w56 fun g358 o359 => exI .i64 (h357.cell ⟨g358, o359 + 3, none⟩) fun x360 => exA w56 fun g361 o362 => exI .i64 (h357.cell ⟨g361, o362 + 4, none⟩) fun x363 => F_ref22_Unpack x360 x363 h357 fun r364 r365 r366 r367 r368 r369 r370 h371 => gnew [Value.int .i64 0, Value.int .i64 0, Value.int .i64 0, Value.int .i64 0, Value.int .i64 0, Value.int .i64 0] 0 h371 fun g372 h373 => gput g372 (0) [Value.int .i64 r364, Value.int .i64 r365, Value.int .i64 r366, Value.int .i64 r367, Value.int .i64 r368, Value.int .i64 r369] h373 fun h374 => K r370 h374))))))))))) (fun w375 h376 => K w375 h376) := by kernel_rfl
noncomputable def F_ref26_CheckCentral (R : Nat) (a1 : Int) (a2 : Int) (a3 : Int) (a4 : Int) (a5 : Int) (a6 : Int) (a7 : Int) (a8 : Int) (a9 : Sl) (a10 : Sl) (a11 : Int) (a12 : Int) (a13 : Int) (a14 : Int) (a15 : Int) (a16 : Sl) (h : GH) (K : Int → GH → Option β) : Option β := G_ref26_CheckCentral (F_ref25_Known R) (F_ref25_Allowed R) (F_ref26_list R) (F_ref22_Unpack R) R a1 a2 a3 a4 a5 a6 a7 a8 a9 a10 a11 a12 a13 a14 a15 a16 h K
set_option maxRecDepth 100000 in
theorem CF_ref26_CheckCentral_sim {R : Nat} : SimOrc Try.prog (CF_ref26_CheckCentral (F_ref25_Known R) (F_ref25_Allowed R) (F_ref26_list R) (F_ref22_Unpack R) (β := β)) := by
  intro f args h K r hc
  unfold CF_ref26_CheckCentral at hc
  cases hb : Nat.beq f 30 with
  | true =>
    rw [hb] at hc
    simp only [cond_true] at hc
    obtain rfl := Nat.eq_of_beq_eq_true hb
    split at hc
    · exact any_call (F_ref25_Known_sim (K := K) hc)
    · cases hc
  | false =>
  rw [hb] at hc
  simp only [cond_false] at hc
  cases hb : Nat.beq f 31 with
  | true =>
    rw [hb] at hc
    simp only [cond_true] at hc
    obtain rfl := Nat.eq_of_beq_eq_true hb
    split at hc
    · exact any_call (F_ref25_Allowed_sim (K := K) hc)
    · cases hc
  | false =>
  rw [hb] at hc
  simp only [cond_false] at hc
  cases hb : Nat.beq f 32 with
  | true =>
    rw [hb] at hc
    simp only [cond_true] at hc
    obtain rfl := Nat.eq_of_beq_eq_true hb
    split at hc
    · exact any_call (F_ref26_list_sim (K := K) hc)
    · cases hc
  | false =>
  rw [hb] at hc
  simp only [cond_false] at hc
  cases hb : Nat.beq f 33 with
  | true =>
    rw [hb] at hc
    simp only [cond_true] at hc
    obtain rfl := Nat.eq_of_beq_eq_true hb
    split at hc
    · exact any_call (F_ref22_Unpack_sim (K := K) hc)
    · cases hc
  | false =>
  rw [hb] at hc
  simp only [cond_false] at hc
  cases hc
set_option maxRecDepth 100000 in
theorem F_ref26_CheckCentral_sim {R : Nat} {r : β} {a1 : Int} {a2 : Int} {a3 : Int} {a4 : Int} {a5 : Int} {a6 : Int} {a7 : Int} {a8 : Int} {a9 : Sl} {a10 : Sl} {a11 : Int} {a12 : Int} {a13 : Int} {a14 : Int} {a15 : Int} {a16 : Sl} {h : GH} {K : Value → GH → Option β} (hc : F_ref26_CheckCentral R a1 a2 a3 a4 a5 a6 a7 a8 a9 a10 a11 a12 a13 a14 a15 a16 h (fun q0 h' => K (Value.int .i64 q0) h') = some r) : ∃ v h', K v h' = some r ∧ CallSim Try.prog 10 [Value.agg #[Value.int .i64 a1, Value.int .i64 a2, Value.int .i64 a3, Value.int .i64 a4, Value.int .i64 a5, Value.int .u32 a6, Value.int .u32 a7, Value.int .u32 a8, Value.slice a9.a a9.n a9.c, Value.slice a10.a a10.n a10.c, Value.int .i64 a11, Value.int .i64 a12, Value.int .i64 a13, Value.int .u32 a14, Value.int .u32 a15, Value.slice a16.a a16.n a16.c]] h v h' := by
  unfold F_ref26_CheckCentral G_ref26_CheckCentral at hc
  obtain ⟨v, h', hk, hs⟩ := gfun_sim (CF_ref26_CheckCentral_sim (R := R)) mixed_ok (fun f h => by cases h) Try.func10 (by kernel_rfl) hc
  obtain ⟨u0, e0, hk⟩ := exI_v hk; cases e0
  exact ⟨_, h', hk, hs⟩
end
end Go.Proofs.Ytibngikhlgmhaaa.Gx
