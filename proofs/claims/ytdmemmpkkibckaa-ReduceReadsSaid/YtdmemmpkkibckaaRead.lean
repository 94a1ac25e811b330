/- Readers of bits: the program's. No condition. -/
import Derived.Test.YtdmemmpkkibckaaReadP
import Derived.Test.YtdmemmpkkibckaaGxx
namespace Go.Proofs.Ytdmemmpkkibckaa.Gx
open Go Go.RowKit
set_option linter.unusedVariables false
set_option linter.unusedSimpArgs false
/-! ### the program's reader -/
structure RdS (h : GH) (g : Nat) (rb : Sl) (bs : List Int) (at_ hold n : Nat) (e : Int) : Prop where
  look : h.look g = some (.row ⟨[.slice rb.a rb.n rb.c, .int .i64 (at_ : Nat), .int .u64 (hold : Nat), .int .i64 (n : Nat), .int .i64 e, .bool true], 0, false⟩)
  row : Rd h rb bs
  sep : g ∉ rowsOf rb
  b8 : B8 bs
  small : bs.length ≤ 100000000
  le : at_ ≤ bs.length
  n8 : n ≤ 8 * at_
  n39 : n ≤ 39
  eq : hold = numN bs / 2 ^ (8 * at_ - n) % 2 ^ n
/-- a reader of the program: at bit p, with error e -/
def Rdr (h : GH) (g : Nat) (rb : Sl) (bs : List Int) (p : Nat) (e : Int) : Prop := ∃ at_ hold n, RdS h g rb bs at_ hold n e ∧ p = 8 * at_ - n
theorem RdS.keep {h h' : GH} {g : Nat} {rb : Sl} {bs : List Int} {at_ hold n : Nat} {e : Int} {own : List Nat} (r : RdS h g rb bs at_ hold n e) (k : Keep h h' own) (h1 : g ∉ own) (h2 : ∀ x ∈ rowsOf rb, x ∉ own) : RdS h' g rb bs at_ hold n e :=
  ⟨k.look r.look h1, r.row.keep k h2, r.sep, r.b8, r.small, r.le, r.n8, r.n39, r.eq⟩
theorem Rdr.keep {h h' : GH} {g : Nat} {rb : Sl} {bs : List Int} {p : Nat} {e : Int} {own : List Nat} (r : Rdr h g rb bs p e) (k : Keep h h' own) (h1 : g ∉ own) (h2 : ∀ x ∈ rowsOf rb, x ∉ own) : Rdr h' g rb bs p e := by
  obtain ⟨a, b, c, r, e⟩ := r
  exact ⟨a, b, c, r.keep k h1 h2, e⟩
theorem Rdr.le {h : GH} {g : Nat} {rb : Sl} {bs : List Int} {p : Nat} {e : Int} (r : Rdr h g rb bs p e) : p ≤ 8 * bs.length := by
  obtain ⟨a, b, c, r, e⟩ := r
  have := r.le; omega
theorem Rdr.lt {h : GH} {g : Nat} {rb : Sl} {bs : List Int} {p : Nat} {e : Int} (r : Rdr h g rb bs p e) : g < h.next ∧ (∀ k ∈ rowsOf rb, k < h.next) ∧ g ∉ rowsOf rb := by
  obtain ⟨a, b, c, r, e⟩ := r
  exact ⟨look_lt r.look, r.row.lt, r.sep⟩
theorem Rdr.info {h : GH} {g : Nat} {rb : Sl} {bs : List Int} {p : Nat} {e : Int} (r : Rdr h g rb bs p e) : B8 bs ∧ bs.length ≤ 100000000 := by
  obtain ⟨a, b, c, r, e⟩ := r
  exact ⟨r.b8, r.small⟩
theorem err_eq {h : GH} {g : Nat} {rb : Sl} {bs : List Int} {p : Nat} {e : Int} (r : Rdr h g rb bs p e) (R : Nat) {β : Type} (K : Int → GH → Option β) : F_bitio_Reader_Err R (some ⟨g, 0, none⟩) h K = K e h := by
  obtain ⟨a, b, c, r, q⟩ := r
  unfold F_bitio_Reader_Err
  rw [F_bitio_Reader_Err_gen, isNone_s, condF, exA_s, cell_of r.look, show nth [Value.slice rb.a rb.n rb.c, .int .i64 (a : Nat), .int .u64 (b : Nat), .int .i64 (c : Nat), .int .i64 e, .bool true] (0 + 5) = some (.bool true) from rfl, exB_s, notT, condF, exA_s, cell_of r.look, show nth [Value.slice rb.a rb.n rb.c, .int .i64 (a : Nat), .int .u64 (b : Nat), .int .i64 (c : Nat), .int .i64 e, .bool true] (0 + 4) = some (.int .i64 e) from rfl, exI_s]
/-- a reader over new bytes -/
theorem open_eq {h : GH} {s : Sl} {bs : List Int} (r : Rd h s bs) (hb : B8 bs) (hm : bs.length ≤ 100000000) (R : Nat) : ∃ h' g rb, Rdr h' g rb bs 0 0 ∧ Keep h h' [] ∧ h.next ≤ g ∧ (∀ k ∈ rowsOf rb, h.next ≤ k) ∧ ∀ (β : Type) (K : Option Addr → GH → Option β), F_bitio_Open R s h K = K (some ⟨g, 0, none⟩) h' := by
  obtain ⟨h1, rb, r1, k1, n1, e1⟩ : ∃ h1 rb, Rd h1 rb bs ∧ Keep h h1 [] ∧ (∀ k ∈ rowsOf rb, h.next ≤ k) ∧ ∀ (β : Type) (K : Sl → GH → Option β), F_bytes_Clone R s h K = K rb h1 := by
    cases hs : s.a with
    | none =>
      have hbs : bs = [] := by
        rcases r.at_ with ⟨_, q, _⟩ | ⟨g, o, b, q, _⟩
        · exact List.length_eq_zero_iff.1 (by have := r.n; omega)
        · rw [hs] at q; cases q
      refine ⟨h, ⟨none, 0, 0⟩, by rw [hbs]; exact Row.nil, .refl _ _, by simp [rowsOf], fun β K => ?_⟩
      unfold F_bytes_Clone; rw [F_bytes_Clone_gen, hs]; rfl
    | some x =>
      have k0 := keep_push h (.row ⟨[], 1, false⟩) []
      have v0 : Bv (h.push (.row ⟨u8s [], 1, false⟩)) ⟨some ⟨h.next, 0, none⟩, 0, 0⟩ [] := Vec.new rfl rfl
      obtain ⟨h', s', e, v', k, n⟩ := app_bytes v0 (r.keep k0 (by simp)) (by simp; omega)
      refine ⟨h', s', by simpa using v'.row, k0.trans k (fun q hq => by simp [rowsOf] at hq; exact .inr (by omega)), fun q hq => ?_, fun β K => ?_⟩
      · rcases n q hq with q1 | q1
        · simp [rowsOf] at q1; omega
        · simp [next_push] at q1; omega
      · unfold F_bytes_Clone; rw [F_bytes_Clone_gen, hs, isNone_s, condF, gnew_eq rfl]
        exact e β K
  have k2 := keep_push h1 (.row ⟨[.slice rb.a rb.n rb.c, .int .i64 0, .int .u64 0, .int .i64 0, .int .i64 0, .bool true], 0, false⟩) []
  refine ⟨_, h1.next, rb, ⟨0, 0, 0, ⟨look_push_new, r1.keep k2 (by simp), fun q => by have := r1.lt _ q; omega, hb, hm, by omega, by omega, by omega, by simp [Nat.mod_one]⟩, rfl⟩, k1.trans k2 (by simp), k1.1, n1, fun β K => ?_⟩
  unfold F_bitio_Open; rw [F_bitio_Open_gen, e1, gnew_eq rfl]; rfl
section
variable {g : Nat} {rb : Sl} {bs : List Int} {e : Int}
theorem fill_loop (R : Nat) {m : Nat} (hm : m ≤ 32) : ∀ (k : Nat) {h : GH} {at_ hold n : Nat}, m ≤ n + 8 * k → RdS h g rb bs at_ hold n e →
    ∃ h' at' hold' n', RdS h' g rb bs at' hold' n' e ∧ 8 * at' - n' = 8 * at_ - n ∧ (m ≤ n' ∨ at' = bs.length) ∧ Keep h h' [g] ∧ ∀ (β : Type) (K0 : GH → Option β), F_bitio_Reader_fill_l0 R (k + 1) (some ⟨g, 0, none⟩) (m : Nat) h K0 = K0 h'
  | k, h, at_, hold, n, hk, r => by
    have cells := cell_of r.look
    have c3 : h.cell ⟨g, 0 + 3, none⟩ = some (.int .i64 (n : Nat)) := by rw [cells]; rfl
    have c1 : h.cell ⟨g, 0 + 1, none⟩ = some (.int .i64 (at_ : Nat)) := by rw [cells]; rfl
    have c0 : h.cell ⟨g, 0 + 0, none⟩ = some (.slice rb.a rb.n rb.c) := by rw [cells]; rfl
    have c2 : h.cell ⟨g, 0 + 2, none⟩ = some (.int .u64 (hold : Nat)) := by rw [cells]; rfl
    have hn := r.row.n
    have hsm := r.small
    have hle := r.le
    have hn8 := r.n8
    by_cases h1 : n < m
    · by_cases h2 : at_ < bs.length
      · obtain ⟨k, rfl⟩ : ∃ q, k = q + 1 := ⟨k - 1, by omega⟩
        have hb := r.b8.get h2
        have hhold : hold < 2 ^ n := by rw [r.eq]; exact Nat.mod_lt _ (Nat.pow_pos (by omega))
        have hp1 : 2 ^ n ≤ 2 ^ 31 := Nat.pow_le_pow_right (by omega) (by omega)
        have hp0 : 0 < 2 ^ n := Nat.pow_pos (by omega)
        rw [show (2 : Nat) ^ 31 = 2147483648 by decide] at hp1
        have hbn : bs.getD at_ 0 = (((bs.getD at_ 0).toNat : Nat) : Int) := by omega
        have hbm : (bs.getD at_ 0).toNat * 2 ^ n ≤ 255 * 2147483648 := Nat.mul_le_mul (by omega) hp1
        have eor : IntKind.wrap .u64 ((BitVec.ofInt (IntKind.bits .u64) ((hold : Nat) : Int) ||| BitVec.ofInt (IntKind.bits .u64) (shlI .u64 (IntKind.wrap .u64 (bs.getD at_ 0)) ((n : Nat) : Int))).toNat : Int) = ((hold + (bs.getD at_ 0).toNat * 2 ^ n : Nat) : Int) := by
          rw [hbn, u64w (x := (bs.getD at_ 0).toNat) (by omega), shl64n _ n (by omega) (by omega), Int.toNat_natCast, or64 (by omega) (by omega), or_add hhold]
        have heq : hold + (bs.getD at_ 0).toNat * 2 ^ n = numN bs / 2 ^ (8 * (at_ + 1) - (n + 8)) % 2 ^ (n + 8) := by
          rw [show 8 * (at_ + 1) - (n + 8) = 8 * at_ - n by omega, Nat.pow_add, Nat.mod_mul, ← r.eq, Nat.div_div_eq_div_mul, ← Nat.pow_add, show 8 * at_ - n + n = 8 * at_ by omega, show (2 : Nat) ^ 8 = 256 by decide, numN_byte r.b8 h2, Nat.mul_comm (2 ^ n)]
        obtain ⟨hA, ehA⟩ : ∃ hA, hA = h.put g (some (.row ⟨[.slice rb.a rb.n rb.c, .int .i64 ((at_ + 1 : Nat) : Int), .int .u64 ((hold + (bs.getD at_ 0).toNat * 2 ^ n : Nat) : Int), .int .i64 ((n + 8 : Nat) : Int), .int .i64 e, .bool true], 0, false⟩)) := ⟨_, rfl⟩
        have hg := look_lt r.look
        have kA : Keep h hA [g] := by rw [ehA]; exact keep_put _ _ _
        have rA : RdS hA g rb bs (at_ + 1) (hold + (bs.getD at_ 0).toNat * 2 ^ n) (n + 8) e := ⟨by rw [ehA]; exact look_put_same hg, r.row.keep kA (fun x hx hm => by simp at hm; subst hm; exact r.sep hx), r.sep, r.b8, r.small, by omega, by omega, by omega, heq⟩
        obtain ⟨h', at', hold', n', q1, q2, q3, q4, q5⟩ := fill_loop R hm k (by omega) rA
        refine ⟨h', at', hold', n', q1, by omega, q3, kA.trans q4 (fun q hq => .inl hq), fun β K0 => ?_⟩
        rw [F_bitio_Reader_fill_l0_succ, exA_s, c3, exI_s, decT (by omega), condT, exA_s, c1, exI_s, exA_s, c0, exS_s', decT (by show ((at_ : Nat) : Int) < ((rb.n : Nat) : Int); omega), condT, exA_s, c2, exI_s, exA_s, c0, exS_s', exA_s, c1, exI_s]
        have hby := r.row.byte (i := ((at_ : Nat) : Int)) (β := β) (by omega) (by omega)
        refine Eq.trans (hby _) ?_
        rw [exA_s, c3, exI_s, decF (by omega), condF, Int.toNat_natCast, eor, exA_s]
        have g1 := gput_eq (β := β) (o := 0 + 2) (vs := [Value.int .u64 ((hold + (bs.getD at_ 0).toNat * 2 ^ n : Nat) : Int)]) r.look rfl (by simp)
        refine Eq.trans (g1 _) ?_
        have l1 := look_put_same (h := h) (o := some (.row ⟨nlay [.slice rb.a rb.n rb.c, .int .i64 (at_ : Nat), .int .u64 (hold : Nat), .int .i64 (n : Nat), .int .i64 e, .bool true] (0 + 2) [Value.int .u64 ((hold + (bs.getD at_ 0).toNat * 2 ^ n : Nat) : Int)], 0, false⟩)) hg
        rw [show nlay [.slice rb.a rb.n rb.c, .int .i64 (at_ : Nat), .int .u64 (hold : Nat), .int .i64 (n : Nat), .int .i64 e, .bool true] (0 + 2) [Value.int .u64 ((hold + (bs.getD at_ 0).toNat * 2 ^ n : Nat) : Int)] = [.slice rb.a rb.n rb.c, .int .i64 (at_ : Nat), .int .u64 ((hold + (bs.getD at_ 0).toNat * 2 ^ n : Nat) : Int), .int .i64 (n : Nat), .int .i64 e, .bool true] from rfl] at l1 ⊢
        rw [exA_s, cell_of l1]
        rw [show nth [Value.slice rb.a rb.n rb.c, .int .i64 (at_ : Nat), .int .u64 ((hold + (bs.getD at_ 0).toNat * 2 ^ n : Nat) : Int), .int .i64 (n : Nat), .int .i64 e, .bool true] (0 + 1) = some (.int .i64 (at_ : Nat)) from rfl, exI_s, exA_s, i64w (x := ((at_ : Nat) : Int) + 1) (by omega), gput_eq l1 rfl (by simp), put_put]
        rw [show nlay [Value.slice rb.a rb.n rb.c, .int .i64 (at_ : Nat), .int .u64 ((hold + (bs.getD at_ 0).toNat * 2 ^ n : Nat) : Int), .int .i64 (n : Nat), .int .i64 e, .bool true] (0 + 1) [Value.int .i64 (((at_ : Nat) : Int) + 1)] = [.slice rb.a rb.n rb.c, .int .i64 ((at_ + 1 : Nat) : Int), .int .u64 ((hold + (bs.getD at_ 0).toNat * 2 ^ n : Nat) : Int), .int .i64 (n : Nat), .int .i64 e, .bool true] from rfl]
        have l2 := look_put_same (h := h) (o := some (.row ⟨[.slice rb.a rb.n rb.c, .int .i64 ((at_ + 1 : Nat) : Int), .int .u64 ((hold + (bs.getD at_ 0).toNat * 2 ^ n : Nat) : Int), .int .i64 (n : Nat), .int .i64 e, .bool true], 0, false⟩)) hg
        rw [exA_s, cell_of l2]
        rw [show nth [Value.slice rb.a rb.n rb.c, .int .i64 ((at_ + 1 : Nat) : Int), .int .u64 ((hold + (bs.getD at_ 0).toNat * 2 ^ n : Nat) : Int), .int .i64 (n : Nat), .int .i64 e, .bool true] (0 + 3) = some (.int .i64 (n : Nat)) from rfl, exI_s, exA_s, i64w (x := ((n : Nat) : Int) + 8) (by omega), gput_eq l2 rfl (by simp), put_put]
        rw [show nlay [Value.slice rb.a rb.n rb.c, .int .i64 ((at_ + 1 : Nat) : Int), .int .u64 ((hold + (bs.getD at_ 0).toNat * 2 ^ n : Nat) : Int), .int .i64 (n : Nat), .int .i64 e, .bool true] (0 + 3) [Value.int .i64 (((n : Nat) : Int) + 8)] = [.slice rb.a rb.n rb.c, .int .i64 ((at_ + 1 : Nat) : Int), .int .u64 ((hold + (bs.getD at_ 0).toNat * 2 ^ n : Nat) : Int), .int .i64 ((n + 8 : Nat) : Int), .int .i64 e, .bool true] from rfl, ← ehA]
        exact q5 β K0
      · refine ⟨h, at_, hold, n, r, rfl, .inr (by omega), .refl _ _, fun β K0 => ?_⟩
        rw [F_bitio_Reader_fill_l0_succ, exA_s, c3, exI_s, decT (by omega), condT, exA_s, c1, exI_s, exA_s, c0, exS_s', decF (by show ¬ ((at_ : Nat) : Int) < ((rb.n : Nat) : Int); omega), condF]
    · refine ⟨h, at_, hold, n, r, rfl, .inl (by omega), .refl _ _, fun β K0 => ?_⟩
      rw [F_bitio_Reader_fill_l0_succ, exA_s, c3, exI_s, decF (by omega), condF]
/-- what n bits are, where the reader goes, which error -/
def bitsV (bs : List Int) (p n : Nat) (e : Int) : Nat := if e = 0 ∧ p + n ≤ 8 * bs.length then rdV bs p n else 0
def bitsP (bs : List Int) (p n : Nat) (e : Int) : Nat := if e = 0 ∧ p + n ≤ 8 * bs.length then p + n else p
def bitsE (bs : List Int) (p n : Nat) (e : Int) : Int := if e = 0 then (if p + n ≤ 8 * bs.length then 0 else 3) else e
theorem bits_prog {h : GH} {p n : Nat} (r : Rdr h g rb bs p e) (hn : n ≤ 32) {R : Nat} (hR : 4000000 < R) : ∃ h', Rdr h' g rb bs (bitsP bs p n e) (bitsE bs p n e) ∧ Keep h h' [g] ∧ ∀ (β : Type) (K : Int → GH → Option β), F_bitio_Reader_Bits R (some ⟨g, 0, none⟩) (n : Nat) h K = K (bitsV bs p n e : Nat) h' := by
  by_cases he : e = 0
  · subst he
    have hr0 := r
    obtain ⟨at_, hold, m, r, rfl⟩ := r
    obtain ⟨R', rfl⟩ : ∃ q, R = q + 1 := ⟨R - 1, by omega⟩
    obtain ⟨h1, at1, hold1, n1, r1, q1, q2, k1, e1⟩ := fill_loop (R' + 1) hn R' (by omega) r
    have eE : ∀ (β : Type) (K : Int → GH → Option β), F_bitio_Reader_Err (R' + 1) (some ⟨g, 0, none⟩) h K = K 0 h := fun β K => err_eq hr0 _ K
    have eR : ∀ (β : Type) (K : Bool → GH → Option β), F_bitio_right (R' + 1) ((n : Nat) : Int) h K = K true h := fun β K => by
      unfold F_bitio_right; rw [F_bitio_right_gen, decT (by omega), condT, decT (by omega)]
    have hg := look_lt r1.look
    have c3 : h1.cell ⟨g, 0 + 3, none⟩ = some (.int .i64 (n1 : Nat)) := by rw [cell_of r1.look]; rfl
    have c2 : h1.cell ⟨g, 0 + 2, none⟩ = some (.int .u64 (hold1 : Nat)) := by rw [cell_of r1.look]; rfl
    have hle1 := r1.le
    have hn81 := r1.n8
    have hn39 := r1.n39
    have hle := r.le
    by_cases c : n ≤ n1
    · have hfit : 8 * at_ - m + n ≤ 8 * bs.length := by omega
      have hp1 : 2 ^ n1 ≤ 2 ^ 39 := Nat.pow_le_pow_right (by omega) hn39
      rw [show (2 : Nat) ^ 39 = 549755813888 by decide] at hp1
      have hpn : 2 ^ n ≤ 2 ^ 32 := Nat.pow_le_pow_right (by omega) hn
      rw [show (2 : Nat) ^ 32 = 4294967296 by decide] at hpn
      have hp0 : 0 < 2 ^ n := Nat.pow_pos (by omega)
      have hhold : hold1 < 2 ^ n1 := by rw [r1.eq]; exact Nat.mod_lt _ (Nat.pow_pos (by omega))
      have hval : hold1 % 2 ^ n = rdV bs (8 * at_ - m) n := by
        rw [r1.eq, q1]; unfold rdV
        rw [show n1 = n + (n1 - n) by omega, Nat.pow_add, Nat.mod_mul_right_mod]
      have hsh : hold1 / 2 ^ n = numN bs / 2 ^ (8 * at1 - (n1 - n)) % 2 ^ (n1 - n) := by
        have key : ∀ d, n1 = n + d → numN bs / 2 ^ (8 * at1 - n1) % 2 ^ n1 / 2 ^ n = numN bs / 2 ^ (8 * at1 - d) % 2 ^ d := fun d hd => by
          rw [hd, Nat.pow_add, Nat.mod_mul_right_div_self, Nat.div_div_eq_div_mul, ← Nat.pow_add, show 8 * at1 - (n + d) + n = 8 * at1 - d by omega]
        rw [r1.eq]; exact key (n1 - n) (by omega)
      obtain ⟨h2, eh2⟩ : ∃ h2, h2 = h1.put g (some (.row ⟨[.slice rb.a rb.n rb.c, .int .i64 (at1 : Nat), .int .u64 ((hold1 / 2 ^ n : Nat) : Int), .int .i64 ((n1 - n : Nat) : Int), .int .i64 0, .bool true], 0, false⟩)) := ⟨_, rfl⟩
      have k2 : Keep h1 h2 [g] := by rw [eh2]; exact keep_put _ _ _
      refine ⟨h2, ⟨at1, hold1 / 2 ^ n, n1 - n, ⟨by rw [eh2, look_put_same hg, bitsE, if_pos rfl, if_pos hfit], r1.row.keep k2 (fun x hx hm => by simp at hm; subst hm; exact r1.sep hx), r1.sep, r1.b8, r1.small, r1.le, by omega, by omega, hsh⟩, by rw [bitsP, if_pos ⟨rfl, hfit⟩]; omega⟩, k1.trans k2 (fun q hq => .inl hq), fun β K => ?_⟩
      unfold F_bitio_Reader_Bits
      rw [F_bitio_Reader_Bits_gen, eE, bne_self_eq_false, condF, eR, notT, condF]
      unfold F_bitio_Reader_fill
      rw [F_bitio_Reader_fill_gen]
      refine Eq.trans (e1 β _) ?_
      rw [exA_s, c3, exI_s, decF (by omega), condF, exA_s, c2, exI_s, decF (by omega), condF]
      unfold F_bitio_Reader_drop
      rw [F_bitio_Reader_drop_gen, exA_s, c2, exI_s, decF (by omega), condF, exA_s, gput_eq r1.look rfl (by simp), exA_s]
      have hsr : shrI .u64 ((hold1 : Nat) : Int) ((n : Nat) : Int) = ((hold1 / 2 ^ n : Nat) : Int) := by rw [shr_nat .u64 hold1 n (by show n ≤ 64; omega), Nat.shiftRight_eq_div_pow]
      rw [hsr, show nlay [Value.slice rb.a rb.n rb.c, .int .i64 (at1 : Nat), .int .u64 (hold1 : Nat), .int .i64 (n1 : Nat), .int .i64 0, .bool true] (0 + 2) [Value.int .u64 ((hold1 / 2 ^ n : Nat) : Int)] = [.slice rb.a rb.n rb.c, .int .i64 (at1 : Nat), .int .u64 ((hold1 / 2 ^ n : Nat) : Int), .int .i64 (n1 : Nat), .int .i64 0, .bool true] from rfl]
      have l1 := look_put_same (h := h1) (o := some (.row ⟨[.slice rb.a rb.n rb.c, .int .i64 (at1 : Nat), .int .u64 ((hold1 / 2 ^ n : Nat) : Int), .int .i64 (n1 : Nat), .int .i64 0, .bool true], 0, false⟩)) hg
      rw [cell_of l1, show nth [Value.slice rb.a rb.n rb.c, .int .i64 (at1 : Nat), .int .u64 ((hold1 / 2 ^ n : Nat) : Int), .int .i64 (n1 : Nat), .int .i64 0, .bool true] (0 + 3) = some (.int .i64 (n1 : Nat)) from rfl, exI_s, exA_s, i64w (x := ((n1 : Nat) : Int) - ((n : Nat) : Int)) (by omega), show ((n1 : Nat) : Int) - ((n : Nat) : Int) = ((n1 - n : Nat) : Int) by omega, gput_eq l1 rfl (by simp), put_put]
      rw [show nlay [Value.slice rb.a rb.n rb.c, .int .i64 (at1 : Nat), .int .u64 ((hold1 / 2 ^ n : Nat) : Int), .int .i64 (n1 : Nat), .int .i64 0, .bool true] (0 + 3) [Value.int .i64 ((n1 - n : Nat) : Int)] = [.slice rb.a rb.n rb.c, .int .i64 (at1 : Nat), .int .u64 ((hold1 / 2 ^ n : Nat) : Int), .int .i64 ((n1 - n : Nat) : Int), .int .i64 0, .bool true] from rfl, ← eh2]
      rw [mask64 hn, and64 (by omega) (by omega), Nat.and_two_pow_sub_one_eq_mod, hval, u32w (by have := rdV_lt bs (8 * at_ - m) n; omega), bitsV, if_pos ⟨rfl, hfit⟩]
    · have hnf : ¬ (8 * at_ - m + n ≤ 8 * bs.length) := by omega
      obtain ⟨h2, eh2⟩ : ∃ h2, h2 = h1.put g (some (.row ⟨[.slice rb.a rb.n rb.c, .int .i64 (at1 : Nat), .int .u64 ((hold1 : Nat) : Int), .int .i64 ((n1 : Nat) : Int), .int .i64 3, .bool true], 0, false⟩)) := ⟨_, rfl⟩
      have k2 : Keep h1 h2 [g] := by rw [eh2]; exact keep_put _ _ _
      refine ⟨h2, ⟨at1, hold1, n1, ⟨by rw [eh2, look_put_same hg, bitsE, if_pos rfl, if_neg hnf], r1.row.keep k2 (fun x hx hm => by simp at hm; subst hm; exact r1.sep hx), r1.sep, r1.b8, r1.small, r1.le, by omega, by omega, r1.eq⟩, by rw [bitsP, if_neg (fun q => hnf q.2)]; omega⟩, k1.trans k2 (fun q hq => .inl hq), fun β K => ?_⟩
      unfold F_bitio_Reader_Bits
      rw [F_bitio_Reader_Bits_gen, eE, bne_self_eq_false, condF, eR, notT, condF]
      unfold F_bitio_Reader_fill
      rw [F_bitio_Reader_fill_gen]
      refine Eq.trans (e1 β _) ?_
      rw [exA_s, c3, exI_s, decT (by omega), condT, exA_s, gput_eq r1.look rfl (by simp)]
      rw [show nlay [Value.slice rb.a rb.n rb.c, .int .i64 (at1 : Nat), .int .u64 (hold1 : Nat), .int .i64 (n1 : Nat), .int .i64 0, .bool true] (0 + 4) [Value.int .i64 3] = [.slice rb.a rb.n rb.c, .int .i64 (at1 : Nat), .int .u64 (hold1 : Nat), .int .i64 (n1 : Nat), .int .i64 3, .bool true] from rfl, ← eh2, bitsV, if_neg (fun q => hnf q.2)]; rfl
  · refine ⟨h, by rw [bitsP, if_neg (fun q => he q.1), bitsE, if_neg he]; exact r, .refl _ _, fun β K => ?_⟩
    unfold F_bitio_Reader_Bits
    rw [F_bitio_Reader_Bits_gen, err_eq r, bne_int, decT he, condT, bitsV, if_neg (fun q => he q.1)]; rfl
theorem bit_prog {h : GH} {p : Nat} (r : Rdr h g rb bs p e) {R : Nat} (hR : 4000000 < R) : ∃ h', Rdr h' g rb bs (bitsP bs p 1 e) (bitsE bs p 1 e) ∧ Keep h h' [g] ∧ ∀ (β : Type) (K : Int → GH → Option β), F_bitio_Reader_Bit R (some ⟨g, 0, none⟩) h K = K (bitsV bs p 1 e : Nat) h' := by
  obtain ⟨h', r', k', e'⟩ := bits_prog r (n := 1) (by omega) hR
  refine ⟨h', r', k', fun β K => ?_⟩
  unfold F_bitio_Reader_Bit; rw [F_bitio_Reader_Bit_gen]
  exact e' β _
end
end Go.Proofs.Ytdmemmpkkibckaa.Gx

