/- The document's reader of bits. No condition. -/
import Derived.Test.YtdmemmpkkibckaaRead
namespace Go.Proofs.Ytdmemmpkkibckaa.Gx
open Go Go.RowKit
set_option linter.unusedVariables false
set_option linter.unusedSimpArgs false
/-- a reader of the document: at bit p, with error e -/
structure Rrd (h : GH) (g : Nat) (rb : Sl) (bs : List Int) (p : Nat) (e : Int) : Prop where
  look : h.look g = some (.row ⟨[.slice rb.a rb.n rb.c, .int .i64 (p : Nat), .int .i64 e], 0, false⟩)
  row : Rd h rb bs
  sep : g ∉ rowsOf rb
  b8 : B8 bs
  small : bs.length ≤ 100000000
  le : p ≤ 8 * bs.length
theorem Rrd.keep {h h' : GH} {g : Nat} {rb : Sl} {bs : List Int} {p : Nat} {e : Int} {own : List Nat} (r : Rrd h g rb bs p e) (k : Keep h h' own) (h1 : g ∉ own) (h2 : ∀ x ∈ rowsOf rb, x ∉ own) : Rrd h' g rb bs p e :=
  ⟨k.look r.look h1, r.row.keep k h2, r.sep, r.b8, r.small, r.le⟩
section
variable {h : GH} {s : Sl} {bs : List Int} (r : Rd h s bs) (hb : B8 bs) (hm : bs.length ≤ 100000000)
include r hb hm
theorem at_eq {p : Nat} (hp : p < 8 * bs.length) (R : Nat) {β : Type} (K : Int → GH → Option β) : F_ref01_At R s (p : Nat) h K = K (rdV bs p 1 : Nat) h := by
  have hi : p / 8 < bs.length := by omega
  have hby := hb.get hi
  have e1 : IntKind.wrap .i64 (Int.tdiv ((p : Nat) : Int) 8) = ((p / 8 : Nat) : Int) := by rw [show Int.tdiv ((p : Nat) : Int) 8 = ((p / 8 : Nat) : Int) from rfl, i64w (by omega)]
  have e2 : IntKind.wrap .u64 (Int.tmod ((p : Nat) : Int) 8) = ((p % 8 : Nat) : Int) := by rw [show Int.tmod ((p : Nat) : Int) 8 = ((p % 8 : Nat) : Int) from rfl, u64w (by omega)]
  unfold F_ref01_At
  rw [F_ref01_At_gen, e1, e2, r.n, decF (by omega), condF]
  have hg := r.byte (β := β) (i := ((p / 8 : Nat) : Int)) (by omega) (by omega)
  rw [r.n] at hg
  refine Eq.trans (hg _) ?_
  rw [decF (by omega), condF, Int.toNat_natCast]
  have e3 : bs.getD (p / 8) 0 = (((bs.getD (p / 8) 0).toNat : Nat) : Int) := by omega
  rw [e3, u32w (by omega), shr_nat .u32 _ _ (by show p % 8 ≤ 32; omega)]
  unfold rdV
  rw [Nat.pow_one, numN_bit hb hi, Nat.shiftRight_eq_div_pow]; rfl
theorem number_loop {p n : Nat} (hp : p + n ≤ 8 * bs.length) (hn : n ≤ 32) (R : Nat) {β : Type} (K0 : Int → GH → Option β) : ∀ (k f : Nat), k ≤ n → k < f → F_ref01_Number_l0 (F_ref01_At R) R f s (p : Nat) (rdV bs (p + k) (n - k) : Nat) (((k : Nat) : Int) - 1) h K0 = K0 (rdV bs p n : Nat) h
  | k, 0, h1, h2 => by omega
  | 0, f + 1, h1, h2 => by
    rw [F_ref01_Number_l0_succ, decF (by omega), condF]; rfl
  | k + 1, f + 1, h1, h2 => by
    have hv := rdV_lt bs (p + (k + 1)) (n - (k + 1))
    have hv1 := rdV_lt bs (p + k) 1
    have hpw : 2 ^ (n - (k + 1)) ≤ 2 ^ 31 := Nat.pow_le_pow_right (by omega) (by omega)
    rw [show (2 : Nat) ^ 31 = 2147483648 by decide] at hpw
    rw [F_ref01_Number_l0_succ, decT (by omega), condT, i64w (by omega), show ((p : Nat) : Int) + (((k + 1 : Nat) : Int) - 1) = ((p + k : Nat) : Int) by omega, at_eq r hb hm (by omega)]
    have e1 : IntKind.wrap .u32 (IntKind.wrap .u32 (((rdV bs (p + (k + 1)) (n - (k + 1)) : Nat) : Int) * 2) + ((rdV bs (p + k) 1 : Nat) : Int)) = ((rdV bs (p + k) (n - k) : Nat) : Int) := by
      rw [show n - k = n - (k + 1) + 1 by omega, rdV_first bs (p + k) (n - (k + 1)), show p + (k + 1) = p + k + 1 by omega]
      rw [show p + (k + 1) = p + k + 1 by omega] at hv
      rw [show ((rdV bs (p + k + 1) (n - (k + 1)) : Nat) : Int) * 2 = ((rdV bs (p + k + 1) (n - (k + 1)) * 2 : Nat) : Int) by omega, u32w (by omega), show ((rdV bs (p + k + 1) (n - (k + 1)) * 2 : Nat) : Int) + ((rdV bs (p + k) 1 : Nat) : Int) = ((rdV bs (p + k) 1 + rdV bs (p + k + 1) (n - (k + 1)) * 2 : Nat) : Int) by omega, u32w (by omega)]
    rw [e1, i64w (by omega), show ((k + 1 : Nat) : Int) - 1 - 1 = ((k : Nat) : Int) - 1 by omega]
    exact number_loop hp hn R K0 k f (by omega) (by omega)
theorem number_eq {p n : Nat} (hp : p + n ≤ 8 * bs.length) (hn : n ≤ 32) {R : Nat} (hR : 4000000 < R) {β : Type} (K : Int → GH → Option β) : F_ref01_Number R s (p : Nat) (n : Nat) h K = K (rdV bs p n : Nat) h := by
  unfold F_ref01_Number
  rw [F_ref01_Number_gen, i64w (by omega)]
  have := number_loop r hb hm hp hn R (fun w11 h12 => K w11 h12) n R (Nat.le_refl _) (by omega)
  rw [Nat.sub_self, show rdV bs (p + n) 0 = 0 by unfold rdV; rw [Nat.pow_zero, Nat.mod_one]] at this
  exact this
end
section
variable {g : Nat} {rb : Sl} {bs : List Int} {e : Int}
theorem bits_ref {h : GH} {p n : Nat} (r : Rrd h g rb bs p e) (hn : n ≤ 32) {R : Nat} (hR : 4000000 < R) : ∃ h', Rrd h' g rb bs (bitsP bs p n e) (bitsE bs p n e) ∧ Keep h h' [g] ∧ ∀ (β : Type) (K : Int → GH → Option β), F_ref01_Reader_Bits R (some ⟨g, 0, none⟩) (n : Nat) h K = K (bitsV bs p n e : Nat) h' := by
  have hg := look_lt r.look
  have hle := r.le
  have hsm := r.small
  have c0 : h.cell ⟨g, 0 + 0, none⟩ = some (.slice rb.a rb.n rb.c) := by rw [cell_of r.look]; rfl
  have c1 : h.cell ⟨g, 0 + 1, none⟩ = some (.int .i64 (p : Nat)) := by rw [cell_of r.look]; rfl
  have c2 : h.cell ⟨g, 0 + 2, none⟩ = some (.int .i64 e) := by rw [cell_of r.look]; rfl
  by_cases he : e = 0
  · subst he
    have eL : ∀ (β : Type) (K : Int → GH → Option β), F_ref01_Reader_Left R (some ⟨g, 0, none⟩) h K = K ((8 * bs.length - p : Nat) : Int) h := fun β K => by
      unfold F_ref01_Reader_Left
      rw [F_ref01_Reader_Left_gen, exA_s, c2, exI_s, bne_self_eq_false, condF, exA_s, c0, exS_s', exA_s, c1, exI_s]
      have hn := r.row.n
      have e1 : IntKind.wrap .i64 (8 * (((⟨rb.a, rb.n, rb.c⟩ : Sl).n : Nat) : Int)) = 8 * ((bs.length : Nat) : Int) := by
        rw [show (⟨rb.a, rb.n, rb.c⟩ : Sl).n = bs.length from hn, i64w (by omega)]
      rw [e1, i64w (by omega), show 8 * ((bs.length : Nat) : Int) - ((p : Nat) : Int) = ((8 * bs.length - p : Nat) : Int) by omega]
    by_cases c : p + n ≤ 8 * bs.length
    · obtain ⟨h2, eh2⟩ : ∃ h2, h2 = h.put g (some (.row ⟨[.slice rb.a rb.n rb.c, .int .i64 ((p + n : Nat) : Int), .int .i64 0], 0, false⟩)) := ⟨_, rfl⟩
      have k2 : Keep h h2 [g] := by rw [eh2]; exact keep_put _ _ _
      have l2 : h2.look g = some (.row ⟨[.slice rb.a rb.n rb.c, .int .i64 ((p + n : Nat) : Int), .int .i64 0], 0, false⟩) := by rw [eh2]; exact look_put_same hg
      have r2 : Rd h2 rb bs := r.row.keep k2 (fun x hx hm => by simp at hm; subst hm; exact r.sep hx)
      refine ⟨h2, ⟨by rw [bitsP, if_pos ⟨rfl, c⟩, bitsE, if_pos rfl, if_pos c]; exact l2, r2, r.sep, r.b8, r.small, by rw [bitsP, if_pos ⟨rfl, c⟩]; exact c⟩, k2, fun β K => ?_⟩
      unfold F_ref01_Reader_Bits
      rw [F_ref01_Reader_Bits_gen, exA_s, c2, exI_s, bne_self_eq_false, condF, decF (by omega), condF, decF (by omega), condF, eL, decF (by omega), condF, exA_s, c1, exI_s, exA_s, gput_eq r.look rfl (by simp)]
      rw [show nlay [Value.slice rb.a rb.n rb.c, .int .i64 (p : Nat), .int .i64 0] (0 + 1) [Value.int .i64 (IntKind.wrap .i64 (((p : Nat) : Int) + ((n : Nat) : Int)))] = [.slice rb.a rb.n rb.c, .int .i64 ((p + n : Nat) : Int), .int .i64 0] by rw [i64w (by omega)]; rfl, ← eh2]
      rw [exA_s, cell_of l2, show nth [Value.slice rb.a rb.n rb.c, .int .i64 ((p + n : Nat) : Int), .int .i64 0] (0 + 0) = some (.slice rb.a rb.n rb.c) from rfl, exS_s', exA_s, cell_of l2, show nth [Value.slice rb.a rb.n rb.c, .int .i64 ((p + n : Nat) : Int), .int .i64 0] (0 + 1) = some (.int .i64 ((p + n : Nat) : Int)) from rfl, exI_s]
      rw [i64w (by omega), show ((p + n : Nat) : Int) - ((n : Nat) : Int) = ((p : Nat) : Int) by omega, bitsV, if_pos ⟨rfl, c⟩]
      exact number_eq r2 r.b8 r.small c hn hR _
    · obtain ⟨h2, eh2⟩ : ∃ h2, h2 = h.put g (some (.row ⟨[.slice rb.a rb.n rb.c, .int .i64 ((p : Nat) : Int), .int .i64 3], 0, false⟩)) := ⟨_, rfl⟩
      have k2 : Keep h h2 [g] := by rw [eh2]; exact keep_put _ _ _
      have l2 : h2.look g = some (.row ⟨[.slice rb.a rb.n rb.c, .int .i64 ((p : Nat) : Int), .int .i64 3], 0, false⟩) := by rw [eh2]; exact look_put_same hg
      refine ⟨h2, ⟨by rw [bitsP, if_neg (fun q => c q.2), bitsE, if_pos rfl, if_neg c]; exact l2, r.row.keep k2 (fun x hx hm => by simp at hm; subst hm; exact r.sep hx), r.sep, r.b8, r.small, by rw [bitsP, if_neg (fun q => c q.2)]; exact hle⟩, k2, fun β K => ?_⟩
      unfold F_ref01_Reader_Bits
      rw [F_ref01_Reader_Bits_gen, exA_s, c2, exI_s, bne_self_eq_false, condF, decF (by omega), condF, decF (by omega), condF, eL, decT (by omega), condT, exA_s, gput_eq r.look rfl (by simp)]
      rw [show nlay [Value.slice rb.a rb.n rb.c, .int .i64 (p : Nat), .int .i64 0] (0 + 2) [Value.int .i64 3] = [.slice rb.a rb.n rb.c, .int .i64 ((p : Nat) : Int), .int .i64 3] from rfl, ← eh2, bitsV, if_neg (fun q => c q.2)]; rfl
  · refine ⟨h, by rw [bitsP, if_neg (fun q => he q.1), bitsE, if_neg he]; exact r, .refl _ _, fun β K => ?_⟩
    unfold F_ref01_Reader_Bits
    rw [F_ref01_Reader_Bits_gen, exA_s, c2, exI_s, bne_int, decT he, condT, bitsV, if_neg (fun q => he q.1)]; rfl
end
end Go.Proofs.Ytdmemmpkkibckaa.Gx

