/- The program's writer of bits. No condition. -/
import Derived.Test.YtdmemmpkkibckaaReadP
import Derived.Test.YtdmemmpkkibckaaGxx
namespace Go.Proofs.Ytdmemmpkkibckaa.Gx
open Go Go.RowKit
set_option linter.unusedVariables false
set_option linter.unusedSimpArgs false
/-- the first k bytes of a number -/
def bytesN : Nat → Nat → List Int
  | 0, v => []
  | k + 1, v => ((v % 256 : Nat) : Int) :: bytesN k (v / 256)
theorem bytesN_length : ∀ k v, (bytesN k v).length = k
  | 0, v => rfl
  | k + 1, v => by rw [bytesN, List.length_cons, bytesN_length]
theorem bytesN_b8 : ∀ k v, B8 (bytesN k v)
  | 0, v => fun x hx => by simp [bytesN] at hx
  | k + 1, v => fun x hx => by
    rw [bytesN] at hx
    rcases List.mem_cons.1 hx with e | e
    · subst e; have := Nat.mod_lt v (show 256 > 0 by omega); omega
    · exact bytesN_b8 k _ x e
theorem bytesN_push : ∀ k v, bytesN (k + 1) v = bytesN k v ++ [((v / 2 ^ (8 * k) % 256 : Nat) : Int)]
  | 0, v => by rw [bytesN, bytesN, bytesN, Nat.mul_zero, Nat.pow_zero, Nat.div_one]; rfl
  | k + 1, v => by
    rw [bytesN, bytesN_push k, bytesN, List.cons_append, Nat.div_div_eq_div_mul, show (256 : Nat) * 2 ^ (8 * k) = 2 ^ (8 * (k + 1)) by rw [show 8 * (k + 1) = 8 + 8 * k by omega, Nat.pow_add]]
theorem numN_bytesN : ∀ k v, numN (bytesN k v) = v % 2 ^ (8 * k)
  | 0, v => by simp [bytesN, numN, Nat.mod_one]
  | k + 1, v => by
    rw [bytesN, numN, numN_bytesN k, Int.toNat_natCast, show 8 * (k + 1) = 8 + 8 * k by omega, Nat.pow_add, Nat.mod_mul]
theorem bytesN_low : ∀ k v w, bytesN k (v + w * 2 ^ (8 * k)) = bytesN k v
  | 0, v, w => rfl
  | k + 1, v, w => by
    have e : w * 2 ^ (8 * (k + 1)) = 256 * (w * 2 ^ (8 * k)) := by rw [show 8 * (k + 1) = 8 + 8 * k by omega, Nat.pow_add]; rw [Nat.mul_left_comm]
    rw [bytesN, bytesN, e, show (v + 256 * (w * 2 ^ (8 * k))) % 256 = v % 256 by omega, show (v + 256 * (w * 2 ^ (8 * k))) / 256 = v / 256 + w * 2 ^ (8 * k) by omega, bytesN_low k]
/-- a writer: q bytes of v are out, m bits more are held -/
structure WtS (h : GH) (g : Nat) (wb : Sl) (v q m : Nat) : Prop where
  look : h.look g = some (.row ⟨[.slice wb.a wb.n wb.c, .int .u64 (v / 2 ^ (8 * q) : Nat), .int .i64 (m : Nat)], 0, false⟩)
  vec : Bv h wb (bytesN q v)
  sep : g ∉ rowsOf wb
  lt : v < 2 ^ (8 * q + m)
/-- a writer that has written len bits, together v -/
def Wtr (h : GH) (g : Nat) (wb : Sl) (v len : Nat) : Prop := WtS h g wb v (len / 8) (len % 8)
theorem WtS.keep {h h' : GH} {g : Nat} {wb : Sl} {v q m : Nat} {own : List Nat} (w : WtS h g wb v q m) (k : Keep h h' own) (h1 : g ∉ own) (h2 : ∀ x ∈ rowsOf wb, x ∉ own) : WtS h' g wb v q m := ⟨k.look w.look h1, w.vec.keep k h2, w.sep, w.lt⟩
theorem div_lt_pow {v q m : Nat} (h : v < 2 ^ (8 * q + m)) : v / 2 ^ (8 * q) < 2 ^ m := by
  rw [Nat.div_lt_iff_lt_mul (Nat.pow_pos (by omega)), ← Nat.pow_add, Nat.add_comm m]; exact h
theorem shr64_8 (a : Nat) : shrI .u64 ((a : Nat) : Int) 8 = ((a / 256 : Nat) : Int) := by
  rw [show (8 : Int) = ((8 : Nat) : Int) from rfl, shr_nat .u64 a 8 (by decide), Nat.shiftRight_eq_div_pow]
theorem u8_mod (a : Nat) : IntKind.wrap .u8 ((a : Nat) : Int) = ((a % 256 : Nat) : Int) := by
  have e : IntKind.bits .u8 = 8 := rfl
  unfold IntKind.wrap
  simp [IntKind.signed, e]
theorem put_loop (R : Nat) {g v : Nat} : ∀ (n q m : Nat) {h : GH} {wb : Sl}, WtS h g wb v q m → m < 8 * n → m ≤ 39 → 8 * q + m ≤ 1600000000 →
    ∃ h' wb', WtS h' g wb' v (q + m / 8) (m % 8) ∧ Keep h h' (g :: rowsOf wb) ∧ (∀ k ∈ rowsOf wb', k ∈ rowsOf wb ∨ h.next ≤ k) ∧ ∀ (β : Type) (K0 : GH → Option β), F_bitio_Writer_Put_l0 R n (some ⟨g, 0, none⟩) h K0 = K0 h' := by
  intro n
  induction n with
  | zero => intro q m h wb w h1; omega
  | succ n ih =>
    intro q m h wb w h1 h2 h3
    have hg := look_lt w.look
    have c0 : h.cell ⟨g, 0 + 0, none⟩ = some (.slice wb.a wb.n wb.c) := by rw [cell_of w.look]; rfl
    have c1 : h.cell ⟨g, 0 + 1, none⟩ = some (.int .u64 (v / 2 ^ (8 * q) : Nat)) := by rw [cell_of w.look]; rfl
    have c2 : h.cell ⟨g, 0 + 2, none⟩ = some (.int .i64 (m : Nat)) := by rw [cell_of w.look]; rfl
    by_cases c : 8 ≤ m
    · have hv := w.vec.n
      rw [bytesN_length] at hv
      obtain ⟨h3', s3, e3, v3, k3, n3, l3⟩ := app_one' (by_ := 1) w.vec [Value.int .u8 ((v / 2 ^ (8 * q) % 256 : Nat) : Int)] rfl Nat.one_pos rfl (by rw [hv]; simp [most]; omega)
      have hlook3 := k3.look w.look w.sep
      have hold' : v / 2 ^ (8 * q) / 256 = v / 2 ^ (8 * (q + 1)) := by
        rw [Nat.div_div_eq_div_mul, show (2 : Nat) ^ (8 * q) * 256 = 2 ^ (8 * (q + 1)) by rw [show 8 * (q + 1) = 8 * q + 8 by omega, Nat.pow_add]]
      obtain ⟨hA, ehA⟩ : ∃ hA, hA = h3'.put g (some (.row ⟨[.slice s3.a s3.n s3.c, .int .u64 (v / 2 ^ (8 * (q + 1)) : Nat), .int .i64 ((m - 8 : Nat) : Int)], 0, false⟩)) := ⟨_, rfl⟩
      have kA : Keep h3' hA [g] := by rw [ehA]; exact keep_put _ _ _
      have hg3 := look_lt hlook3
      have sep3 : g ∉ rowsOf s3 := fun hm => by
        rcases n3 g hm with q1 | q1
        · exact w.sep q1
        · omega
      have wA : WtS hA g s3 v (q + 1) (m - 8) := by
        refine ⟨by rw [ehA]; exact look_put_same hg3, Vec.keep ?_ kA (fun x hx hm => by simp at hm; subst hm; exact sep3 hx), sep3, ?_⟩
        · rw [bytesN_push, u8s_app]; exact v3
        · have := w.lt; rw [show 8 * (q + 1) + (m - 8) = 8 * q + m by omega]; exact this
      obtain ⟨h', wb', w', k', n', e'⟩ := ih (q + 1) (m - 8) wA (by omega) (by omega) (by omega)
      have kk : Keep h hA (g :: rowsOf wb) := (k3.mono (fun x hx => by simp [hx])).trans kA (fun x hx => by simp at hx; subst hx; exact .inl (by simp))
      refine ⟨h', wb', ?_, kk.trans k' (fun x hx => ?_), fun x hx => ?_, fun β K0 => ?_⟩
      · rw [show q + m / 8 = q + 1 + (m - 8) / 8 by omega, show m % 8 = (m - 8) % 8 by omega]; exact w'
      · rcases List.mem_cons.1 hx with e | e
        · subst e; exact .inl (by simp)
        · rcases n3 x e with q1 | q1
          · exact .inl (by simp [q1])
          · exact .inr q1
      · rcases n' x hx with q1 | q1
        · exact n3 x q1
        · have := kk.1; exact .inr (by omega)
      · rw [F_bitio_Writer_Put_l0_succ, exA_s, c2, exI_s, decT (by omega), condT, exA_s, c0, exS_s', exA_s, c1, exI_s, u8_mod]
        refine Eq.trans (e3 β _) ?_
        rw [exA_s, gput_eq hlook3 rfl (by simp), exA_s]
        rw [show nlay [Value.slice wb.a wb.n wb.c, .int .u64 (v / 2 ^ (8 * q) : Nat), .int .i64 (m : Nat)] (0 + 0) [Value.slice s3.a s3.n s3.c] = [.slice s3.a s3.n s3.c, .int .u64 (v / 2 ^ (8 * q) : Nat), .int .i64 (m : Nat)] from rfl]
        have l1 := look_put_same (h := h3') (o := some (.row ⟨[.slice s3.a s3.n s3.c, .int .u64 (v / 2 ^ (8 * q) : Nat), .int .i64 (m : Nat)], 0, false⟩)) hg3
        rw [cell_of l1, show nth [Value.slice s3.a s3.n s3.c, .int .u64 (v / 2 ^ (8 * q) : Nat), .int .i64 (m : Nat)] (0 + 1) = some (.int .u64 (v / 2 ^ (8 * q) : Nat)) from rfl, exI_s, exA_s, gput_eq l1 rfl (by simp), put_put, shr64_8, hold']
        rw [show nlay [Value.slice s3.a s3.n s3.c, .int .u64 (v / 2 ^ (8 * q) : Nat), .int .i64 (m : Nat)] (0 + 1) [Value.int .u64 (v / 2 ^ (8 * (q + 1)) : Nat)] = [.slice s3.a s3.n s3.c, .int .u64 (v / 2 ^ (8 * (q + 1)) : Nat), .int .i64 (m : Nat)] from rfl]
        have l2 := look_put_same (h := h3') (o := some (.row ⟨[.slice s3.a s3.n s3.c, .int .u64 (v / 2 ^ (8 * (q + 1)) : Nat), .int .i64 (m : Nat)], 0, false⟩)) hg3
        rw [exA_s, cell_of l2, show nth [Value.slice s3.a s3.n s3.c, .int .u64 (v / 2 ^ (8 * (q + 1)) : Nat), .int .i64 (m : Nat)] (0 + 2) = some (.int .i64 (m : Nat)) from rfl, exI_s, exA_s, gput_eq l2 rfl (by simp), put_put, i64w (by omega), show ((m : Nat) : Int) - 8 = ((m - 8 : Nat) : Int) by omega]
        rw [show nlay [Value.slice s3.a s3.n s3.c, .int .u64 (v / 2 ^ (8 * (q + 1)) : Nat), .int .i64 (m : Nat)] (0 + 2) [Value.int .i64 ((m - 8 : Nat) : Int)] = [.slice s3.a s3.n s3.c, .int .u64 (v / 2 ^ (8 * (q + 1)) : Nat), .int .i64 ((m - 8 : Nat) : Int)] from rfl, ← ehA]
        exact e' β K0
    · refine ⟨h, wb, by rw [show q + m / 8 = q by omega, Nat.mod_eq_of_lt (by omega)]; exact w, .refl _ _, fun k hk => .inl hk, fun β K0 => ?_⟩
      rw [F_bitio_Writer_Put_l0_succ, exA_s, c2, exI_s, decF (by omega), condF]
/-- k bits of x behind len bits v -/
def putV (v len x k : Nat) : Nat := v + x % 2 ^ k * 2 ^ len
theorem put_prog {h : GH} {g : Nat} {wb : Sl} {v len x k : Nat} (w : Wtr h g wb v len) (hx : x < 4294967296) (hk : k ≤ 32) (hl : len ≤ 800000000) {R : Nat} (hR : 4000000 < R) :
    ∃ h' wb', Wtr h' g wb' (putV v len x k) (len + k) ∧ Keep h h' (g :: rowsOf wb) ∧ (∀ k ∈ rowsOf wb', k ∈ rowsOf wb ∨ h.next ≤ k) ∧ ∀ (β : Type) (K : GH → Option β), F_bitio_Writer_Put R (some ⟨g, 0, none⟩) (x : Nat) (k : Nat) h K = K h' := by
  unfold Wtr at w
  have hg := look_lt w.look
  obtain ⟨q, hq⟩ : ∃ q, q = len / 8 := ⟨_, rfl⟩
  obtain ⟨n, hn⟩ : ∃ n, n = len % 8 := ⟨_, rfl⟩
  rw [← hq, ← hn] at w
  have hlen : len = 8 * q + n := by omega
  have hhold := div_lt_pow w.lt
  have hn8 : n < 8 := by omega
  have hpn : 2 ^ n ≤ 2 ^ 7 := Nat.pow_le_pow_right (by omega) (by omega)
  rw [show (2 : Nat) ^ 7 = 128 by decide] at hpn
  have hpk : 2 ^ k ≤ 2 ^ 32 := Nat.pow_le_pow_right (by omega) hk
  rw [show (2 : Nat) ^ 32 = 4294967296 by decide] at hpk
  have hk0 : 0 < 2 ^ k := Nat.pow_pos (by omega)
  have hxm : x % 2 ^ k < 2 ^ k := Nat.mod_lt _ hk0
  have hmul : x % 2 ^ k * 2 ^ n ≤ 4294967296 * 128 := Nat.mul_le_mul (by omega) hpn
  have hnew : v / 2 ^ (8 * q) + x % 2 ^ k * 2 ^ n = putV v len x k / 2 ^ (8 * q) := by
    unfold putV
    rw [hlen, Nat.pow_add, Nat.mul_comm (2 ^ (8 * q)), ← Nat.mul_assoc, Nat.add_mul_div_right _ _ (Nat.pow_pos (by omega))]
  have hby : bytesN q (putV v len x k) = bytesN q v := by
    unfold putV
    rw [hlen, Nat.pow_add, Nat.mul_comm (2 ^ (8 * q)), ← Nat.mul_assoc, bytesN_low]
  have hlt : putV v len x k < 2 ^ (8 * q + (n + k)) := by
    have h1 := w.lt
    unfold putV
    rw [← Nat.add_assoc, ← hlen, Nat.pow_add]
    rw [← hlen] at h1
    have h2 : x % 2 ^ k * 2 ^ len + 2 ^ len ≤ 2 ^ k * 2 ^ len := by
      rw [← Nat.succ_mul]; exact Nat.mul_le_mul_right _ hxm
    rw [Nat.mul_comm (2 ^ len)]; omega
  obtain ⟨hA, ehA⟩ : ∃ hA, hA = h.put g (some (.row ⟨[.slice wb.a wb.n wb.c, .int .u64 (putV v len x k / 2 ^ (8 * q) : Nat), .int .i64 ((n + k : Nat) : Int)], 0, false⟩)) := ⟨_, rfl⟩
  have kA : Keep h hA [g] := by rw [ehA]; exact keep_put _ _ _
  have wA : WtS hA g wb (putV v len x k) q (n + k) := ⟨by rw [ehA]; exact look_put_same hg, by rw [hby]; exact w.vec.keep kA (fun y hy hm => by simp at hm; subst hm; exact w.sep hy), w.sep, hlt⟩
  obtain ⟨h', wb', w', k', n', e'⟩ := put_loop R R q (n + k) wA (by omega) (by omega) (by omega)
  refine ⟨h', wb', ?_, (kA.mono (by simp)).trans k' (fun y hy => .inl hy), fun y hy => ?_, fun β K => ?_⟩
  · unfold Wtr
    rw [show (len + k) / 8 = q + (n + k) / 8 by omega, show (len + k) % 8 = (n + k) % 8 by omega]; exact w'
  · rcases n' y hy with q1 | q1
    · exact .inl q1
    · have := kA.1; exact .inr (by omega)
  · have emin : (if 32 < (if 0 > ((k : Nat) : Int) then 0 else ((k : Nat) : Int)) then 32 else if 0 > ((k : Nat) : Int) then 0 else ((k : Nat) : Int)) = ((k : Nat) : Int) := by
      rw [if_neg (c := 0 > ((k : Nat) : Int)) (by omega), if_neg (by omega)]
    have c1 : h.cell ⟨g, 0 + 1, none⟩ = some (.int .u64 (v / 2 ^ (8 * q) : Nat)) := by rw [cell_of w.look]; rfl
    have c2 : h.cell ⟨g, 0 + 2, none⟩ = some (.int .i64 (n : Nat)) := by rw [cell_of w.look]; rfl
    unfold F_bitio_Writer_Put
    rw [F_bitio_Writer_Put_gen, isNone_s, condF, emin, exA_s, c1, exI_s, decF (by omega), condF, exA_s, c2, exI_s, decF (by omega), condF, exA_s]
    rw [u64w (x := x) (by omega), mask64 hk, and64 (by omega) (by omega), Nat.and_two_pow_sub_one_eq_mod, shl64n _ n (by omega) (by omega), or64 (by omega) (by omega), or_add hhold, hnew]
    rw [gput_eq w.look rfl (by simp)]
    rw [show nlay [Value.slice wb.a wb.n wb.c, .int .u64 (v / 2 ^ (8 * q) : Nat), .int .i64 (n : Nat)] (0 + 1) [Value.int .u64 (putV v len x k / 2 ^ (8 * q) : Nat)] = [.slice wb.a wb.n wb.c, .int .u64 (putV v len x k / 2 ^ (8 * q) : Nat), .int .i64 (n : Nat)] from rfl]
    have l1 := look_put_same (h := h) (o := some (.row ⟨[.slice wb.a wb.n wb.c, .int .u64 (putV v len x k / 2 ^ (8 * q) : Nat), .int .i64 (n : Nat)], 0, false⟩)) hg
    rw [exA_s, cell_of l1, show nth [Value.slice wb.a wb.n wb.c, .int .u64 (putV v len x k / 2 ^ (8 * q) : Nat), .int .i64 (n : Nat)] (0 + 2) = some (.int .i64 (n : Nat)) from rfl, exI_s, exA_s, gput_eq l1 rfl (by simp), put_put, i64w (by omega), show ((n : Nat) : Int) + ((k : Nat) : Int) = ((n + k : Nat) : Int) by omega]
    rw [show nlay [Value.slice wb.a wb.n wb.c, .int .u64 (putV v len x k / 2 ^ (8 * q) : Nat), .int .i64 (n : Nat)] (0 + 2) [Value.int .i64 ((n + k : Nat) : Int)] = [.slice wb.a wb.n wb.c, .int .u64 (putV v len x k / 2 ^ (8 * q) : Nat), .int .i64 ((n + k : Nat) : Int)] from rfl, ← ehA]
    exact e' β _
theorem new_writer (h : GH) : ∃ h' g, Wtr h' g ⟨none, 0, 0⟩ 0 0 ∧ Keep h h' [] ∧ h.next ≤ g ∧ ∀ (R : Nat) (β : Type) (K : Option Addr → GH → Option β), F_bitio_New R h K = K (some ⟨g, 0, none⟩) h' := by
  refine ⟨h.push (.row ⟨[.slice none 0 0, .int .u64 0, .int .i64 0], 0, false⟩), h.next, ⟨look_push_new, Vec.nil, by simp [rowsOf], by simp⟩, keep_push _ _ _, Nat.le_refl _, fun R β K => ?_⟩
  unfold F_bitio_New; rw [F_bitio_New_gen, gnew_eq rfl]
end Go.Proofs.Ytdmemmpkkibckaa.Gx

