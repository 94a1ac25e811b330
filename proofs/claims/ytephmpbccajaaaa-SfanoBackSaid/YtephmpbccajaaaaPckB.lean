/- Rows of lengths: the program's loop and the document's. No condition. -/
import Derived.Test.YtephmpbccajaaaaPck
namespace Go.Proofs.Ytephmpbccajaaaa.Gx
open Go Go.RowKit
set_option linter.unusedVariables false
set_option linter.unusedSimpArgs false
def rowB (n x : Int) : Int := (n - 1) * 16 + x - 1
/-- the rows of lengths, of the first of which n are counted -/
def goP : Int → List Int → List Int
  | n, [] => []
  | n, [x] => [rowB n x]
  | n, x :: y :: r => if y = x ∧ n < 16 then goP (n + 1) (y :: r) else rowB n x :: goP 1 (y :: r)
theorem goP_len : ∀ (l : List Int) (n : Int), (goP n l).length ≤ l.length
  | [], n => by simp [goP]
  | [x], n => by simp [goP]
  | x :: y :: r, n => by
    unfold goP
    split
    · have := goP_len (y :: r) (n + 1); simp at this ⊢; omega
    · have := goP_len (y :: r) 1; simp at this ⊢; omega
theorem u8w {x : Int} (h : 0 ≤ x ∧ x ≤ 255) : IntKind.wrap .u8 x = x := IntWalk.u8_in x (by omega)
theorem row_ref {n x : Int} (hn : 1 ≤ n ∧ n ≤ 16) (hx : lenP x) : IntKind.wrap .u8 (IntKind.wrap .i64 ((IntKind.wrap .i64 ((IntKind.wrap .i64 ((IntKind.wrap .i64 (n - 1)) * 16)) + x)) - 1)) = rowB n x := by
  unfold lenP at hx
  rw [i64w (x := n - 1) (by omega), i64w (x := (n - 1) * 16) (by omega), i64w (x := (n - 1) * 16 + x) (by omega), i64w (x := (n - 1) * 16 + x - 1) (by omega), u8w (by omega)]; rfl
theorem row_tab : ∀ n, n < 16 → ∀ x, x < 16 → IntKind.wrap .u8 (IntKind.wrap .i64 (BitVec.ofInt (IntKind.bits .i64) (shlI .i64 ((n : Nat) : Int) 4) ||| BitVec.ofInt (IntKind.bits .i64) ((x : Nat) : Int)).toNat) = ((n * 16 + x : Nat) : Int) := by decide +kernel
theorem row_prog {n x : Int} (hn : 1 ≤ n ∧ n ≤ 16) (hx : lenP x) : IntKind.wrap .u8 (IntKind.wrap .i64 (BitVec.ofInt (IntKind.bits .i64) (shlI .i64 (IntKind.wrap .i64 (n - 1)) 4) ||| BitVec.ofInt (IntKind.bits .i64) (IntKind.wrap .i64 (x - 1))).toNat) = rowB n x := by
  unfold lenP at hx
  rw [i64w (x := n - 1) (by omega), i64w (x := x - 1) (by omega)]
  have := row_tab (n - 1).toNat (by omega) (x - 1).toNat (by omega)
  rw [Int.toNat_of_nonneg (by omega), Int.toNat_of_nonneg (by omega)] at this
  rw [this]; unfold rowB; omega
theorem app_byte {h : GH} {s : Sl} {bs : List Int} (v : Bv h s bs) (x : Int) (hm : bs.length ≤ 1000000) : ∃ h' s', (∀ (β : Type) (K : Sl → GH → Option β), (gnew [Value.int .u8 x] 1 h fun g h1 => gappS 1 1 s ⟨(some ⟨g, 0, none⟩), 1, 1⟩ h1 K) = K s' h') ∧ Bv h' s' (bs ++ [x]) ∧ Keep h h' (rowsOf s) ∧ (∀ k ∈ rowsOf s', k ∈ rowsOf s ∨ h.next ≤ k) := by
  obtain ⟨h', s', e, v', k, n, _⟩ := app_one' (by_ := 1) v [Value.int .u8 x] rfl Nat.one_pos rfl (by rw [v.n]; simp [most]; omega)
  exact ⟨h', s', e, by unfold Bv; rw [u8s_app]; exact v', k, n⟩
theorem refpack_loop {a : Sl} {zs : List Int} (hx : ∀ x ∈ zs, lenP x) (hm : zs.length ≤ 1000000) (R : Nat) : ∀ (n i : Nat) {h : GH} {out : Sl} {cnt : Int} {bs : List Int}, Rdi h a zs → i ≤ zs.length → zs.length < n + i → (1 ≤ cnt ∧ cnt ≤ 16) → Bv h out bs → bs.length ≤ i → (∀ k ∈ rowsOf out, k ∉ rowsOf a) →
    ∃ h' q, (∀ (β : Type) (F1 : Sl → GH → (Bool → GH → Option β) → Option β) (K0 : Sl → GH → Option β), F_ref06_Pack_l0 F1 R n a out cnt (i : Nat) h K0 = K0 q h') ∧ Bv h' q (bs ++ goP cnt (zs.drop i)) ∧ Keep h h' (rowsOf out) ∧ (∀ k ∈ rowsOf q, k ∈ rowsOf out ∨ h.next ≤ k) := by
  intro n
  induction n with
  | zero => intro i h out cnt bs r h1 h2; omega
  | succ n ih =>
    intro i h out cnt bs r h1 h2 hc v hb hd
    have hn := r.ni
    by_cases hi : i < zs.length
    · have hg := getD_drop hi
      have hl : lenP (zs.getD i 0) := hx _ (by
        have : zs.getD i 0 ∈ zs.drop i := by rw [hg]; exact List.mem_cons_self
        exact List.mem_of_mem_drop this)
      -- one row more
      have emit : ∀ (hgo : goP cnt (zs.drop i) = rowB cnt (zs.getD i 0) :: goP 1 (zs.drop (i + 1))), ∃ h' q, (∀ (β : Type) (F1 : Sl → GH → (Bool → GH → Option β) → Option β) (K0 : Sl → GH → Option β), (gnew [Value.int .u8 (rowB cnt (zs.getD i 0))] 1 h fun g h1 => gappS 1 1 out ⟨(some ⟨g, 0, none⟩), 1, 1⟩ h1 fun s20 h21 => F_ref06_Pack_l0 F1 R n a s20 1 ((i + 1 : Nat) : Int) h21 K0) = K0 q h') ∧ Bv h' q (bs ++ goP cnt (zs.drop i)) ∧ Keep h h' (rowsOf out) ∧ (∀ k ∈ rowsOf q, k ∈ rowsOf out ∨ h.next ≤ k) := fun hgo => by
        obtain ⟨h3, s3, e3, v3, k3, n3⟩ := app_byte v (rowB cnt (zs.getD i 0)) (by omega)
        obtain ⟨h4, q, e4, v4, k4, n4⟩ := ih (i + 1) (cnt := 1) (r.keep k3 fun x hx hm => hd x hm hx) (by omega) (by omega) (by omega) v3 (by simp; omega) (fun k hk hm => by
          rcases n3 k hk with q | q
          · exact hd k q hm
          · have := r.lt k hm; omega)
        refine ⟨h4, q, fun β F1 K0 => by rw [e3, e4], by rw [hgo]; simpa using v4, k3.trans k4 (fun k hk => n3 k hk), fun k hk => ?_⟩
        rcases n4 k hk with q | q
        · exact n3 k q
        · have := k3.1; exact .inr (by omega)
      have hin : ∀ {β : Type}, within ((i : Nat) : Int) zs.length (β := β) = within ((i : Nat) : Int) a.n := by rw [hn]; simp
      have hrow := row_ref hc hl
      by_cases hi1 : i + 1 < zs.length
      · have hg1 := getD_drop hi1
        have hin1 : ∀ {β : Type}, within ((i + 1 : Nat) : Int) zs.length (β := β) = within ((i + 1 : Nat) : Int) a.n := by rw [hn]; simp
        by_cases he : zs.getD (i + 1) 0 = zs.getD i 0
        · by_cases h16 : cnt < 16
          · obtain ⟨h4, q, e4, v4, k4, n4⟩ := ih (i + 1) (cnt := cnt + 1) r (by omega) (by omega) (by omega) v (by omega) hd
            refine ⟨h4, q, fun β F1 K0 => ?_, by rw [hg, hg1, goP, if_pos ⟨he, h16⟩, ← hg1]; exact v4, k4, n4⟩
            rw [F_ref06_Pack_l0_succ]
            simp only [show ((i : Nat) : Int) + 1 = ((i + 1 : Nat) : Int) from rfl, i64w (x := ((i + 1 : Nat) : Int)) (by omega), hn, cond_dec, hin, hin1, Int.toNat_natCast, r.intN hi, r.intN hi1, beq_int]
            rw [if_pos (by omega), if_pos (by omega), if_pos he, if_pos h16, i64w (x := cnt + 1) (by omega)]; exact e4 _ _ _
          · obtain ⟨h4, q, e4, v4, k4, n4⟩ := emit (by rw [hg, hg1, goP, if_neg (by omega), ← hg1])
            refine ⟨h4, q, fun β F1 K0 => ?_, v4, k4, n4⟩
            rw [F_ref06_Pack_l0_succ]
            simp only [show ((i : Nat) : Int) + 1 = ((i + 1 : Nat) : Int) from rfl, i64w (x := ((i + 1 : Nat) : Int)) (by omega), hn, cond_dec, hin, hin1, Int.toNat_natCast, r.intN hi, r.intN hi1, beq_int]
            rw [if_pos (by omega), if_pos (by omega), if_pos he, if_neg h16, hrow]; exact e4 _ _ _
        · obtain ⟨h4, q, e4, v4, k4, n4⟩ := emit (by rw [hg, hg1, goP, if_neg (fun q => he q.1), ← hg1])
          refine ⟨h4, q, fun β F1 K0 => ?_, v4, k4, n4⟩
          rw [F_ref06_Pack_l0_succ]
          simp only [show ((i : Nat) : Int) + 1 = ((i + 1 : Nat) : Int) from rfl, i64w (x := ((i + 1 : Nat) : Int)) (by omega), hn, cond_dec, hin, hin1, Int.toNat_natCast, r.intN hi, r.intN hi1, beq_int]
          rw [if_pos (by omega), if_pos (by omega), if_neg he, hrow]; exact e4 _ _ _
      · have hnil : zs.drop (i + 1) = [] := List.drop_eq_nil_of_le (by omega)
        obtain ⟨h4, q, e4, v4, k4, n4⟩ := emit (by rw [hg, hnil]; rfl)
        refine ⟨h4, q, fun β F1 K0 => ?_, v4, k4, n4⟩
        rw [F_ref06_Pack_l0_succ]
        simp only [show ((i : Nat) : Int) + 1 = ((i + 1 : Nat) : Int) from rfl, i64w (x := ((i + 1 : Nat) : Int)) (by omega), hn, cond_dec, hin, Int.toNat_natCast, r.intN hi, beq_int]
        rw [if_pos (by omega), if_neg (by omega), hrow]; exact e4 _ _ _
    · have hnil : zs.drop i = [] := List.drop_eq_nil_of_le (by omega)
      refine ⟨h, out, fun β F1 K0 => ?_, by rw [hnil]; simpa [goP] using v, .refl _ _, fun k hk => .inl hk⟩
      rw [F_ref06_Pack_l0_succ, hn, decF (by omega), condF]
end Go.Proofs.Ytephmpbccajaaaa.Gx

