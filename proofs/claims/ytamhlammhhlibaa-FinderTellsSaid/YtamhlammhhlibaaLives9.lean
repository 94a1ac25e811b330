/- Something is found at all; two rows that hold the same tokens are the same. -/
import Derived.Test.YtamhlammhhlibaaFind6
import Derived.Test.YtamhlammhhlibaaR01
import Derived.Lib.SlBytesConst
namespace Go.Proofs.Ytamhlammhhlibaa
open Go.RowKit

def abc : List Int := [97, 98, 99, 97, 98, 99, 97, 98, 99]
theorem abc_spec : findSpec abc 3 258 9 1 false = [⟨97, 0, 0⟩, ⟨98, 0, 0⟩, ⟨99, 0, 0⟩, ⟨0, 3, 6⟩] := by kernel_rfl
theorem abc_bytes : ∀ x ∈ abc, 0 ≤ x ∧ x ≤ 255 := by decide

set_option maxHeartbeats 1000000 in
theorem lives_any (w : World) : Calls Try.prog 15 #[] w fun e w' => e = .returned (.bool true) ∧ Below w.heap.size w w' := by
  have hsp := hide abc_spec
  have kc := fun (W : World) (C : Array Value) (n c : Nat) => Lib.run_convert_bytes_const (P := Try.prog) W 22 5 C n c Try.underlying22 Try.underlying5
  go_enter Try.func15, Try.ntmps15
  go_wp2_with fail
  have hr := reads_newF w #[Value.int .u8 97, .int .u8 98, .int .u8 99, .int .u8 97, .int .u8 98, .int .u8 99, .int .u8 97, .int .u8 98, .int .u8 99] 5 (9, 10) 1 9 rfl
  rw [show w.heap.size + 1 = (w.alloc (Obj.cells #[Value.int .u8 97, .int .u8 98, .int .u8 99, .int .u8 97, .int .u8 98, .int .u8 99, .int .u8 97, .int .u8 98, .int .u8 99] 5 (9, 10))).heap.size by simp] at hr
  refine (find_yes _ (some ⟨w.heap.size, 0, none⟩) 9 9 9 3 258 1 false abc rfl hr abc_bytes (by omega) (by omega)).mono ?_
  rintro e w1 ⟨v, rfl, hown, hb⟩
  rw [hsp.out] at hown
  obtain ⟨g, cap, rfl, hg, hlt⟩ := hown.form (by simp)
  have hc := hown.cells (g := g) rfl
  have x0 : w1.cell? ⟨g, 9, none⟩ = some (.int .u8 0) := hc 9 (.int .u8 0) rfl
  have x1 : w1.cell? ⟨g, 10, none⟩ = some (.int .i64 3) := hc 10 (.int .i64 3) rfl
  have x2 : w1.cell? ⟨g, 11, none⟩ = some (.int .i64 6) := hc 11 (.int .i64 6) rfl
  have hbw : Below w.heap.size w w1 := ((Below.refl _ _).alloc (Nat.le_refl _) _).trans (hb.mono (by simp))
  clear hown hc hb hr hsp
  go_wp2_with fail
  go_ret
  exact ⟨rfl, hbw⟩

/-- Two rows that hold the same tokens are the same. -/
theorem tokCs_get (l : List Tok) (k : Nat) (h : k < l.length) : (tokCs l)[k * 3]? = some (.int .u8 l[k].lit) ∧ (tokCs l)[k * 3 + 1]? = some (.int .i64 l[k].dist) ∧ (tokCs l)[k * 3 + 2]? = some (.int .i64 l[k].len) := by
  induction l generalizing k with
  | nil => simp at h
  | cons t l ih =>
    cases k with
    | zero => simp [tokCs, tokC]
    | succ k =>
      have := ih k (by simpa using h)
      have e : tokCs (t :: l) = .int .u8 t.lit :: .int .i64 t.dist :: .int .i64 t.len :: tokCs l := by simp [tokCs, tokC]
      rw [e, show (k + 1) * 3 = k * 3 + 3 by omega]
      simpa using this

set_option maxHeartbeats 1000000 in
theorem tsame_eq (w : World) (A A' : Option Addr) (n c c' B B' : Nat) (l : List Tok) (hl : l.length = n) (hx : Reads w B 3 A n (tokCs l)) (hy : Reads w B' 3 A' n (tokCs l)) (hn : n ≤ 140737488351232) :
    Calls Try.prog 11 #[.slice A n c, .slice A' n c'] w fun e w' => e = .returned (.bool true) ∧ Drawn w w' := by
  have hz : ((n : Int) != n) = false := by simp
  have Hl := hide hl
  clear hl
  go_enter Try.func11, Try.ntmps11
  go_wp2_with fail
  go_loopw [5] (fun v5 wr => ∃ k : Nat, v5 = .int .i64 k ∧ k ≤ n ∧ Drawn w wr) (fun v5 _ => n - (intOf v5).toNat)
  case atStart => exact ⟨0, rfl, by omega, Drawn.refl _⟩
  case round =>
    obtain ⟨k, rfl, hk, hd⟩ := hrel
    by_cases hlt : k < n
    · obtain ⟨b, off, rfl, _, hc⟩ := hx.plain (by omega) (by omega)
      obtain ⟨b', off', rfl, _, hc'⟩ := hy.plain (by omega) (by omega)
      obtain ⟨g0, g1, g2⟩ := tokCs_get l k (by rw [Hl.out]; exact hlt)
      have x0 := (hd.cell ⟨b, off + k * 3, none⟩).trans (hc _ _ g0)
      have x1 := (hd.cell ⟨b, off + (k * 3 + 1), none⟩).trans (hc _ _ g1)
      have x2 := (hd.cell ⟨b, off + (k * 3 + 2), none⟩).trans (hc _ _ g2)
      have y0 := (hd.cell ⟨b', off' + k * 3, none⟩).trans (hc' _ _ g0)
      have y1 := (hd.cell ⟨b', off' + (k * 3 + 1), none⟩).trans (hc' _ _ g1)
      have y2 := (hd.cell ⟨b', off' + (k * 3 + 2), none⟩).trans (hc' _ _ g2)
      rw [← Nat.add_assoc] at x1 x2 y1 y2
      clear hc hc' g0 g1 g2
      generalize (l[k]'(by rw [Hl.out]; exact hlt)).lit = z0 at x0 y0
      generalize (l[k]'(by rw [Hl.out]; exact hlt)).dist = z1 at x1 y1
      generalize (l[k]'(by rw [Hl.out]; exact hlt)).len = z2 at x2 y2
      have q1 : (k : Int) < n := by omega
      go_wp2_with fail
      go_quiet (fail)
      go_wp2_with fail
      exact ⟨⟨k + 1, by go_num, by omega, hd.step _⟩, by simp [intOf]; omega⟩
    · obtain rfl : k = n := by omega
      go_wp2_with fail
      go_ret
      exact ⟨rfl, hd⟩
end Go.Proofs.Ytamhlammhhlibaa
