/- The finder's small functions: what each answers. -/
import Derived.Test.YtamhlammhhlibaaChecked
import Derived.Test.YtamhlammhhlibaaBase
namespace Go.Proofs.Ytamhlammhhlibaa
open Go.RowKit

/-- How many bytes are the same from two places on, from k on. -/
def lenFrom (bs : List Int) (f i : Nat) (mx : Int) : Nat → Nat → Nat
  | 0, k => k
  | m + 1, k => if (k : Int) < mx ∧ i + k < bs.length ∧ bs.getD (f + k) 0 = bs.getD (i + k) 0 then lenFrom bs f i mx m (k + 1) else k
def same (bs : List Int) (f i : Nat) (mx : Int) : Nat := lenFrom bs f i mx bs.length 0

/-- The finder's block. -/
def FCells (win mn mx ch : Int) (lz : Bool) (A : Option Addr) (n c : Nat) (mb : Nat) (PA : Option Addr) (pn pc : Nat) (put : Int) : Array Value :=
  #[.int .i64 win, .int .i64 mn, .int .i64 mx, .int .i64 ch, .bool lz, .slice A n c, .map (some mb), .slice PA pn pc, .int .i64 put]

theorem lenFrom_stop (bs : List Int) (f i : Nat) (mx : Int) (m k : Nat) (h : ¬ ((k : Int) < mx ∧ i + k < bs.length ∧ bs.getD (f + k) 0 = bs.getD (i + k) 0)) : lenFrom bs f i mx m k = k := by
  cases m with
  | zero => rfl
  | succ m => rw [lenFrom, if_neg h]

theorem lenFrom_go (bs : List Int) (f i : Nat) (mx : Int) (n k : Nat) (hl : bs.length = n) (h : i + k < n) (h1 : (k : Int) < mx) (hq : (bs[f + k]?.getD 0 == bs[i + k]?.getD 0) = true) :
    lenFrom bs f i mx (n - k) k = lenFrom bs f i mx (n - (k + 1)) (k + 1) := by
  obtain ⟨m, hm⟩ : ∃ m, n - k = m + 1 := ⟨n - k - 1, by omega⟩
  rw [hm, show n - (k + 1) = m by omega, lenFrom, if_pos ⟨h1, by omega, by simpa using hq⟩]

set_option maxHeartbeats 1000000 in
theorem length_any (w : World) (fb : Nat) (win mn mx ch : Int) (lz : Bool) (A : Option Addr) (n c mb : Nat) (PA : Option Addr) (pn pc : Nat) (put : Int) (bs : List Int) (B : Nat) (f i : Nat)
    (hF : Blk w fb 52 (FCells win mn mx ch lz A n c mb PA pn pc put)) (hb : RN .u8 w B A n bs) (hn : n ≤ 140737488351232) (hfi : f < i) (hi : i ≤ n) :
    Calls Try.prog 31 #[.pointer (some ⟨fb, 0, none⟩), .int .i64 f, .int .i64 i] w fun e w' => e = .returned (.int .i64 (same bs f i mx)) ∧ Drawn w w' := by
  have hl := hb.len
  have c2 : w.cell? ⟨fb, 2, none⟩ = some (.int .i64 mx) := hF.cell 2
  have c5 : w.cell? ⟨fb, 5, none⟩ = some (.slice A n c) := hF.cell 5
  clear hF
  go_enter Try.func31, Try.ntmps31
  go_wp2
  go_loopw [7] (fun x wr => ∃ k : Nat, k ≤ n ∧ x = .int .i64 k ∧ Drawn w wr ∧ lenFrom bs f i mx (n - k) k = same bs f i mx) (fun x _ => n - (intOf x).toNat)
  case atStart => exact ⟨0, by omega, rfl, Drawn.refl _, by rw [Nat.sub_zero, ← hl]; rfl⟩
  case round =>
    obtain ⟨k, hk, rfl, hd, hs⟩ := hrel
    have d2 := (hd.cell ⟨fb, 2, none⟩).trans c2
    have d5 := (hd.cell ⟨fb, 5, none⟩).trans c5
    have HS := hide hs
    clear hs c2 c5
    by_cases h1 : (k : Int) < mx
    · by_cases h2 : (i : Int) + k < n
      · obtain ⟨ad, rfl, _, hc⟩ := hb.ad (by omega)
        have e1 : wr.cell? (ad.add (f + k)) = some (.int .u8 (bs.getD (f + k) 0)) := (hd.cell _).trans (hc _ (by omega))
        have e2 : wr.cell? (ad.add (i + k)) = some (.int .u8 (bs.getD (i + k) 0)) := (hd.cell _).trans (hc _ (by omega))
        clear hc
        go_wp2_with fail
        go_quiet (fail)
        go_wp2
        · have hq : (bs[f + k]?.getD 0 == bs[i + k]?.getD 0) = true := by assumption
          refine ⟨⟨k + 1, by omega, by go_num, hd.step _, ?_⟩, by simp [intOf]; omega⟩
          rw [← HS]; exact (lenFrom_go bs f i mx n k hl (by omega) h1 hq).symm
        · have hq : (bs[f + k]?.getD 0 == bs[i + k]?.getD 0) = false := by assumption
          have hst := lenFrom_stop bs f i mx (n - k) k (by intro h; simp at hq h; exact hq h.2.2)
          go_ret
          exact ⟨by rw [← HS, hst]; rfl, hd.step _⟩
      · have hx : decide ((i : Int) + k < n) = false := by simp; omega
        have hst := hide (lenFrom_stop bs f i mx (n - k) k (by intro h; omega))
        go_wp2_with fail
        go_quiet (fail)
        go_wp2
        go_ret
        exact ⟨by rw [← HS, hst]; rfl, hd.step _⟩
    · have hx : decide ((k : Int) < mx) = false := by simp; omega
      have hst := hide (lenFrom_stop bs f i mx (n - k) k (by intro h; omega))
      go_wp2_with fail
      go_quiet (fail)
      go_wp2
      go_ret
      exact ⟨by rw [← HS, hst]; rfl, hd.step _⟩
end Go.Proofs.Ytamhlammhhlibaa
