/- token.Size and token.Fits, walked. -/
import Derived.Test.YtamhlammhhlibaaToken
namespace Go.Proofs.Ytamhlammhhlibaa
open Go.RowKit
attribute [local go_sem ↓] Go.wp_at_zero Go.wp_at_succ

def tokN (t : Tok) : Int := if t.len = 0 then 1 else t.len
def sizeT : List Tok → Int
  | [] => 0
  | t :: l => tokN t + sizeT l
theorem sizeT_pos (l : List Tok) (h : ∀ t ∈ l, 0 ≤ t.len) : 0 ≤ sizeT l := by
  induction l with
  | nil => simp [sizeT]
  | cons t l ih =>
    have h1 := h t (by simp)
    have h2 := ih (fun u hu => h u (by simp [hu]))
    rw [sizeT]
    have : 0 ≤ tokN t := by unfold tokN; split <;> omega
    omega

set_option maxHeartbeats 4000000 in
theorem size_ok (w : World) (A : Option Addr) (n c : Nat) (l : List Tok) (hl : l.length = n) (hx : Reads w w.heap.size 3 A n (tokCs l)) (hp : ∀ t ∈ l, 0 ≤ t.len) (hs : sizeT l ≤ 1099511627776) (hn : n ≤ 1099511627776) :
    Calls Try.prog 20 #[.slice A n c] w fun e w' => e = .returned (.int .i64 (sizeT l)) ∧ Below w.heap.size w w' := by
  have Hp := hide hp
  have Hl := hide hl
  clear hp hl
  go_enter Try.func20, Try.ntmps20
  go_wp2_with fail
  go_loopw [3, 9] (fun v3 v9 wr => ∃ (k s : Nat), v9 = .int .i64 k ∧ v3 = .int .i64 s ∧ k ≤ n ∧ Hid ((s : Int) + sizeT (l.drop k) = sizeT l) ∧ Below w.heap.size w wr) (fun _ v9 _ => n - (intOf v9).toNat)
  case atStart => exact ⟨0, 0, rfl, rfl, by omega, hide (by simp), Below.refl _ _⟩
  case round =>
    obtain ⟨k, s, rfl, rfl, hk, hT, hbr⟩ := hrel
    by_cases hlt : k < n
    · have q1 : (k : Int) < n := by omega
      obtain ⟨b3, o3, rfl, _, h3⟩ := hx.plain (by omega) (by omega)
      obtain ⟨t0, t1, t2⟩ := tokCs_get l k (by rw [Hl.out]; exact hlt)
      have e0 := (hbr.cell (p := ⟨b3, o3 + k * 3, none⟩) (by assumption)).trans (h3 _ _ t0)
      have e1 := (hbr.cell (p := ⟨b3, o3 + (k * 3 + 1), none⟩) (by assumption)).trans (h3 _ _ t1)
      have e2 := (hbr.cell (p := ⟨b3, o3 + (k * 3 + 2), none⟩) (by assumption)).trans (h3 _ _ t2)
      rw [← Nat.add_assoc] at e1 e2
      have hd : l.drop k = l[k]'(by rw [Hl.out]; exact hlt) :: l.drop (k + 1) := List.drop_eq_getElem_cons _
      have hm := Hp.out (l[k]'(by rw [Hl.out]; exact hlt)) (List.getElem_mem _)
      have hTo := hT.out
      have hpos := sizeT_pos (l.drop (k + 1)) (fun t ht => Hp.out t (List.mem_of_mem_drop ht))
      rw [hd, sizeT] at hTo
      generalize l[k]'(by rw [Hl.out]; exact hlt) = t at e0 e1 e2 hTo hm
      clear t0 t1 t2 h3 hd hT
      generalize hR : sizeT (l.drop (k + 1)) = R at hTo hpos
      obtain ⟨m, hm2⟩ : ∃ m : Nat, t.len = m := ⟨t.len.toNat, by omega⟩
      unfold tokN at hTo
      rw [hm2] at e2 hTo
      clear hm hm2
      by_cases hz : m = 0
      · rw [if_pos (by omega)] at hTo
        subst hz
        go_wp2_with fail
        exact ⟨⟨k + 1, s + 1, by go_num, by go_num, by omega, hide (by rw [hR]; omega), hbr.alloc hbr.size _⟩, by simp [intOf]; omega⟩
      · rw [if_neg (by omega)] at hTo
        have q2 : ((m : Int) == 0) = false := by simpa using hz
        go_wp2_with fail
        exact ⟨⟨k + 1, s + m, by go_num, by simp, by omega, hide (by rw [hR]; omega), hbr.alloc hbr.size _⟩, by simp [intOf]; omega⟩
    · obtain rfl : k = n := by omega
      have hfin : (s : Int) = sizeT l := by
        have h := hT.out
        rw [List.drop_eq_nil_of_le (by rw [Hl.out]; exact Nat.le_refl _)] at h
        simpa [sizeT] using h
      go_wp2_with fail
      go_ret
      refine ⟨?_, hbr⟩
      show Ending.returned (Value.int .i64 (s : Int)) = _
      rw [hfin]
set_option maxHeartbeats 4000000 in
/-- Fits's function, at a token that is of the shape. -/
theorem fitF (w : World) (g : Nat) (win mn mx ch : Int) (lz : Bool) (t : Tok) (hV : Blk w g 24 #[.int .i64 win, .int .i64 mn, .int .i64 mx, .int .i64 ch, .bool lz]) (ht : (t.len = 0 ∧ t.dist = 0) ∨ (t.len ≠ 0 ∧ mn ≤ t.len ∧ t.len ≤ mx ∧ 1 ≤ t.dist ∧ t.dist ≤ win)) :
    Calls Try.prog 28 #[.agg #[.int .u8 t.lit, .int .i64 t.dist, .int .i64 t.len], .pointer (some ⟨g, 0, none⟩)] w fun e w' => e = .returned (.bool false) ∧ Below w.heap.size w w' := by
  have c0 : w.cell? ⟨g, 0, none⟩ = some (.int .i64 win) := hV.cell 0
  have c1 : w.cell? ⟨g, 1, none⟩ = some (.int .i64 mn) := hV.cell 1
  have c2 : w.cell? ⟨g, 2, none⟩ = some (.int .i64 mx) := hV.cell 2
  have hlt := hV.lt
  clear hV
  rcases ht with ⟨h1, h2⟩ | ⟨h1, h2, h3, h4, h5⟩
  · go_enter Try.func28, Try.ntmps28
    rw [h1, h2]
    go_wp2_with fail
    go_ret
    exact ⟨rfl, (Below.refl _ _).alloc (Nat.le_refl _) _⟩
  · have q1 : (t.len == 0) = false := by simpa using h1
    have q2 : decide (t.len < mn) = false := by simp; omega
    have q3 : decide (mx < t.len) = false := by simp; omega
    have q4 : decide (t.dist < 1) = false := by simp; omega
    have q5 : decide (win < t.dist) = false := by simp; omega
    clear h1 h2 h3 h4 h5
    go_enter Try.func28, Try.ntmps28
    go_wp2_with fail
    go_ret
    exact ⟨rfl, (Below.refl _ _).alloc (Nat.le_refl _) _⟩
set_option maxHeartbeats 4000000 in
theorem indexF (w : World) (A : Option Addr) (n c g : Nat) (win mn mx ch : Int) (lz : Bool) (l : List Tok) (hl : l.length = n) (hV : Blk w g 24 #[.int .i64 win, .int .i64 mn, .int .i64 mx, .int .i64 ch, .bool lz]) (hx : Reads w w.heap.size 3 A n (tokCs l)) (hp : ∀ t ∈ l, (t.len = 0 ∧ t.dist = 0) ∨ (t.len ≠ 0 ∧ mn ≤ t.len ∧ t.len ≤ mx ∧ 1 ≤ t.dist ∧ t.dist ≤ win)) (hn : n ≤ 1099511627776) :
    Calls Try.prog 35 #[.slice A n c, .func (.func 28) #[] #[.pointer (some ⟨g, 0, none⟩)]] w fun e w' => e = .returned (.int .i64 (-1)) ∧ Below w.heap.size w w' := by
  have Hp := hide hp
  have Hl := hide hl
  clear hp hl
  go_enter Try.func35, Try.ntmps35
  go_wp2_with fail
  go_loopw [8] (fun v8 wr => ∃ (k : Nat), v8 = .int .i64 k ∧ k ≤ n ∧ Below w.heap.size w wr) (fun v8 _ => n - (intOf v8).toNat)
  case atStart => exact ⟨0, rfl, by omega, Below.refl _ _⟩
  case round =>
    obtain ⟨k, rfl, hk, hbr⟩ := hrel
    by_cases hlt : k < n
    · have q1 : (k : Int) < n := by omega
      obtain ⟨b3, o3, rfl, _, h3⟩ := hx.plain (by omega) (by omega)
      obtain ⟨t0, t1, t2⟩ := tokCs_get l k (by rw [Hl.out]; exact hlt)
      have e0 := (hbr.cell (p := ⟨b3, o3 + k * 3, none⟩) (by assumption)).trans (h3 _ _ t0)
      have e1 := (hbr.cell (p := ⟨b3, o3 + (k * 3 + 1), none⟩) (by assumption)).trans (h3 _ _ t1)
      have e2 := (hbr.cell (p := ⟨b3, o3 + (k * 3 + 2), none⟩) (by assumption)).trans (h3 _ _ t2)
      rw [← Nat.add_assoc] at e1 e2
      have hm := Hp.out (l[k]'(by rw [Hl.out]; exact hlt)) (List.getElem_mem _)
      generalize l[k]'(by rw [Hl.out]; exact hlt) = t at e0 e1 e2 hm
      replace hm := hide hm
      clear t0 t1 t2 h3
      go_wp2_with fail
      refine (fitF _ g win mn mx ch lz t (hV.below hbr hV.lt) hm.out).mono ?_
      rintro e w2 ⟨rfl, hb2⟩
      go_wp2_with fail
      exact ⟨⟨k + 1, by go_num, by omega, hbr.trans (hb2.mono hbr.size)⟩, by simp [intOf]; omega⟩
    · obtain rfl : k = n := by omega
      go_wp2_with fail
      go_ret
      exact ⟨rfl, hbr⟩
theorem containsF (w : World) (A : Option Addr) (n c g : Nat) (win mn mx ch : Int) (lz : Bool) (l : List Tok) (hl : l.length = n) (hV : Blk w g 24 #[.int .i64 win, .int .i64 mn, .int .i64 mx, .int .i64 ch, .bool lz]) (hx : Reads w w.heap.size 3 A n (tokCs l)) (hp : ∀ t ∈ l, (t.len = 0 ∧ t.dist = 0) ∨ (t.len ≠ 0 ∧ mn ≤ t.len ∧ t.len ≤ mx ∧ 1 ≤ t.dist ∧ t.dist ≤ win)) (hn : n ≤ 1099511627776) :
    Calls Try.prog 27 #[.slice A n c, .func (.func 28) #[] #[.pointer (some ⟨g, 0, none⟩)]] w fun e w' => e = .returned (.bool false) ∧ Below w.heap.size w w' := by
  have Hp := hide hp
  have Hl := hide hl
  clear hp hl
  go_enter Try.func27, Try.ntmps27
  go_wp2_with fail
  refine (indexF w A n c g win mn mx ch lz l Hl.out hV hx Hp.out hn).mono ?_
  rintro e w2 ⟨rfl, hb2⟩
  go_wp2_with fail
  go_ret
  exact ⟨rfl, hb2⟩
set_option maxHeartbeats 4000000 in
theorem fits_ok (w : World) (A : Option Addr) (n c : Nat) (win mn mx ch : Int) (lz : Bool) (l : List Tok) (hl : l.length = n) (hx : Reads w w.heap.size 3 A n (tokCs l)) (hp : ∀ t ∈ l, (t.len = 0 ∧ t.dist = 0) ∨ (t.len ≠ 0 ∧ mn ≤ t.len ∧ t.len ≤ mx ∧ 1 ≤ t.dist ∧ t.dist ≤ win)) (hn : n ≤ 1099511627776) :
    Calls Try.prog 19 #[.slice A n c, .agg #[.int .i64 win, .int .i64 mn, .int .i64 mx, .int .i64 ch, .bool lz]] w fun e w' => e = .returned (.bool true) ∧ Below w.heap.size w w' := by
  have Hp := hide hp
  have Hl := hide hl
  clear hp hl
  have hV := Blk.new w 24 #[.int .i64 win, .int .i64 mn, .int .i64 mx, .int .i64 ch, .bool lz]
  go_enter Try.func19, Try.ntmps19
  go_wp2_with fail
  refine (containsF _ A n c w.heap.size win mn mx ch lz l Hl.out hV ((hx.alloc (Nat.le_refl _) _).more (by simp)) Hp.out hn).mono ?_
  rintro e w2 ⟨rfl, hb2⟩
  go_wp2_with fail
  go_ret
  exact ⟨rfl, ((Below.refl _ _).alloc (Nat.le_refl _) _).trans (hb2.mono (by simp))⟩
end Go.Proofs.Ytamhlammhhlibaa
