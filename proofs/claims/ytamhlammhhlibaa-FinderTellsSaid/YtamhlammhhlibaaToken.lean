/- token.Expand and token.Size, walked. -/
import Derived.Test.YtamhlammhhlibaaHist3
import Derived.Test.YtamhlammhhlibaaLives9
namespace Go.Proofs.Ytamhlammhhlibaa
open Go.RowKit
attribute [local go_sem ↓] Go.wp_at_zero Go.wp_at_succ

/-- What tokens tell, behind what was told. -/
def tellT : List Tok → List Int → List Int
  | [], bs => bs
  | t :: l, bs => tellT l (if t.len = 0 then bs ++ [t.lit] else tells t.len.toNat t.dist.toNat bs)
/-- Each token may come. -/
def GoodT (win : Int) (most : Nat) : List Tok → List Int → Prop
  | [], _ => True
  | t :: l, bs => (if t.len = 0 then bs.length < most else 1 ≤ t.len ∧ 1 ≤ t.dist ∧ t.dist ≤ win ∧ t.dist ≤ bs.length ∧ bs.length + t.len ≤ most) ∧ GoodT win most l (if t.len = 0 then bs ++ [t.lit] else tells t.len.toNat t.dist.toNat bs)

theorem own_mono {w : World} {base base' n : Nat} {e : TypeId} {size : Nat} {v : Value} {xs : List Value} (h : w.ownsRow base e size v n xs) (hb : base' ≤ base) : w.ownsRow base' e size v n xs := by
  rcases h with ⟨h0, h1 | ⟨g, cap, cur, hv, hg, hh⟩⟩
  · exact ⟨h0, .inl h1⟩
  · exact ⟨h0, .inr ⟨g, cap, cur, hv, Nat.le_trans hb hg, hh⟩⟩

set_option maxHeartbeats 4000000 in
theorem expand_ok (w : World) (A : Option Addr) (n c : Nat) (win : Int) (most : Nat) (nz : Bool) (l : List Tok) (hl : l.length = n) (hx : Reads w w.heap.size 3 A n (tokCs l)) (h1 : 1 ≤ win) (h2 : win ≤ 65536) (hm : most ≤ 1099511627776) (hn : n ≤ 1099511627776) (hG : GoodT win most l []) :
    Calls Try.prog 18 #[.slice A n c, .int .i64 win, .int .i64 most, .bool nz] w fun e w' => ∃ v, e = .returned (.tuple #[v, .int .i64 0]) ∧ Below w.heap.size w w' ∧ w'.ownsRow w.heap.size 5 1 v (tellT l []).length (nums .u8 (tellT l [])) := by
  have HG := hide hG
  have Hl := hide hl
  clear hG hl
  go_enter Try.func18, Try.ntmps18
  go_wp2_with fail
  refine (hist_new w win most nz h1 h2 (by omega)).mono ?_
  rintro e w1 ⟨g, v, rfl, hb1, hH⟩
  go_wp2_with fail
  go_loopw [26] (fun v26 wr => ∃ (k : Nat) (v : Value) (bs : List Int), v26 = .int .i64 k ∧ k ≤ n ∧ Hid (GoodT win most (l.drop k) bs ∧ tellT (l.drop k) bs = tellT l []) ∧ bs.length ≤ most ∧ Below w.heap.size w wr ∧ HO wr w.heap.size g win most nz v bs) (fun v26 _ => n - (intOf v26).toNat)
  case atStart => exact ⟨0, v, [], rfl, by omega, hide ⟨HG.out, rfl⟩, by simp, hb1, hH⟩
  case round =>
    obtain ⟨k, v, bs, rfl, hk, hT, hbl, hbr, hr⟩ := hrel
    clear hb1 hH
    by_cases hlt : k < n
    · have q1 : (k : Int) < n := by omega
      obtain ⟨b3, o3, rfl, _, h3⟩ := hx.plain (by omega) (by omega)
      obtain ⟨t0, t1, t2⟩ := tokCs_get l k (by rw [Hl.out]; exact hlt)
      have e0 := (hbr.cell (p := ⟨b3, o3 + k * 3, none⟩) (by assumption)).trans (h3 _ _ t0)
      have e1 := (hbr.cell (p := ⟨b3, o3 + (k * 3 + 1), none⟩) (by assumption)).trans (h3 _ _ t1)
      have e2 := (hbr.cell (p := ⟨b3, o3 + (k * 3 + 2), none⟩) (by assumption)).trans (h3 _ _ t2)
      rw [← Nat.add_assoc] at e1 e2
      have hd : l.drop k = l[k]'(by rw [Hl.out]; exact hlt) :: l.drop (k + 1) := List.drop_eq_getElem_cons _
      rw [hd] at hT
      generalize l[k]'(by rw [Hl.out]; exact hlt) = t at e0 e1 e2 hT
      clear t0 t1 t2 h3 hd
      obtain ⟨⟨hg1, hg2⟩, htl⟩ := hT.out
      rw [tellT] at htl
      clear hT
      by_cases hz : t.len = 0
      · rw [if_pos hz] at hg1 hg2 htl
        have hT2 := hide (And.intro hg2 htl)
        clear hg2 htl
        have q2 : (t.len == 0) = true := by simpa using hz
        go_wp2_with fail
        refine (hist_lit _ _ g win most nz v bs t.lit (hr.keep ((Below.refl _ _).alloc (Nat.le_refl _) _)) (by omega) (by omega)).mono ?_
        rintro e w2 ⟨rfl, hb2, v2, hH2⟩
        go_wp2_with fail
        refine ⟨⟨k + 1, v2, bs ++ [t.lit], by go_num, by omega, hT2, by simp; omega, (hbr.alloc hbr.size _).trans hb2, hH2⟩, by simp [intOf]; omega⟩
      · rw [if_neg hz] at hg1 hg2 htl
        have hT2 := hide (And.intro hg2 htl)
        clear hg2 htl
        have q2 : (t.len == 0) = false := by simpa using hz
        obtain ⟨g1, g2, g3, g4, g5⟩ := hg1
        obtain ⟨d, hd⟩ : ∃ d : Nat, t.dist = d := ⟨t.dist.toNat, by omega⟩
        obtain ⟨m, hm2⟩ : ∃ m : Nat, t.len = m := ⟨t.len.toNat, by omega⟩
        rw [hd, hm2, Int.toNat_natCast, Int.toNat_natCast] at hT2
        rw [hd] at e1 g2 g3 g4
        rw [hm2] at e2 g1 g5 q2
        clear hz
        go_wp2_with fail
        refine (hist_copy _ _ g win most nz v bs d m (hr.keep ((Below.refl _ _).alloc (Nat.le_refl _) _)) (by omega) (by omega) (by omega) (by omega) (by omega) (by omega)).mono ?_
        rintro e w2 ⟨rfl, hb2, v2, hH2⟩
        go_wp2_with fail
        refine ⟨⟨k + 1, v2, tells m d bs, by go_num, by omega, hT2, by rw [tells_len]; omega, (hbr.alloc hbr.size _).trans hb2, hH2⟩, by simp [intOf]; omega⟩
    · obtain rfl : k = n := by omega
      have hfin : bs = tellT l [] := by
        have h := hT.out.2
        rwa [List.drop_eq_nil_of_le (by rw [Hl.out]; exact Nat.le_refl _)] at h
      subst hfin
      go_wp2_with fail
      refine (hist_bytes wr _ g win most nz v _ hr).mono ?_
      rintro e w2 ⟨v2, rfl, hb2, hown2⟩
      go_wp2_with fail
      go_ret2
      exact ⟨_, rfl, hbr.trans (hb2.mono hbr.size), own_mono hown2 hbr.size⟩
end Go.Proofs.Ytamhlammhhlibaa
