/- The plain machine: what its steps do to blocks that are known, and rows that grow. No condition. -/
import Derived.Test.YtephmpbccajaaaaGxV
namespace Go.Proofs.Ytephmpbccajaaaa.Gx
open Go
set_option linter.unusedVariables false
theorem look_push_old {h : GH} {o : GObj} {k : Nat} (hk : k < h.next) : (h.push o).look k = h.look k := by
  have h1 : Nat.beq k h.next = false := by cases hb : Nat.beq k h.next with | false => rfl | true => have := Nat.eq_of_beq_eq_true hb; omega
  rw [look_of (show k < (h.push o).next by simp [GH.push]; omega), look_of hk]
  simp [GH.push, h1]
theorem look_push_new {h : GH} {o : GObj} : (h.push o).look h.next = some o := by
  rw [look_of (show h.next < (h.push o).next by simp [GH.push])]
  simp [GH.push]
theorem look_lt {h : GH} {g : Nat} {o : GObj} (hl : h.look g = some o) : g < h.next := (look_get hl).1
theorem look_put_ne {h : GH} {o : Option GObj} {k g : Nat} (hk : k ≠ g) : (h.put g o).look k = h.look k := by
  have h1 : Nat.beq k g = false := by cases hb : Nat.beq k g with | false => rfl | true => exact absurd (Nat.eq_of_beq_eq_true hb) hk
  simp [GH.look, GH.put, h1]
theorem look_put_same {h : GH} {o : Option GObj} {g : Nat} (hg : g < h.next) : (h.put g o).look g = o := by
  rw [look_of (show g < (h.put g o).next from hg)]
  simp [GH.put]
theorem next_put {h : GH} {o : Option GObj} {g : Nat} : (h.put g o).next = h.next := rfl
theorem next_push {h : GH} {o : GObj} : (h.push o).next = h.next + 1 := rfl
theorem cell_of {h : GH} {g : Nat} {cs : List Value} {e : Nat} {r : Bool} (hl : h.look g = some (.row ⟨cs, e, r⟩)) (o : Nat) : h.cell ⟨g, o, none⟩ = nth cs o := by
  simp [GH.cell, hl, rowCell]
theorem same1 {g o : Nat} {h h' : GH} {v : Value} (h1 : h.cell ⟨g, o, none⟩ = some v) (h2 : h'.cell ⟨g, o, none⟩ = some v) (hv : veq v v = true) : sameAt g o 1 h h' = true := by
  simp [sameAt, h1, h2, veqO, hv]
theorem gput_eq {β : Type} {h : GH} {g o : Nat} {cs vs : List Value} {e : Nat} (hl : h.look g = some (.row ⟨cs, e, false⟩)) (ha : allCells vs = true) (hle : o + vs.length ≤ cs.length) (K : GH → Option β) :
    gput g o vs h K = K (h.put g (some (.row ⟨nlay cs o vs, e, false⟩))) := by
  have : Nat.ble (o + vs.length) cs.length = true := Nat.ble_eq_true_of_le hle
  simp [gput, hl, ha, this]
theorem gnew_eq {β : Type} {h : GH} {cs : List Value} {e : Nat} (ha : allCells cs = true) (K : Nat → GH → Option β) : gnew cs e h K = K h.next (h.push (.row ⟨cs, e, false⟩)) := by
  simp [gnew, ha]
theorem slCells_row {β : Type} {h : GH} {s : Sl} {g o : Nat} {cs : List Value} {e : Nat} {r : Bool} (ha : s.a = some ⟨g, o, none⟩) (hl : h.look g = some (.row ⟨cs, e, r⟩)) (hle : o + s.n ≤ cs.length) (K : List Value → Option β) :
    slCells s 1 h K = K ((cs.drop o).take s.n) := by
  have : Nat.ble (o + s.n) cs.length = true := Nat.ble_eq_true_of_le hle
  simp [slCells, ha, exA, hl, rowCells, nsub, this, ntake_eq, ndrop_eq]

/-! ### steps, as equations whose proof is no 'rfl' (so the kernel never compares what they stand in) -/
section
variable {α β : Type}
theorem condT (a b : α) : (bif true then a else b) = a := by simp
theorem condF (a b : α) : (bif false then a else b) = b := by simp
theorem notT : (!true) = false := by simp
theorem notF : (!false) = true := by simp
theorem exA_s (g o : Nat) (K : Nat → Nat → Option β) : exA (some ⟨g, o, none⟩) K = K g o := by simp [exA]
theorem exI_s (k : IntKind) (n : Int) (K : Int → Option β) : exI k (some (.int k n)) K = K n := by simp [exI]
theorem exB_s (b : Bool) (K : Bool → Option β) : exB (some (.bool b)) K = K b := by simp [exB]
theorem exP_s (a : Option Addr) (K : Option Addr → Option β) : exP (some (.pointer a)) K = K a := by simp [exP]
theorem exS_s (s : Sl) (K : Sl → Option β) : exS (some (.slice s.a s.n s.c)) K = K s := by simp [exS]
theorem isNone_s (a : α) : Option.isNone (some a) = false := by simp
end
/-! ### what is kept -/
def Keep (h h' : GH) (own : List Nat) : Prop := h.next ≤ h'.next ∧ ∀ k, k < h.next → k ∉ own → h'.look k = h.look k
theorem Keep.refl (h : GH) (own : List Nat) : Keep h h own := ⟨Nat.le_refl _, fun _ _ _ => rfl⟩
theorem Keep.trans {h h1 h2 : GH} {o o1 : List Nat} (a : Keep h h1 o) (b : Keep h1 h2 o1) (hs : ∀ k ∈ o1, k ∈ o ∨ h.next ≤ k) : Keep h h2 o :=
  ⟨Nat.le_trans a.1 b.1, fun k hk ho => by rw [b.2 k (Nat.lt_of_lt_of_le hk a.1) (fun hm => (hs k hm).elim ho (fun h => by omega)), a.2 k hk ho]⟩
theorem Keep.mono {h h' : GH} {o o1 : List Nat} (a : Keep h h' o) (hs : ∀ k ∈ o, k ∈ o1) : Keep h h' o1 := ⟨a.1, fun k hk ho => a.2 k hk fun hm => ho (hs k hm)⟩
theorem Keep.look {h h' : GH} {own : List Nat} (k : Keep h h' own) {g : Nat} {o : GObj} (hl : h.look g = some o) (hg : g ∉ own) : h'.look g = some o := by rw [k.2 g (look_lt hl) hg, hl]
theorem keep_put (h : GH) (g : Nat) (o : Option GObj) : Keep h (h.put g o) [g] := ⟨Nat.le_refl _, fun k hk ho => look_put_ne (by simpa using ho)⟩
theorem keep_push (h : GH) (o : GObj) (own : List Nat) : Keep h (h.push o) own := ⟨by simp [GH.push], fun k hk _ => look_push_old hk⟩

/-! ### rows of bytes that grow -/
def u8s (bs : List Int) : List Value := bs.map (Value.int .u8)
theorem u8s_length (bs : List Int) : (u8s bs).length = bs.length := by simp [u8s]
theorem allCells_u8s : ∀ bs : List Int, allCells (u8s bs) = true
  | [] => rfl
  | b :: r => by show (isCell (.int .u8 b) && allCells (u8s r)) = true; rw [allCells_u8s r]; rfl
theorem allCells_app : ∀ a b : List Value, allCells (a ++ b) = (allCells a && allCells b)
  | [], b => by simp [allCells]
  | x :: a, b => by simp [allCells, allCells_app a b, Bool.and_assoc]
theorem nth_u8s (bs : List Int) (i : Nat) : nth (u8s bs) i = (bs[i]?).map (Value.int .u8) := by rw [nth_eq]; simp [u8s]
def rowsOf (s : Sl) : List Nat := match s.a with | some a => [a.block] | none => []
structure Buf (h : GH) (s : Sl) (bs : List Int) : Prop where
  n : s.n = bs.length
  c : s.c = bs.length
  at_ : (s.a = none ∧ bs = []) ∨ ∃ r, s.a = some ⟨r, 0, none⟩ ∧ h.look r = some (.row ⟨u8s bs, 1, false⟩)
theorem Buf.lt {h : GH} {s : Sl} {bs : List Int} (b : Buf h s bs) : ∀ k ∈ rowsOf s, k < h.next := fun k hk => by
  rcases b.at_ with ⟨h1, _⟩ | ⟨r, h1, h2⟩
  · simp [rowsOf, h1] at hk
  · simp [rowsOf, h1] at hk; subst hk; exact look_lt h2
theorem Buf.keep {h h' : GH} {s : Sl} {bs : List Int} {own : List Nat} (b : Buf h s bs) (k : Keep h h' own) (hd : ∀ x ∈ rowsOf s, x ∉ own) : Buf h' s bs := by
  refine ⟨b.n, b.c, ?_⟩
  rcases b.at_ with h1 | ⟨r, h1, h2⟩
  · exact .inl h1
  · exact .inr ⟨r, h1, k.look h2 (hd r (by simp [rowsOf, h1]))⟩
theorem Buf.cells {β : Type} {h : GH} {s : Sl} {bs : List Int} (b : Buf h s bs) (K : List Value → Option β) : slCells s 1 h K = K (u8s bs) := by
  rcases b.at_ with ⟨h1, h2⟩ | ⟨r, h1, h2⟩
  · subst h2; simp [slCells, h1, b.n, u8s]
  · rw [slCells_row h1 h2 (by rw [b.n, u8s_length]; omega), b.n]
    simp [u8s, List.take_of_length_le]
theorem gapp_buf {h : GH} {s : Sl} {bs : List Int} (b : Buf h s bs) (ns : List Int) (hm : (bs.length + ns.length) * 2 ≤ most) :
    ∃ h' s', (∀ (β : Type) (K : Sl → GH → Option β), gapp 1 1 s (u8s ns) ns.length h K = K s' h') ∧ Buf h' s' (bs ++ ns) ∧ Keep h h' (rowsOf s) ∧ ∀ k ∈ rowsOf s', k ∈ rowsOf s ∨ h.next ≤ k := by
  cases ns with
  | nil => exact ⟨h, s, fun β K => by
    have hb : Nat.ble (s.n + 0) s.c = true := Nat.ble_eq_true_of_le (by rw [b.n, b.c]; omega)
    show (bif Nat.ble (s.n + 0) s.c then (bif Nat.beq 0 0 then K s h else _) else _) = _
    rw [hb]; rfl, by simpa using b, .refl _ _, fun k hk => .inl hk⟩
  | cons x ns =>
    have hne : Nat.ble (s.n + (x :: ns).length) s.c = false := by
      cases hb : Nat.ble (s.n + (x :: ns).length) s.c with
      | false => rfl
      | true => have := Nat.le_of_ble_eq_true hb; rw [b.n, b.c] at this; simp at this; omega
    have hmm : Nat.ble ((s.n + (x :: ns).length) * (1 + 1)) most = true := Nat.ble_eq_true_of_le (by rw [b.n]; exact hm)
    have hall : allCells (u8s bs ++ u8s (x :: ns)) = true := by rw [allCells_app, allCells_u8s, allCells_u8s]; rfl
    have hu : u8s bs ++ u8s (x :: ns) = u8s (bs ++ x :: ns) := by simp [u8s]
    rcases b.at_ with ⟨h1, h2⟩ | ⟨r, h1, h2⟩
    · subst h2
      refine ⟨h.push (.row ⟨u8s ([] ++ x :: ns), 1, false⟩), ⟨some ⟨h.next, 0, none⟩, s.n + (x :: ns).length, s.n + (x :: ns).length⟩, fun β K => ?_, ⟨by simp [b.n], by simp [b.n], .inr ⟨_, rfl, look_push_new⟩⟩, keep_push _ _ _, fun k hk => .inr (by simp [rowsOf] at hk; omega)⟩
      have hc : Nat.beq s.c 0 = true := by rw [b.c]; rfl
      rw [gapp, hne, hmm]
      simp only [cond_false, cond_true]
      rw [b.cells, hu]
      rw [hu] at hall
      simp only [h1, hc, cond_true]
      rw [gnew_eq hall]
    · refine ⟨(h.put r none).push (.row ⟨u8s (bs ++ x :: ns), 1, false⟩), ⟨some ⟨h.next, 0, none⟩, s.n + (x :: ns).length, s.n + (x :: ns).length⟩, fun β K => ?_, ⟨by simp [b.n], by simp [b.n], .inr ⟨_, rfl, look_push_new⟩⟩, ?_, fun k hk => .inr (by simp [rowsOf] at hk; omega)⟩
      · rw [gapp, hne, hmm]
        simp only [cond_false, cond_true]
        rw [b.cells, hu]
        rw [hu] at hall
        have e10 : Nat.beq 1 0 = false := rfl
        have e11 : Nat.beq 1 1 = true := rfl
        have e00 : Nat.beq 0 0 = true := rfl
        simp only [h1, exA, h2, e10, e11, e00, Bool.not_true, Bool.and_false, Bool.or_false, cond_false]
        rw [gnew_eq hall]; rfl
      · refine ⟨by simp [next_push, next_put], fun k hk hr => ?_⟩
        rw [look_push_old (show k < (h.put r none).next from hk), look_put_ne]
        simpa [rowsOf, h1] using hr
end Go.Proofs.Ytephmpbccajaaaa.Gx

