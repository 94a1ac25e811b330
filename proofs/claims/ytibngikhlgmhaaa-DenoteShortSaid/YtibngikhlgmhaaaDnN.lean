/- The program's row of fields (field.Row): what each call comes to. No condition. -/
import Derived.Test.YtibngikhlgmhaaaDnE
namespace Go.Proofs.Ytibngikhlgmhaaa.Gx
open Go
set_option linter.unusedVariables false
set_option linter.unusedSimpArgs false
/-- n bytes of a number, the lowest first -/
def numI : Nat → Int → List Int
  | 0, _ => []
  | k + 1, x => x % 256 :: numI k (x / 256)
theorem numI_len : ∀ k x, (numI k x).length = k
  | 0, x => rfl
  | k + 1, x => by rw [numI, List.length_cons, numI_len]
theorem numI_push : ∀ k x, numI (k + 1) x = numI k x ++ [x / 256 ^ k % 256]
  | 0, x => by simp [numI]
  | k + 1, x => by
    have e : (256 : Int) * 256 ^ k = 256 ^ (k + 1) := by rw [Int.pow_succ, Int.mul_comm]
    rw [numI, numI_push k, numI, List.cons_append, Int.ediv_ediv_of_nonneg (by omega), e]
theorem numI_b8 : ∀ k x, B8 (numI k x)
  | 0, x => fun b hb => by simp [numI] at hb
  | k + 1, x => fun b hb => by
    rw [numI] at hb
    rcases List.mem_cons.1 hb with e | e
    · subst e; omega
    · exact numI_b8 k _ b e
theorem numI_le : ∀ {bs : List Int}, B8 bs → numI bs.length (le bs) = bs
  | [], _ => rfl
  | b :: bs, h => by
    have hb := h b (.head _)
    rw [List.length_cons, numI, le, show (b + 256 * le bs) % 256 = b by omega, show (b + 256 * le bs) / 256 = le bs by omega, numI_le fun x hx => h x (.tail _ hx)]
theorem shr_byte (x : Int) {i : Nat} (hi : i ≤ 3) : IntKind.wrap .u8 (shrI .u32 x (IntKind.wrap .i64 (8 * ((i : Nat) : Int)))) = x / 256 ^ i % 256 := by
  have e : IntKind.bits .u8 = 8 := rfl
  have e2 : IntKind.bits .u32 = 32 := rfl
  have ep : (2 : Int) ^ (8 * i) = 256 ^ i := by rw [Int.pow_mul]; rfl
  rw [i64w (by omega), show 8 * ((i : Nat) : Int) = ((8 * i : Nat) : Int) by omega, shrI, Int.toNat_natCast, e2, Nat.min_eq_left (by omega), ep, Int.fdiv_eq_ediv_of_nonneg _ (Int.pow_nonneg (by omega))]
  unfold IntKind.wrap
  simp [IntKind.signed, e]
/-- a row, its bytes in b -/
structure RWb (h0 h : GH) (g : Nat) (own : List Nat) (b : Sl) (ys : List Int) (e : Int) : Prop where
  look : h.look g = some (.row ⟨[.slice b.a b.n b.c, .int .i64 e], 0, false⟩)
  vec : Bv h b ys
  sep : g ∉ rowsOf b
  rows : ∀ k ∈ rowsOf b, k ∈ own ∨ h0.next ≤ k
  gown : g ∈ own ∨ h0.next ≤ g
  keep : Keep h0 h own
theorem RWb.set {h0 h h1 : GH} {g : Nat} {own : List Nat} {b b' : Sl} {ys ys' : List Int} {e : Int} (w : RWb h0 h g own b ys e) (v : Bv h1 b' ys') (k : Keep h h1 (rowsOf b)) (n : ∀ z ∈ rowsOf b', z ∈ rowsOf b ∨ h.next ≤ z) :
    ∃ h', RWb h0 h' g own b' ys' e ∧ ∀ (β : Type) (K : GH → Option β), gput g (0 + 0) [Value.slice b'.a b'.n b'.c] h1 K = K h' := by
  have l1 := k.look w.look w.sep
  have hg := look_lt w.look
  have hk := w.keep.1
  have sep' : g ∉ rowsOf b' := fun hm => by
    rcases n g hm with q | q
    · exact w.sep q
    · omega
  refine ⟨h1.put g (some (.row ⟨[.slice b'.a b'.n b'.c, .int .i64 e], 0, false⟩)), ⟨look_put_same (look_lt l1), v.keep (keep_put h1 g _) (fun x hx hm => sep' (List.mem_singleton.1 hm ▸ hx)), sep', fun z hz => ?_, w.gown, ?_⟩, fun β K => ?_⟩
  · rcases n z hz with q | q
    · exact w.rows z q
    · exact .inr (by omega)
  · exact (w.keep.trans k w.rows).trans (keep_put h1 g _) (fun z hz => by simp at hz; subst hz; exact w.gown)
  · rw [gput_eq l1 rfl (by simp)]; rfl
theorem RWb.setE {h0 h : GH} {g : Nat} {own : List Nat} {b : Sl} {ys : List Int} {e : Int} (w : RWb h0 h g own b ys e) (e' : Int) :
    ∃ h', RWb h0 h' g own b ys e' ∧ ∀ (β : Type) (K : GH → Option β), gput g (0 + 1) [Value.int .i64 e'] h K = K h' := by
  refine ⟨h.put g (some (.row ⟨[.slice b.a b.n b.c, .int .i64 e'], 0, false⟩)), ⟨look_put_same (look_lt w.look), w.vec.keep (keep_put h g _) (fun x hx hm => w.sep (List.mem_singleton.1 hm ▸ hx)), w.sep, w.rows, w.gown, w.keep.trans (keep_put h g _) (fun z hz => by simp at hz; subst hz; exact w.gown)⟩, fun β K => ?_⟩
  rw [gput_eq w.look rfl (by simp)]; rfl
/-- a row: st is what was put, none: a number was too great; m bytes at most -/
def RW (h0 h : GH) (g : Nat) (own : List Nat) (st : Option (List Int)) (m : Nat) : Prop :=
  ∃ b ys, RWb h0 h g own b ys (if st.isSome then 0 else 18) ∧ (∀ xs, st = some xs → xs = ys) ∧ ys.length ≤ m
def u16W (st : Option (List Int)) (x : Int) : Option (List Int) := st.bind fun ys => if 0 ≤ x ∧ x ≤ 65535 then some (ys ++ numI 2 x) else none
theorem u16W_some (ys : List Int) (x : Int) : u16W (some ys) x = if 0 ≤ x ∧ x ≤ 65535 then some (ys ++ numI 2 x) else none := rfl
def u32W (st : Option (List Int)) (x : Int) : Option (List Int) := st.map fun ys => ys ++ numI 4 x
def putW (st : Option (List Int)) (bs : List Int) : Option (List Int) := st.map fun ys => ys ++ bs
section
variable {h0 h : GH} {g : Nat} {own : List Nat} {st : Option (List Int)} {m : Nat}
theorem RW.keep (w : RW h0 h g own st m) : Keep h0 h own := by obtain ⟨b, ys, w, _⟩ := w; exact w.keep
theorem RW.gown (w : RW h0 h g own st m) : g ∈ own ∨ h0.next ≤ g := by obtain ⟨b, ys, w, _⟩ := w; exact w.gown
theorem RW.look (w : RW h0 h g own st m) {z : Nat} {o : GObj} (hl : h0.look z = some o) (hz : z ∉ own) : h.look z = some o := w.keep.look hl hz
theorem RW.rd (w : RW h0 h g own st m) {q : Sl} {xs : List Int} (r : Rd h0 q xs) (hz : ∀ z ∈ rowsOf q, z ∉ own) : Rd h q xs := r.keep w.keep hz
theorem RW.mono (w : RW h0 h g own st m) {m' : Nat} (hm : m ≤ m') : RW h0 h g own st m' := by
  obtain ⟨b, ys, w, e, l⟩ := w
  exact ⟨b, ys, w, e, by omega⟩
theorem RW.err (w : RW h0 h g own st m) (R : Nat) {β : Type} (K : Int → GH → Option β) : F_field_Row_Err R (some ⟨g, 0, none⟩) h K = K (if st.isSome then 0 else 18) h := by
  obtain ⟨b, ys, w, e, l⟩ := w
  unfold F_field_Row_Err
  rw [F_field_Row_Err_gen, isNone_s, condF, exA_s, cell_of w.look]
  rfl
theorem RW.new (h : GH) (R : Nat) : ∃ h' g, RW h h' g [] (some []) 0 ∧ ∀ (β : Type) (K : Option Addr → GH → Option β), F_field_New R h K = K (some ⟨g, 0, none⟩) h' := by
  have k := keep_push h (.row ⟨[.slice none 0 0, .int .i64 0], 0, false⟩) []
  refine ⟨_, h.next, ⟨⟨none, 0, 0⟩, [], ⟨look_push_new, Vec.nil, by simp [rowsOf], by simp [rowsOf], .inr (Nat.le_refl _), k⟩, by simp, by simp⟩, fun β K => ?_⟩
  unfold F_field_New
  rw [F_field_New_gen]
  exact gnew_eq rfl _
theorem rwn_loop (R : Nat) {x : Int} {n : Nat} (hn : n ≤ 4) {ys : List Int} {m : Nat} (hm : m + n ≤ 274877906944) : ∀ (k i f : Nat) (h : GH), i + k = n → k < f → RW h0 h g own (some (ys ++ numI i x)) (m + i) →
    ∃ h', RW h0 h' g own (some (ys ++ numI n x)) (m + n) ∧ ∀ (β : Type) (G : Option Addr → GH → (Int → GH → Option β) → Option β) (K0 : Option Addr → GH → Option β), F_field_Row_number_l0 G R f (some ⟨g, 0, none⟩) x ((n : Nat) : Int) ((i : Nat) : Int) h K0 = K0 (some ⟨g, 0, none⟩) h'
  | 0, i, f, h, hi, hf, w => by
    obtain ⟨f, rfl⟩ : ∃ f', f = f' + 1 := ⟨f - 1, by omega⟩
    obtain rfl : i = n := by omega
    refine ⟨h, w, fun β G K0 => ?_⟩
    rw [F_field_Row_number_l0_succ, decF (by omega), condF]
  | k + 1, i, f, h, hi, hf, w => by
    obtain ⟨f, rfl⟩ : ∃ f', f = f' + 1 := ⟨f - 1, by omega⟩
    obtain ⟨b, zs, w, e, l⟩ := w
    have ez := e _ rfl
    have k1 := keep_push h (.row ⟨[Value.int .u8 (x / 256 ^ i % 256)], 1, false⟩) []
    have r1 : Rd (h.push (.row ⟨[Value.int .u8 (x / 256 ^ i % 256)], 1, false⟩)) ⟨some ⟨h.next, 0, none⟩, 1, 1⟩ [x / 256 ^ i % 256] := (Vec.new (z := 1) (n := 1) (cs := [Value.int .u8 (x / 256 ^ i % 256)]) rfl rfl).row
    obtain ⟨h2, s2, e2, v2, k2, n2⟩ := app_bytes (w.vec.keep k1 (by simp)) r1 (by simp; omega)
    obtain ⟨h3, w3, e3⟩ := w.set v2 (Keep.mono (Keep.trans (k1.mono (o1 := rowsOf b) (by simp)) k2 (fun z hz => .inl hz)) (fun z hz => hz)) (fun z hz => by
      rcases n2 z hz with q | q
      · exact .inl q
      · exact .inr (Nat.le_trans k1.1 q))
    obtain ⟨h4, w4, e4⟩ := rwn_loop R hn hm k (i + 1) f h3 (by omega) (by omega) ⟨s2, zs ++ [x / 256 ^ i % 256], w3, fun xs hxs => by cases hxs; rw [numI_push, ← List.append_assoc, ez], by simp; omega⟩
    refine ⟨h4, w4, fun β G K0 => ?_⟩
    rw [F_field_Row_number_l0_succ, decT (by omega), condT, exA_s, cell_of w.look]
    rw [show nth [Value.slice b.a b.n b.c, Value.int .i64 (if (some (ys ++ numI i x)).isSome then 0 else 18)] (0 + 0) = some (.slice b.a b.n b.c) from rfl, exS_s, decF (by rw [i64w (by omega)]; omega), condF, shr_byte x (by omega)]
    refine (gnew_eq rfl _).trans ?_
    refine (e2 β _).trans ?_
    rw [exA_s]
    refine (e3 β _).trans ?_
    rw [i64w (by omega), show ((i : Nat) : Int) + 1 = ((i + 1 : Nat) : Int) by omega]
    exact e4 β G K0
theorem RW.number (w : RW h0 h g own st m) {x : Int} {n : Nat} (hn : n ≤ 4) (hm : m + n ≤ 274877906944) {R : Nat} (hR : 8 < R) : ∃ h', RW h0 h' g own (st.map fun ys => ys ++ numI n x) (m + n) ∧ ∀ (β : Type) (K : Option Addr → GH → Option β), F_field_Row_number R (some ⟨g, 0, none⟩) x ((n : Nat) : Int) h K = K (some ⟨g, 0, none⟩) h' := by
  have er := fun β K => w.err R (β := β) K
  cases st with
  | none =>
    refine ⟨h, w.mono (by omega), fun β K => ?_⟩
    unfold F_field_Row_number
    rw [F_field_Row_number_gen, er]; rfl
  | some ys =>
    obtain ⟨h1, w1, e1⟩ := rwn_loop R hn hm n 0 R h (by omega) (by omega) (ys := ys) (by simpa [numI] using w)
    refine ⟨h1, w1, fun β K => ?_⟩
    unfold F_field_Row_number
    rw [F_field_Row_number_gen, er]
    exact e1 β _ _
theorem RW.u32 (w : RW h0 h g own st m) {x : Int} (hm : m + 4 ≤ 274877906944) {R : Nat} (hR : 8 < R) : ∃ h', RW h0 h' g own (u32W st x) (m + 4) ∧ ∀ (β : Type) (K : Option Addr → GH → Option β), F_field_Row_U32 R (some ⟨g, 0, none⟩) x h K = K (some ⟨g, 0, none⟩) h' := by
  obtain ⟨h1, w1, e1⟩ := w.number (x := x) (n := 4) (by omega) hm hR
  refine ⟨h1, w1, fun β K => ?_⟩
  unfold F_field_Row_U32
  rw [F_field_Row_U32_gen]
  exact e1 β _
theorem RW.none_num (w : RW h0 h g own none m) (R : Nat) (x n : Int) {β : Type} (K : Option Addr → GH → Option β) : F_field_Row_number R (some ⟨g, 0, none⟩) x n h K = K (some ⟨g, 0, none⟩) h := by
  have er := fun β K => w.err R (β := β) K
  unfold F_field_Row_number
  rw [F_field_Row_number_gen, er]; rfl
theorem RW.u16 (w : RW h0 h g own st m) (x : Int) (hm : m + 2 ≤ 274877906944) {R : Nat} (hR : 8 < R) : ∃ h', RW h0 h' g own (u16W st x) (m + 2) ∧ ∀ (β : Type) (K : Option Addr → GH → Option β), F_field_Row_U16 R (some ⟨g, 0, none⟩) x h K = K (some ⟨g, 0, none⟩) h' := by
  have er := fun β K => w.err R (β := β) K
  cases st with
  | none =>
    have en := fun β K => w.none_num R (β := β) (IntKind.wrap .u32 x) 2 K
    refine ⟨h, w.mono (by omega), fun β K => ?_⟩
    unfold F_field_Row_U16
    rw [F_field_Row_U16_gen, er, show ((if (none : Option (List Int)).isSome = true then (0 : Int) else 18) == 0) = false from rfl, condF]
    exact en β _
  | some ys =>
    by_cases c : 0 ≤ x ∧ x ≤ 65535
    · obtain ⟨h1, w1, e1⟩ := w.number (x := x) (n := 2) (by omega) hm hR
      have st1 : u16W (some ys) x = (some ys).map fun ys => ys ++ numI 2 x := by rw [u16W_some, if_pos c]; rfl
      rw [st1]
      refine ⟨h1, w1, fun β K => ?_⟩
      unfold F_field_Row_U16
      rw [F_field_Row_U16_gen, er, show ((if (some ys).isSome = true then (0 : Int) else 18) == 0) = true from rfl, condT, u32w ⟨c.1, by omega⟩, decF (by omega), decF (by omega), condF, condF]
      exact e1 β _
    · obtain ⟨b, zs, wb, e, l⟩ := w
      obtain ⟨h1, wb1, e1⟩ := wb.setE 18
      have w1 : RW h0 h1 g own none (m + 2) := ⟨b, zs, wb1, by simp, by omega⟩
      have en := fun β K => w1.none_num R (β := β) (IntKind.wrap .u32 x) 2 K
      refine ⟨h1, by rw [u16W_some, if_neg c]; exact w1, fun β K => ?_⟩
      unfold F_field_Row_U16
      rw [F_field_Row_U16_gen, er, show ((if (some ys).isSome = true then (0 : Int) else 18) == 0) = true from rfl, condT]
      by_cases c1 : x < 0
      · rw [decT c1, condT, exA_s]
        refine (e1 β _).trans ?_
        exact en β _
      · rw [decF c1, condF, decT (by omega), condT, exA_s]
        refine (e1 β _).trans ?_
        exact en β _
theorem RW.put (w : RW h0 h g own st m) {q : Sl} {xs : List Int} (r : Rd h q xs) (hm : m + xs.length ≤ 274877906944) (R : Nat) : ∃ h', RW h0 h' g own (putW st xs) (m + xs.length) ∧ ∀ (β : Type) (K : Option Addr → GH → Option β), F_field_Row_Put R (some ⟨g, 0, none⟩) q h K = K (some ⟨g, 0, none⟩) h' := by
  have er := fun β K => w.err R (β := β) K
  cases st with
  | none =>
    refine ⟨h, w.mono (by omega), fun β K => ?_⟩
    unfold F_field_Row_Put
    rw [F_field_Row_Put_gen, er]; rfl
  | some ys =>
    obtain ⟨b, zs, wb, e, l⟩ := w
    have ez := e _ rfl
    obtain ⟨h2, s2, e2, v2, k2, n2⟩ := app_bytes wb.vec r (by omega)
    obtain ⟨h3, w3, e3⟩ := wb.set v2 k2 n2
    refine ⟨h3, ⟨s2, zs ++ xs, w3, fun x hx => by cases hx; rw [ez], by simp; omega⟩, fun β K => ?_⟩
    unfold F_field_Row_Put
    rw [F_field_Row_Put_gen, er, show ((if (some ys).isSome = true then (0 : Int) else 18) == 0) = true from rfl, condT, exA_s, cell_of wb.look]
    rw [show nth [Value.slice b.a b.n b.c, Value.int .i64 (if (some ys).isSome then 0 else 18)] (0 + 0) = some (.slice b.a b.n b.c) from rfl, exS_s]
    refine (e2 β _).trans ?_
    rw [exA_s]
    exact e3 β _
/-- a row's bytes, or why none -/
theorem RW.done (w : RW h0 h g own st m) (hm : m ≤ 274877906944) (R : Nat) :
    ∃ h' q, Keep h0 h' own ∧ Keep h h' [] ∧ (∀ z ∈ rowsOf q, h0.next ≤ z) ∧ (∀ ys, st = some ys → Bv h' q ys ∧ ys.length ≤ m) ∧ ∀ (β : Type) (K : Sl → Int → GH → Option β), F_record_done R (some ⟨g, 0, none⟩) h K = K q (if st.isSome then 0 else 18) h' := by
  have er := fun β K => w.err R (β := β) K
  cases st with
  | some ys =>
    obtain ⟨b, zs, wb, e, l⟩ := w
    have ez := e _ rfl
    obtain ⟨h1, q, e1, v1, k1, n1⟩ := clone_rd wb.vec.row (by omega) R
    have hk := wb.keep.1
    refine ⟨h1, q, wb.keep.trans k1 (by simp), k1, fun z hz => by have := n1 z hz; omega, fun xs hxs => by cases hxs; rw [ez]; exact ⟨v1, l⟩, fun β K => ?_⟩
    unfold F_record_done
    rw [F_record_done_gen, er, show ((if (some ys).isSome = true then (0 : Int) else 18) != 0) = false from rfl, condF]
    unfold F_field_Row_Bytes
    rw [F_field_Row_Bytes_gen, er, show ((if (some ys).isSome = true then (0 : Int) else 18) != 0) = false from rfl, condF, exA_s, cell_of wb.look]
    rw [show nth [Value.slice b.a b.n b.c, Value.int .i64 (if (some ys).isSome then 0 else 18)] (0 + 0) = some (.slice b.a b.n b.c) from rfl, exS_s]
    exact e1 β _
  | none =>
    refine ⟨h, ⟨none, 0, 0⟩, w.keep, .refl _ _, by simp [rowsOf], by simp, fun β K => ?_⟩
    unfold F_record_done
    rw [F_record_done_gen, er]; rfl
/-- from a place further on -/
theorem RW.back {h1 : GH} {st1 : Option (List Int)} {m1 : Nat} {b : Sl} {ys : List Int} {e : Int} (w0 : RWb h0 h g own b ys e) (k : Keep h h1 []) {h2 : GH} (w : RW h1 h2 g (g :: rowsOf b) st1 m1) : RW h0 h2 g own st1 m1 := by
  obtain ⟨b2, ys2, w2, e2, l2⟩ := w
  have hk := w0.keep.1
  have hk1 := k.1
  have up : ∀ z, z ∈ g :: rowsOf b ∨ h1.next ≤ z → z ∈ own ∨ h0.next ≤ z := fun z hz => by
    rcases hz with hz | hz
    · rcases List.mem_cons.1 hz with rfl | hz
      · exact w0.gown
      · exact w0.rows z hz
    · exact .inr (by omega)
  exact ⟨b2, ys2, ⟨w2.look, w2.vec, w2.sep, fun z hz => up z (w2.rows z hz), w0.gown, (w0.keep.trans k (by simp)).trans w2.keep (fun z hz => up z (.inl hz))⟩, e2, l2⟩
theorem RWb.fwd {b : Sl} {ys : List Int} {e : Int} (w0 : RWb h0 h g own b ys e) {h1 : GH} (k : Keep h h1 []) : RWb h1 h1 g (g :: rowsOf b) b ys e :=
  ⟨k.look w0.look (by simp), w0.vec.keep k (by simp), w0.sep, fun z hz => .inl (by simp [hz]), .inl (by simp), .refl _ _⟩
end
end Go.Proofs.Ytibngikhlgmhaaa.Gx

