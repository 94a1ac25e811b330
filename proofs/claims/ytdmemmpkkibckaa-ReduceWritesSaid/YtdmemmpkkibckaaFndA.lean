/- The finder's walk: key, the map, enter. No condition. -/
import Derived.Test.YtdmemmpkkibckaaFndP
import Derived.Test.YtdmemmpkkibckaaGxx
namespace Go.Proofs.Ytdmemmpkkibckaa.Gx
open Go Go.RowKit Fd
set_option linter.unusedVariables false
set_option linter.unusedSimpArgs false
/-! ### the map of keys -/
def keyV (k : Int × Int × Int) : Value := .agg #[.int .u8 k.1, .int .u8 k.2.1, .int .u8 k.2.2]
def entV (e : (Int × Int × Int) × Int) : Value × Value := (keyV e.1, .int .i64 e.2)
def keyEq (k k' : Int × Int × Int) : Bool := k.1 == k'.1 && (k.2.1 == k'.2.1 && (k.2.2 == k'.2.2 && true))
theorem keyEq_iff {k k' : Int × Int × Int} : keyEq k k' = decide (k = k') := by
  obtain ⟨a, b, c⟩ := k
  obtain ⟨a', b', c'⟩ := k'
  simp [keyEq]
  by_cases h1 : a = a' <;> by_cases h2 : b = b' <;> by_cases h3 : c = c' <;> simp [h1, h2, h3]
def KeyT (t : TypeId) : Prop := ∀ (β : Type) (k k' : Int × Int × Int) (K : Bool → Option β), geqC Try.prog 16 t (keyV k) (keyV k') K = K (keyEq k k')
def fnd : List ((Int × Int × Int) × Int) → Int × Int × Int → Nat → Option (Nat × Value)
  | [], _, _ => none
  | (k', v) :: r, k, i => if k = k' then some (i, .int .i64 v) else fnd r k (i + 1)
theorem gfind_key {β : Type} {t : TypeId} (ht : KeyT t) (k : Int × Int × Int) : ∀ (es : List ((Int × Int × Int) × Int)) (i : Nat) (K : Option (Nat × Value) → Option β), gfind Try.prog t (keyV k) (es.map entV) i K = K (fnd es k i)
  | [], i, K => rfl
  | (k', v) :: r, i, K => by
    rw [List.map_cons, entV, gfind, ht, keyEq_iff, fnd]
    by_cases h : k = k'
    · simp [h]
    · simp only [h, decide_false, cond_false, if_false]
      exact gfind_key ht k r (i + 1) K
def mget : List ((Int × Int × Int) × Int) → Int × Int × Int → Int
  | [], _ => 0
  | (k', v) :: r, k => if k = k' then v else mget r k
def mset : List ((Int × Int × Int) × Int) → Int × Int × Int → Int → List ((Int × Int × Int) × Int)
  | [], k, v => [(k, v)]
  | (k', w) :: r, k, v => if k = k' then (k, v) :: r else (k', w) :: mset r k v
theorem mget_mset : ∀ (es : List ((Int × Int × Int) × Int)) (k q : Int × Int × Int) (v : Int), mget (mset es k v) q = if q = k then v else mget es q
  | [], k, q, v => by simp [mset, mget]
  | (k', w) :: r, k, q, v => by
    rw [mset]
    by_cases h : k = k'
    · rw [if_pos h, mget, mget, h]
      by_cases h2 : q = k' <;> simp [h2]
    · rw [if_neg h, mget, mget, mget_mset r k q v]
      by_cases h2 : q = k'
      · have : q ≠ k := fun e => h (by rw [← e, h2])
        simp [h2]
        intro e; exact absurd e.symm h
      · simp [h2]
theorem fnd_get : ∀ (es : List ((Int × Int × Int) × Int)) (k : Int × Int × Int) (i : Nat), (match fnd es k i with | some (_, v) => v | none => .int .i64 0) = .int .i64 (mget es k)
  | [], k, i => rfl
  | (k', v) :: r, k, i => by
    rw [fnd, mget]
    by_cases h : k = k'
    · simp [h]
    · simp only [h, if_false]; exact fnd_get r k (i + 1)
theorem look_map {β : Type} {t : TypeId} (ht : KeyT t) {h : GH} {m : Nat} {es : List ((Int × Int × Int) × Int)} (hl : h.look m = some (.map (es.map entV))) (k : Int × Int × Int) (K : Int → Option β) :
    glookI Try.prog t .i64 (.map (some m)) (keyV k) h K = K (mget es k) := by
  unfold glookI gmapOf
  simp only [hl]
  rw [gfind_key ht]
  have := fnd_get es k 0
  revert this
  cases fnd es k 0 with
  | none => intro q; simp only [Value.int.injEq, true_and] at q; simp only [← q]
  | some p => obtain ⟨j, v⟩ := p; intro q; simp only at q; simp only [q]; exact exI_s _ _ _
theorem fnd_set : ∀ (es : List ((Int × Int × Int) × Int)) (k : Int × Int × Int) (v : Int) (i : Nat),
    (fnd es k i = none → mset es k v = es ++ [(k, v)]) ∧ (∀ j x, fnd es k i = some (j, x) → ∃ w, i ≤ j ∧ es[j - i]? = some (k, w) ∧ mset es k v = es.set (j - i) (k, v))
  | [], k, v, i => ⟨fun _ => rfl, fun j x h => by cases h⟩
  | (k', w) :: r, k, v, i => by
    have ih := fnd_set r k v (i + 1)
    rw [fnd, mset]
    by_cases h : k = k'
    · subst h
      simp only [if_true]
      refine ⟨fun q => (nomatch q), fun j x q => ?_⟩
      simp only [Option.some.injEq, Prod.mk.injEq] at q
      obtain ⟨rfl, rfl⟩ := q
      exact ⟨w, Nat.le_refl _, by simp, by simp⟩
    · simp only [h, if_false]
      refine ⟨fun q => by rw [ih.1 q]; rfl, fun j x q => ?_⟩
      obtain ⟨w', h1, h2, h3⟩ := ih.2 j x q
      refine ⟨w', by omega, ?_, ?_⟩
      · rw [show j - i = (j - (i + 1)) + 1 by omega, List.getElem?_cons_succ]; exact h2
      · rw [show j - i = (j - (i + 1)) + 1 by omega, List.set_cons_succ, h3]
theorem sameG_key (k : Int × Int × Int) : sameG (keyV k) (keyV k) = true := by
  simp [sameG, keyV, leafsB, leafB]
theorem nset_set {α : Type} : ∀ (l : List α) (i : Nat) (x : α), nset l i x = l.set i x
  | [], i, x => by cases i <;> rfl
  | a :: r, 0, x => rfl
  | a :: r, i + 1, x => by rw [nset, List.set_cons_succ, nset_set r i x]
theorem set_map {β : Type} {t : TypeId} (ht : KeyT t) {h : GH} {m : Nat} {es : List ((Int × Int × Int) × Int)} (hl : h.look m = some (.map (es.map entV))) (k : Int × Int × Int) (v : Int) (K : GH → Option β) :
    gmapSet Try.prog t (.map (some m)) (keyV k) (.int .i64 v) h K = K (h.put m (some (.map ((mset es k v).map entV)))) := by
  unfold gmapSet
  simp only [hl]
  rw [gfind_key ht]
  have q := fnd_set es k v 0
  cases hf : fnd es k 0 with
  | none =>
    rw [q.1 hf]
    simp [entV]
  | some p =>
    obtain ⟨j, x⟩ := p
    obtain ⟨w, _, h2, h3⟩ := q.2 j x hf
    rw [h3]
    simp only [Nat.sub_zero] at h2 ⊢
    have : nth (es.map entV) j = some (keyV k, .int .i64 w) := by rw [nth_eq, List.getElem?_map, h2]; rfl
    simp only [this, sameG_key, cond_true, nset_set, List.map_set]
    rfl
/-! ### the finder -/
def kk (bs : List Int) (mn : Int) (i : Nat) : Int × Int × Int := (bs.getD i 0, bs.getD (i + 1) 0, if mn = 3 then bs.getD (i + 2) 0 else 0)
def lst (k : Int × Int × Int) : List Int := [k.1, k.2.1, k.2.2]
theorem lst_kk (bs : List Int) (mn : Int) (i : Nat) : lst (kk bs mn i) = keyAt bs mn i := rfl
theorem lst_inj {k k' : Int × Int × Int} : lst k = lst k' ↔ k = k' := by
  obtain ⟨a, b, c⟩ := k
  obtain ⟨a', b', c'⟩ := k'
  simp [lst]
structure Shp where
  (win mn mx ch : Int) (lz : Bool)
def finC (z : Shp) (b : Sl) (m p n q : Nat) : List Value := [.int .i64 z.win, .int .i64 z.mn, .int .i64 z.mx, .int .i64 z.ch, .bool z.lz, .slice b.a b.n b.c, .map (some m), .slice (some ⟨p, 0, none⟩) n n, .int .i64 q]
structure FSt (h : GH) (g m p : Nat) (b : Sl) (bs : List Int) (z : Shp) (q : Nat) : Prop where
  fin : h.look g = some (.row ⟨finC z b m p bs.length q, 0, false⟩)
  mp : ∃ es, h.look m = some (.map (es.map entV)) ∧ ∀ k, mget es k = lastK bs z.mn (lst k) q
  pv : h.look p = some (.row ⟨i64s (prevL bs z.mn q), 1, false⟩)
  rb : Rd h b bs
  gm : g ≠ m
  gp : g ≠ p
  mpn : m ≠ p
  gb : g ∉ rowsOf b
  mb : m ∉ rowsOf b
  pb : p ∉ rowsOf b
theorem FSt.keep {h h' : GH} {g m p : Nat} {b : Sl} {bs : List Int} {z : Shp} {q : Nat} {own : List Nat} (s : FSt h g m p b bs z q) (k : Keep h h' own) (h1 : g ∉ own) (h2 : m ∉ own) (h3 : p ∉ own) (h4 : ∀ x ∈ rowsOf b, x ∉ own) : FSt h' g m p b bs z q :=
  ⟨k.look s.fin h1, s.mp.imp fun es e => ⟨k.look e.1 h2, e.2⟩, k.look s.pv h3, s.rb.keep k h4, s.gm, s.gp, s.mpn, s.gb, s.mb, s.pb⟩
theorem FSt.keep0 {h h' : GH} {g m p : Nat} {b : Sl} {bs : List Int} {z : Shp} {q : Nat} (s : FSt h g m p b bs z q) (k : Keep h h' []) : FSt h' g m p b bs z q := s.keep k (by simp) (by simp) (by simp) (by simp)
theorem take_2 {bs : List Int} {i : Nat} (h : i + 2 ≤ bs.length) : (bs.drop i).take 2 = [bs.getD i 0, bs.getD (i + 1) 0] := by
  apply List.ext_getElem
  · simp; omega
  · intro j h1 h2
    simp at h2
    rcases j with _ | _ | j
    · simp [List.getD_eq_getElem?_getD, show i < bs.length by omega]
    · simp [List.getD_eq_getElem?_getD, show i + 1 < bs.length by omega]
    · omega
theorem take_3 {bs : List Int} {i : Nat} (h : i + 3 ≤ bs.length) : (bs.drop i).take 3 = [bs.getD i 0, bs.getD (i + 1) 0, bs.getD (i + 2) 0] := by
  apply List.ext_getElem
  · simp; omega
  · intro j h1 h2
    simp at h2
    rcases j with _ | _ | _ | j
    · simp [List.getD_eq_getElem?_getD, show i < bs.length by omega]
    · simp [List.getD_eq_getElem?_getD, show i + 1 < bs.length by omega]
    · simp [List.getD_eq_getElem?_getD, show i + 2 < bs.length by omega]
    · omega
def kv (bs : List Int) (mn : Int) (i : Nat) : Int × Int × Int := if (i : Int) + mn ≤ bs.length then kk bs mn i else (0, 0, 0)
def zr (k : Int × Int × Int) : GObj := .row ⟨[.int .u8 k.1, .int .u8 k.2.1, .int .u8 k.2.2], 0, false⟩
theorem key_eq {h : GH} {g m p : Nat} {b : Sl} {bs : List Int} {z : Shp} {q : Nat} (s : FSt h g m p b bs z q) (hz : z.mn = 2 ∨ z.mn = 3) {i : Nat} (hi : i ≤ bs.length) (hb : bs.length ≤ 1000000000) (R : Nat) :
    ∃ h', Keep h h' [] ∧ ∀ (β : Type) (K : Int → Int → Int → Bool → GH → Option β), F_finder_finder_key R (some ⟨g, 0, none⟩) (i : Nat) h K = K (kv bs z.mn i).1 (kv bs z.mn i).2.1 (kv bs z.mn i).2.2 (decide ((i : Int) + z.mn ≤ bs.length)) h' := by
  have k1 := keep_push h (zr (0, 0, 0)) []
  have k2 := k1.trans (keep_push _ (zr (0, 0, 0)) []) (by simp)
  have s2 := s.keep0 k2
  have gl := look_lt s.fin
  have n1 : ¬ g = h.next := by omega
  have n2 : ¬ g = h.next + 1 := by omega
  have n3 : ¬ h.next = h.next + 1 := by omega
  have n4 : ¬ h.next + 1 = h.next := by omega
  have n5 : h.next < h.next + 1 + 1 := by omega
  have n6 : h.next + 1 < h.next + 1 + 1 := by omega
  have hn := s.rb.n
  have hcap := s.rb.cap
  have hw : IntKind.wrap .i64 ((i : Int) + z.mn) = (i : Int) + z.mn := i64w (by omega)
  have fin := s.fin
  unfold finC at fin
  by_cases hv : (i : Int) + z.mn ≤ bs.length
  · have hkv : kv bs z.mn i = kk bs z.mn i := by rw [kv, if_pos hv]
    rw [hkv]
    have hrow := s2.rb.cut (lo := i) (hi := i + z.mn.toNat) (mx := b.c) (by omega) (by omega) (by omega) (Nat.le_refl _)
    refine ⟨(((h.push (zr (0, 0, 0))).push (zr (0, 0, 0))).put (h.next + 1) (some (zr (kk bs z.mn i)))).put h.next (some (zr (kk bs z.mn i))), (k2.trans (keep_put _ _ _) (fun x hx => .inr (by simp at hx; omega))).trans (keep_put _ _ _) (fun x hx => .inr (by simp at hx; omega)), fun β K => ?_⟩
    unfold F_finder_finder_key
    rw [F_finder_finder_key_gen]
    have e1 : (i + z.mn.toNat) - i = z.mn.toNat := by omega
    rw [e1] at hrow
    simp only [look_push_if, look_put_if, cell_look, rowCell_row, nth_0, nth_s, gnew_if, gput_if, allCells_n, allCells_c, isCell_i, isCell_b, isCell_s, isCell_p, ble_dec, nlay_def, sameAt_1, veqO_i, veqO_b, veqO_s, veqO_p, exS_s', exA_s, exI_s, exB_s, exP_s, exS_s, condT, condF, notT, notF, isNone_s, next_push, next_put, Nat.zero_add, Nat.add_zero, Nat.add_assoc, Nat.reduceAdd, if_true, if_false, Bool.and_true, Bool.true_and, Bool.or_false, Bool.false_or, Nat.reduceEqDiff, Nat.add_eq_left, Nat.left_eq_add, reduceCtorEq, List.length_cons, List.length_nil, List.take_zero, List.take_succ_cons, List.take_nil, List.drop_zero, List.drop_succ_cons, List.drop_nil, List.nil_append, List.cons_append, List.append_nil, decide_true, decide_false, Nat.reduceLeDiff, Nat.le_refl, Nat.lt_add_one, Nat.lt_add_right_iff_pos, Nat.zero_lt_one, Nat.reduceLT, Nat.succ_ne_self, Nat.one_ne_zero, Nat.add_left_cancel_iff, ite_self, n1, n2, n3, n4, n5, n6, fin, hw]
    rw [decF (by omega), condF, bnd_t (by omega) (by omega), bnd_t (by omega) (by omega), gcopy]
    simp only [show ((i : Nat) : Int).toNat = i by omega, show ((i : Int) + z.mn).toNat = i + z.mn.toNat by omega, e1]
    have hrow' : Rd ((h.push (.row ⟨[Value.int .u8 0, Value.int .u8 0, Value.int .u8 0], 0, false⟩)).push (.row ⟨[Value.int .u8 0, Value.int .u8 0, Value.int .u8 0], 0, false⟩)) ⟨addO b.a (i * 1), z.mn.toNat, b.c - i⟩ ((bs.drop i).take z.mn.toNat) := hrow
    rw [hrow'.cells]
    rcases hz with e | e
    · rw [e] at hv
      simp only [e, show (2 : Int).toNat = 2 by rfl, take_2 (show i + 2 ≤ bs.length by omega)]
      simp only [look_push_if, look_put_if, cell_look, rowCell_row, nth_0, nth_s, gnew_if, gput_if, allCells_n, allCells_c, isCell_i, isCell_b, isCell_s, isCell_p, ble_dec, nlay_def, sameAt_1, veqO_i, veqO_b, veqO_s, veqO_p, exS_s', exA_s, exI_s, exB_s, exP_s, exS_s, condT, condF, notT, notF, isNone_s, next_push, next_put, Nat.zero_add, Nat.add_zero, Nat.add_assoc, Nat.reduceAdd, if_true, if_false, Bool.and_true, Bool.true_and, Bool.or_false, Bool.false_or, Nat.reduceEqDiff, Nat.add_eq_left, Nat.left_eq_add, reduceCtorEq, List.length_cons, List.length_nil, List.take_zero, List.take_succ_cons, List.take_nil, List.drop_zero, List.drop_succ_cons, List.drop_nil, List.nil_append, List.cons_append, List.append_nil, decide_true, decide_false, Nat.reduceLeDiff, Nat.le_refl, Nat.lt_add_one, Nat.lt_add_right_iff_pos, Nat.zero_lt_one, Nat.reduceLT, Nat.succ_ne_self, Nat.one_ne_zero, Nat.add_left_cancel_iff, ite_self, n1, n2, n3, n4, n5, n6, u8s, List.map_cons, List.map_nil, Nat.sub_zero, Nat.min_self, show Nat.beq 3 0 = false by rfl, show Nat.beq 2 0 = false by rfl, show min 2 3 = 2 by rfl, Nat.mul_one, Nat.zero_mul, ntake_eq]
      rw [decT hv]
      rfl
    · rw [e] at hv
      simp only [e, show (3 : Int).toNat = 3 by rfl, take_3 (show i + 3 ≤ bs.length by omega)]
      simp only [look_push_if, look_put_if, cell_look, rowCell_row, nth_0, nth_s, gnew_if, gput_if, allCells_n, allCells_c, isCell_i, isCell_b, isCell_s, isCell_p, ble_dec, nlay_def, sameAt_1, veqO_i, veqO_b, veqO_s, veqO_p, exS_s', exA_s, exI_s, exB_s, exP_s, exS_s, condT, condF, notT, notF, isNone_s, next_push, next_put, Nat.zero_add, Nat.add_zero, Nat.add_assoc, Nat.reduceAdd, if_true, if_false, Bool.and_true, Bool.true_and, Bool.or_false, Bool.false_or, Nat.reduceEqDiff, Nat.add_eq_left, Nat.left_eq_add, reduceCtorEq, List.length_cons, List.length_nil, List.take_zero, List.take_succ_cons, List.take_nil, List.drop_zero, List.drop_succ_cons, List.drop_nil, List.nil_append, List.cons_append, List.append_nil, decide_true, decide_false, Nat.reduceLeDiff, Nat.le_refl, Nat.lt_add_one, Nat.lt_add_right_iff_pos, Nat.zero_lt_one, Nat.reduceLT, Nat.succ_ne_self, Nat.one_ne_zero, Nat.add_left_cancel_iff, ite_self, n1, n2, n3, n4, n5, n6, u8s, List.map_cons, List.map_nil, Nat.sub_zero, Nat.min_self, show Nat.beq 3 0 = false by rfl, Nat.mul_one, Nat.zero_mul, ntake_eq]
      rw [decT hv]
      rfl
  · have hkv : kv bs z.mn i = (0, 0, 0) := by rw [kv, if_neg hv]
    rw [hkv]
    refine ⟨((h.push (zr (0, 0, 0))).push (zr (0, 0, 0))).put h.next (some (zr (0, 0, 0))), k2.trans (keep_put _ _ _) (fun x hx => .inr (by simp at hx; omega)), fun β K => ?_⟩
    unfold F_finder_finder_key
    rw [F_finder_finder_key_gen]
    simp only [look_push_if, look_put_if, cell_look, rowCell_row, nth_0, nth_s, gnew_if, gput_if, allCells_n, allCells_c, isCell_i, isCell_b, isCell_s, isCell_p, ble_dec, nlay_def, sameAt_1, veqO_i, veqO_b, veqO_s, veqO_p, exS_s', exA_s, exI_s, exB_s, exP_s, exS_s, condT, condF, notT, notF, isNone_s, next_push, next_put, Nat.zero_add, Nat.add_zero, Nat.add_assoc, Nat.reduceAdd, if_true, if_false, Bool.and_true, Bool.true_and, Bool.or_false, Bool.false_or, Nat.reduceEqDiff, Nat.add_eq_left, Nat.left_eq_add, reduceCtorEq, List.length_cons, List.length_nil, List.take_zero, List.take_succ_cons, List.take_nil, List.drop_zero, List.drop_succ_cons, List.drop_nil, List.nil_append, List.cons_append, List.append_nil, decide_true, decide_false, Nat.reduceLeDiff, Nat.le_refl, Nat.lt_add_one, Nat.lt_add_right_iff_pos, Nat.zero_lt_one, Nat.reduceLT, Nat.succ_ne_self, Nat.one_ne_zero, Nat.add_left_cancel_iff, ite_self, n1, n2, n3, n4, n5, n6, fin, hw]
    rw [decT (by omega), condT, decF hv]
    rfl
theorem exV_s {β : Type} (v : Value) (K : Value → Option β) : exV (some v) K = K v := rfl
theorem tmp_key (h : GH) (k : Int × Int × Int) : ∃ g h', Keep h h' [] ∧ h.next ≤ g ∧ h'.look g = some (zr k) ∧ ∀ (β : Type) (K : Nat → GH → Option β),
    (gnew [Value.int .u8 0, Value.int .u8 0, Value.int .u8 0] 0 h fun g h1 => gput g (0) [Value.int .u8 k.1, Value.int .u8 k.2.1, Value.int .u8 k.2.2] h1 fun h2 => K g h2) = K g h' := by
  refine ⟨h.next, (h.push (zr (0, 0, 0))).put h.next (some (zr k)), (keep_push h (zr (0, 0, 0)) []).trans (keep_put _ _ _) (fun x hx => .inr (by simp at hx; omega)), Nat.le_refl _, look_put_same (by simp [next_push]), fun β K => ?_⟩
  rw [gnew_eq rfl, gput_eq look_push_new rfl (by simp)]
  rfl
theorem FSt.cl {h : GH} {g m p : Nat} {b : Sl} {bs : List Int} {z : Shp} {q : Nat} (s : FSt h g m p b bs z q) (i : Nat) : h.cell ⟨g, i, none⟩ = nth (finC z b m p bs.length q) i := cell_of s.fin i
theorem nlay_one {l : List Int} {i : Nat} (hi : i < l.length) (v : Int) : nlay (i64s l) i [Value.int .i64 v] = i64s (l.set i v) := by
  rw [nlay_eq, i64s, i64s, List.map_set, List.set_eq_take_append_cons_drop, if_pos (by simpa using hi)]
  simp
theorem enter_step {h : GH} {g m p : Nat} {b : Sl} {bs : List Int} {z : Shp} {q : Nat} (s : FSt h g m p b bs z q) (hz : z.mn = 2 ∨ z.mn = 3) {i : Nat} (hq : q < i) (hi : i ≤ bs.length) (hb : bs.length ≤ 1000000000) (R : Nat) :
    ∃ h', FSt h' g m p b bs z (q + 1) ∧ Keep h h' [g, m, p] ∧ ∀ (β : Type) (n : Nat) (K : GH → Option β), F_finder_finder_enter_l0 (F_finder_finder_key R) R (n + 1) (some ⟨g, 0, none⟩) (i : Nat) h K = F_finder_finder_enter_l0 (F_finder_finder_key R) R n (some ⟨g, 0, none⟩) (i : Nat) h' K := by
  obtain ⟨h1, k1, e1⟩ := key_eq s hz (i := q) (by omega) hb R
  have s1 := s.keep0 k1
  obtain ⟨gk, h2, k2, n2, lk, e2⟩ := tmp_key h1 (kv bs z.mn q)
  have s2 := s1.keep0 k2
  have kk2 := k1.trans k2 (by simp)
  have gl := look_lt s1.fin
  have ml : m < h1.next := by obtain ⟨es, e, _⟩ := s1.mp; exact look_lt e
  have pl := look_lt s1.pv
  have ck : ∀ h' : GH, h'.look gk = some (zr (kv bs z.mn q)) → ∀ i, h'.cell ⟨gk, i, none⟩ = nth [Value.int .u8 (kv bs z.mn q).1, .int .u8 (kv bs z.mn q).2.1, .int .u8 (kv bs z.mn q).2.2] i := fun h' hl i => cell_of hl i
  have hw : IntKind.wrap .i64 ((q : Nat) + 1 : Int) = ((q + 1 : Nat) : Int) := by rw [i64w (by omega)]; omega
  have fin8 : nlay (finC z b m p bs.length q) 8 [Value.int .i64 ((q + 1 : Nat) : Int)] = finC z b m p bs.length (q + 1) := rfl
  by_cases hv : (q : Int) + z.mn ≤ bs.length
  · obtain ⟨es, hm, hes⟩ := s2.mp
    have kp := keep_put h2 p (some (.row ⟨i64s (prevL bs z.mn (q + 1)), 1, false⟩))
    have hm3 := kp.look hm (by simpa using s.mpn)
    have km := keep_put (h2.put p (some (.row ⟨i64s (prevL bs z.mn (q + 1)), 1, false⟩))) m (some (.map ((mset es (kk bs z.mn q) ((q + 1 : Nat) : Int)).map entV)))
    have kg := keep_put ((h2.put p (some (.row ⟨i64s (prevL bs z.mn (q + 1)), 1, false⟩))).put m (some (.map ((mset es (kk bs z.mn q) ((q + 1 : Nat) : Int)).map entV)))) g (some (.row ⟨finC z b m p bs.length (q + 1), 0, false⟩))
    have f3 := kp.look s2.fin (by simpa using s.gp)
    have f4 := km.look f3 (by simpa using s.gm)
    have c3 := fun i => cell_of f3 i
    have c4 := fun i => cell_of f4 i
    have lk3 := kp.look lk (by simp; omega)
    have hkv : kv bs z.mn q = kk bs z.mn q := by rw [kv, if_pos hv]
    refine ⟨_, ⟨look_put_same (look_lt f4), ?_, ?_, ?_, s.gm, s.gp, s.mpn, s.gb, s.mb, s.pb⟩, ?_, fun β n K => ?_⟩
    rotate_left 4
    · rw [F_finder_finder_enter_l0_succ]
      simp only [exA_s, s.cl, finC, Nat.zero_add, nth_s, nth_0, exI_s]
      rw [decT (by omega), condT, e1, e2, decT hv, condT]
      simp only [exA_s, s2.cl, finC, Nat.zero_add, nth_s, nth_0, exI_s, exS_s', exV_s, ck _ lk]
      have q1 := fun K => look_map (β := β) (t := 135) (by intro β k k' K; kernel_rfl) hm (kv bs z.mn q) K
      unfold keyV at q1
      rw [q1, hes, within_t (by omega) (by omega), hkv, lst_kk]
      have q2 : nlay (i64s (prevL bs z.mn q)) ((q : Int).toNat * 1) [Value.int .i64 ((lastK bs z.mn (keyAt bs z.mn q) q : Nat) : Int)] = i64s (prevL bs z.mn (q + 1)) := by
        rw [Nat.mul_one, Int.toNat_natCast, nlay_one (by rw [prevL_len]; omega), prevL_set _ _ _ hv]
      rw [gput_eq s2.pv rfl (by rw [i64s_length, prevL_len]; simp; omega), q2, sameAt_1, s2.cl, sameAt_1, s2.cl]
      simp only [finC, nth_s, nth_0, veqO_i, veqO_s, condT, exV_s, c3, ck _ lk3, exI_s, hw]
      have q3 := fun K => set_map (β := β) (t := 135) (by intro β k k' K; kernel_rfl) hm3 (kv bs z.mn q) ((q + 1 : Nat) : Int) K
      unfold keyV at q3
      rw [q3, hkv]
      simp only [c4, finC, nth_s, nth_0, exI_s, hw]
      rw [gput_eq f4 rfl (by simp [finC])]
      rfl
    · obtain ⟨es', hm', hes'⟩ := s.mp
      refine ⟨mset es (kk bs z.mn q) ((q + 1 : Nat) : Int), ?_, fun k => ?_⟩
      · exact kg.look (look_put_same (look_lt hm3)) (by simpa using s.gm.symm)
      · rw [mget_mset, lastK, ← lst_kk]
        by_cases e : k = kk bs z.mn q
        · rw [if_pos e, if_pos ⟨hv, by rw [e]⟩]
        · rw [if_neg e, if_neg (fun q => e (lst_inj.1 q.2).symm), hes]
    · exact kg.look (km.look (look_put_same (look_lt s2.pv)) (by simpa using s.mpn.symm)) (by simpa using s.gp.symm)
    · exact ((s2.rb.keep kp (by intro x hx; simp; intro e; exact s.pb (e ▸ hx))).keep km (by intro x hx; simp; intro e; exact s.mb (e ▸ hx))).keep kg (by intro x hx; simp; intro e; exact s.gb (e ▸ hx))
    · exact (((kk2.mono (o1 := [g, m, p]) (by simp)).trans kp (by simp)).trans km (by simp)).trans kg (by simp)
  · have kg := keep_put h2 g (some (.row ⟨finC z b m p bs.length (q + 1), 0, false⟩))
    refine ⟨_, ⟨look_put_same (look_lt s2.fin), ?_, ?_, ?_, s.gm, s.gp, s.mpn, s.gb, s.mb, s.pb⟩, ?_, fun β n K => ?_⟩
    rotate_left 4
    · rw [F_finder_finder_enter_l0_succ]
      simp only [exA_s, s.cl, finC, Nat.zero_add, nth_s, nth_0, exI_s]
      rw [decT (by omega), condT, e1, e2, decF hv, condF]
      simp only [exA_s, s2.cl, finC, Nat.zero_add, nth_s, nth_0, exI_s, hw]
      rw [gput_eq s2.fin rfl (by simp [finC])]
      rfl
    · obtain ⟨es, hm, hes⟩ := s2.mp
      exact ⟨es, kg.look hm (by simpa using s.gm.symm), fun k => by rw [hes, lastK_skip _ _ _ hv]⟩
    · rw [← prevL_skip _ _ _ hv]; exact kg.look s2.pv (by simpa using s.gp.symm)
    · exact s2.rb.keep kg (by intro x hx; simp; intro e; exact s.gb (e ▸ hx))
    · exact (kk2.mono (o1 := [g, m, p]) (by simp)).trans kg (by simp)
theorem enter_loop {g m p : Nat} {b : Sl} {bs : List Int} {z : Shp} (hz : z.mn = 2 ∨ z.mn = 3) {i : Nat} (hi : i ≤ bs.length) (hb : bs.length ≤ 1000000000) (R : Nat) :
    ∀ (d q n : Nat) (h : GH), q + d = i → d < n → FSt h g m p b bs z q → ∃ h', FSt h' g m p b bs z i ∧ Keep h h' [g, m, p] ∧ ∀ (β : Type) (K : GH → Option β), F_finder_finder_enter_l0 (F_finder_finder_key R) R n (some ⟨g, 0, none⟩) (i : Nat) h K = K h'
  | 0, q, n, h, hd, hn, s => by
    obtain rfl : q = i := by omega
    refine ⟨h, s, .refl _ _, fun β K => ?_⟩
    obtain ⟨n, rfl⟩ : ∃ n', n = n' + 1 := ⟨n - 1, by omega⟩
    rw [F_finder_finder_enter_l0_succ]
    simp only [exA_s, s.cl, finC, Nat.zero_add, nth_s, nth_0, exI_s]
    rw [decF (by omega), condF]
  | d + 1, q, n, h, hd, hn, s => by
    obtain ⟨n, rfl⟩ : ∃ n', n = n' + 1 := ⟨n - 1, by omega⟩
    obtain ⟨h1, s1, k1, e1⟩ := enter_step s hz (i := i) (by omega) hi hb R
    obtain ⟨h2, s2, k2, e2⟩ := enter_loop hz hi hb R d (q + 1) n h1 (by omega) (by omega) s1
    exact ⟨h2, s2, k1.trans k2 fun x hx => .inl hx, fun β K => by rw [e1, e2]⟩
theorem enter_eq {h : GH} {g m p : Nat} {b : Sl} {bs : List Int} {z : Shp} {q : Nat} (s : FSt h g m p b bs z q) (hz : z.mn = 2 ∨ z.mn = 3) {i : Nat} (hq : q ≤ i) (hi : i ≤ bs.length) (hb : bs.length ≤ 1000000000) {R : Nat} (hR : bs.length < R) :
    ∃ h', FSt h' g m p b bs z i ∧ Keep h h' [g, m, p] ∧ ∀ (β : Type) (K : GH → Option β), F_finder_finder_enter R (some ⟨g, 0, none⟩) (i : Nat) h K = K h' := by
  obtain ⟨h', s', k', e'⟩ := enter_loop hz hi hb R (i - q) q R h (by omega) (by omega) s
  exact ⟨h', s', k', fun β K => by unfold F_finder_finder_enter; rw [F_finder_finder_enter_gen, e']⟩
/-! ### how far two places are the same -/
theorem length_loop {h : GH} {g m p : Nat} {b : Sl} {bs : List Int} {z : Shp} {q : Nat} (s : FSt h g m p b bs z q) (hmx : z.mx ≤ 65538) {f i : Nat} (hf : f < i) (hi : i ≤ bs.length) (hb : bs.length ≤ 1000000000) (R : Nat) {β : Type} (K : Int → GH → Option β) :
    ∀ (d k n : Nat), bs.length ≤ i + (d + k) → i + k ≤ bs.length → d < n → F_finder_finder_length_l0 R n (some ⟨g, 0, none⟩) (f : Nat) (i : Nat) (k : Nat) h K = K ((lenFrom bs f i z.mx d k : Nat) : Int) h
  | d, k, n, hd, hk, hn => by
    obtain ⟨n, rfl⟩ : ∃ n', n = n' + 1 := ⟨n - 1, by omega⟩
    have hbn := s.rb.n
    have w1 : IntKind.wrap .i64 ((i : Int) + (k : Int)) = ((i + k : Nat) : Int) := by rw [i64w (by omega)]; omega
    have w2 : IntKind.wrap .i64 ((f : Int) + (k : Int)) = ((f + k : Nat) : Int) := by rw [i64w (by omega)]; omega
    have w3 : IntKind.wrap .i64 ((k : Int) + 1) = ((k + 1 : Nat) : Int) := by rw [i64w (by omega)]; omega
    rw [F_finder_finder_length_l0_succ]
    simp only [exA_s, s.cl, finC, Nat.zero_add, nth_s, nth_0, exI_s, exS_s', w1, w2, w3]
    by_cases c1 : (k : Int) < z.mx
    · rw [decT c1, condT]
      by_cases c2 : i + k < bs.length
      · rw [decT (by omega), condT]
        have r1 := fun K => s.rb.byte (β := β) (i := ((f + k : Nat) : Int)) (by omega) (by omega) K
        have r2 := fun K => s.rb.byte (β := β) (i := ((i + k : Nat) : Int)) (by omega) (by omega) K
        rw [r1, r2]
        simp only [Int.toNat_natCast]
        match d, hd, hn with
        | 0, hd, hn => exact absurd c2 (by omega)
        | d + 1, hd, hn =>
          rw [lenFrom]
          by_cases c3 : bs.getD (f + k) 0 = bs.getD (i + k) 0
          · rw [if_pos ⟨c1, c2, c3⟩, beq_int, decT c3, condT]
            exact length_loop s hmx hf hi hb R K d (k + 1) n (by omega) (by omega) (by omega)
          · rw [if_neg (fun q => c3 q.2.2), beq_int, decF c3, condF]
      · rw [decF (by omega), condF, lenFrom_stop _ _ _ _ _ _ (fun q => c2 q.2.1)]
    · rw [decF c1, condF, lenFrom_stop _ _ _ _ _ _ (fun q => c1 q.1)]
theorem length_eq {h : GH} {g m p : Nat} {b : Sl} {bs : List Int} {z : Shp} {q : Nat} (s : FSt h g m p b bs z q) (hmx : z.mx ≤ 65538) {f i : Nat} (hf : f < i) (hi : i ≤ bs.length) (hb : bs.length ≤ 1000000000) {R : Nat} (hR : bs.length < R) {β : Type} (K : Int → GH → Option β) :
    F_finder_finder_length R (some ⟨g, 0, none⟩) (f : Nat) (i : Nat) h K = K ((same bs f i z.mx : Nat) : Int) h := by
  unfold F_finder_finder_length
  rw [F_finder_finder_length_gen]
  exact length_loop s hmx hf hi hb R _ bs.length 0 R (by omega) (by omega) (by omega)
/-! ### the best of a chain -/
def tr (l : Int) (b : Nat × Nat) : GObj := .row ⟨[.int .u8 l, .int .i64 (b.1 : Nat), .int .i64 (b.2 : Nat)], 0, false⟩
structure ShOk (z : Shp) : Prop where
  mn : z.mn = 2 ∨ z.mn = 3
  win : 1 ≤ z.win ∧ z.win ≤ 65536
  mx : z.mn ≤ z.mx ∧ z.mx ≤ 65538
  ch : 0 ≤ z.ch ∧ z.ch ≤ 4096
theorem fat_loop {g m p gb : Nat} {b : Sl} {bs : List Int} {z : Shp} (hz : ShOk z) {i : Nat} (hi : i + z.mn ≤ bs.length) (hb : bs.length ≤ 1000000000) {R : Nat} (hR : bs.length < R) (y : Option Addr) (g1 : gb ≠ g) (g2 : gb ≠ m) (g3 : gb ≠ p) (g4 : gb ∉ rowsOf b) :
    ∀ (f n frm cnt : Nat) (best : Nat × Nat) (h : GH), frm ≤ f → frm ≤ i → f < n → FSt h g m p b bs z i → h.look gb = some (tr 0 best) →
    ∃ h', Keep h h' [gb] ∧ h'.look gb = some (tr 0 (atLoop bs z.mn z.mx z.win z.ch i f frm cnt best)) ∧ ∀ (β : Type) (K : Option Addr → Option Addr → GH → Option β),
      F_finder_finder_at_l0 (F_finder_finder_enter R) (F_finder_finder_key R) (F_finder_finder_length R) R n (some ⟨g, 0, none⟩) (i : Nat) y (some ⟨gb, 0, none⟩) (frm : Nat) (cnt : Nat) h K = K y (some ⟨gb, 0, none⟩) h'
  | f, n, frm, cnt, best, h, hf, hfi, hn, s, hl => by
    obtain ⟨n, rfl⟩ : ∃ n', n = n' + 1 := ⟨n - 1, by omega⟩
    have hm2 := hz.mn
    have hch := hz.ch
    have w1 : IntKind.wrap .i64 ((frm : Int) - 1) = (frm : Int) - 1 := i64w (by omega)
    have w2 : IntKind.wrap .i64 ((i : Int) - ((frm : Int) - 1)) = (i : Int) - ((frm : Int) - 1) := i64w (by omega)
    by_cases c : (cnt : Int) < z.ch ∧ 0 < frm ∧ (i : Int) - ((frm : Int) - 1) ≤ z.win
    · obtain ⟨c1, c2, c3⟩ := c
      match f, hf, hn with
      | 0, hf, hn => exact absurd c2 (by omega)
      | f + 1, hf, hn =>
        have w3 : IntKind.wrap .i64 ((cnt : Int) + 1) = ((cnt + 1 : Nat) : Int) := by rw [i64w (by omega)]; omega
        have x1 : ((frm : Int) - 1) = ((frm - 1 : Nat) : Int) := by omega
        have x2 : (i : Int) - ((frm - 1 : Nat) : Int) = ((i - (frm - 1) : Nat) : Int) := by omega
        have hne : ∀ h' : GH, h'.look gb = some (tr 0 best) → ∀ j, h'.cell ⟨gb, j, none⟩ = nth [.int .u8 0, .int .i64 (best.1 : Nat), .int .i64 (best.2 : Nat)] j := fun h' hl j => cell_of hl j
        have hlast : (prevF bs z.mn i (frm - 1) : Nat) ≤ frm - 1 := prevF_le _ _ _ _
        rw [atLoop, if_pos ⟨c1, c2, c3⟩]
        by_cases c4 : best.2 < same bs (frm - 1) i z.mx
        · simp only [c4, if_true]
          have kb := keep_put h gb (some (tr 0 (i - (frm - 1), same bs (frm - 1) i z.mx)))
          have s1 := s.keep kb (by simpa using g1.symm) (by simpa using g2.symm) (by simpa using g3.symm) (by intro x hx; simp; intro e; exact g4 (e ▸ hx))
          have hl1 : (h.put gb (some (tr 0 (i - (frm - 1), same bs (frm - 1) i z.mx)))).look gb = some (tr 0 (i - (frm - 1), same bs (frm - 1) i z.mx)) := look_put_same (look_lt hl)
          have hc1 : ∀ j, (h.put gb (some (tr 0 (i - (frm - 1), same bs (frm - 1) i z.mx)))).cell ⟨gb, j, none⟩ = nth [.int .u8 0, .int .i64 (i - (frm - 1) : Nat), .int .i64 (same bs (frm - 1) i z.mx : Nat)] j := fun j => cell_of hl1 j
          have hstep : ∀ (β : Type) (K : Option Addr → Option Addr → GH → Option β), F_finder_finder_at_l0 (F_finder_finder_enter R) (F_finder_finder_key R) (F_finder_finder_length R) R (n + 1) (some ⟨g, 0, none⟩) (i : Nat) y (some ⟨gb, 0, none⟩) (frm : Nat) (cnt : Nat) h K =
              if ((same bs (frm - 1) i z.mx : Nat) : Int) = z.mx then K y (some ⟨gb, 0, none⟩) (h.put gb (some (tr 0 (i - (frm - 1), same bs (frm - 1) i z.mx))))
              else F_finder_finder_at_l0 (F_finder_finder_enter R) (F_finder_finder_key R) (F_finder_finder_length R) R n (some ⟨g, 0, none⟩) (i : Nat) y (some ⟨gb, 0, none⟩) (prevF bs z.mn i (frm - 1) : Nat) ((cnt + 1 : Nat) : Int) (h.put gb (some (tr 0 (i - (frm - 1), same bs (frm - 1) i z.mx)))) K := by
            intro β K
            rw [F_finder_finder_at_l0_succ]
            simp only [exA_s, s.cl, finC, Nat.zero_add, Nat.add_zero, nth_s, nth_0, exI_s, w1, w2]
            rw [decT c1, condT, decT (by omega), condT, decT c3, condT]
            simp only [x1, x2]
            rw [length_eq s hz.mx.2 (by omega) (by omega) hb hR]
            simp only [exA_s, hne h hl, Nat.zero_add, nth_s, nth_0, exI_s]
            rw [decT (by omega), condT, gput_eq hl rfl (by simp)]
            have e5 : h.put gb (some (.row ⟨nlay [.int .u8 0, .int .i64 (best.1 : Nat), .int .i64 (best.2 : Nat)] 0 [.int .u8 0, .int .i64 (i - (frm - 1) : Nat), .int .i64 (same bs (frm - 1) i z.mx : Nat)], 0, false⟩)) = h.put gb (some (tr 0 (i - (frm - 1), same bs (frm - 1) i z.mx))) := rfl
            simp only [e5]
            simp only [exA_s, hc1, s1.cl, finC, Nat.zero_add, Nat.add_zero, nth_s, nth_0, exI_s, exS_s']
            rw [beq_int]
            by_cases c5 : ((same bs (frm - 1) i z.mx : Nat) : Int) = z.mx
            · rw [decT c5, condT, if_pos c5]
            · rw [decF c5, condF, if_neg c5, within_t (by omega) (by omega), cell_of s1.pv, Int.toNat_natCast, Nat.mul_one, nth_i64s (by rw [prevL_len]; omega), exI_s, w3]
              have := prevL_at bs z.mn i (frm - 1) (by omega)
              rw [List.getD_eq_getElem?_getD, List.getElem?_eq_getElem (by rw [prevL_len]; omega)] at this
              simp only [Option.getD_some] at this
              rw [this]
          by_cases c5 : ((same bs (frm - 1) i z.mx : Nat) : Int) = z.mx
          · exact ⟨_, kb, by rw [if_pos c5]; exact hl1, fun β K => by rw [hstep, if_pos c5]⟩
          · obtain ⟨h2, k2, l2, e2⟩ := fat_loop hz hi hb hR y g1 g2 g3 g4 f n (prevF bs z.mn i (frm - 1)) (cnt + 1) (i - (frm - 1), same bs (frm - 1) i z.mx) _ (by omega) (by omega) (by omega) s1 hl1
            exact ⟨h2, kb.trans k2 (fun x hx => .inl hx), by rw [if_neg c5]; exact l2, fun β K => by rw [hstep, if_neg c5, e2]⟩
        · simp only [c4, if_false]
          have hstep : ∀ (β : Type) (K : Option Addr → Option Addr → GH → Option β), F_finder_finder_at_l0 (F_finder_finder_enter R) (F_finder_finder_key R) (F_finder_finder_length R) R (n + 1) (some ⟨g, 0, none⟩) (i : Nat) y (some ⟨gb, 0, none⟩) (frm : Nat) (cnt : Nat) h K =
              if ((best.2 : Nat) : Int) = z.mx then K y (some ⟨gb, 0, none⟩) h
              else F_finder_finder_at_l0 (F_finder_finder_enter R) (F_finder_finder_key R) (F_finder_finder_length R) R n (some ⟨g, 0, none⟩) (i : Nat) y (some ⟨gb, 0, none⟩) (prevF bs z.mn i (frm - 1) : Nat) ((cnt + 1 : Nat) : Int) h K := by
            intro β K
            rw [F_finder_finder_at_l0_succ]
            simp only [exA_s, s.cl, finC, Nat.zero_add, Nat.add_zero, nth_s, nth_0, exI_s, w1, w2]
            rw [decT c1, condT, decT (by omega), condT, decT c3, condT]
            simp only [x1, x2]
            rw [length_eq s hz.mx.2 (by omega) (by omega) hb hR]
            simp only [exA_s, hne h hl, s.cl, finC, Nat.zero_add, Nat.add_zero, nth_s, nth_0, exI_s, exS_s']
            rw [decF (by omega), condF, beq_int]
            by_cases c5 : ((best.2 : Nat) : Int) = z.mx
            · rw [decT c5, condT, if_pos c5]
            · rw [decF c5, condF, if_neg c5, within_t (by omega) (by omega), cell_of s.pv, Int.toNat_natCast, Nat.mul_one, nth_i64s (by rw [prevL_len]; omega), exI_s, w3]
              have := prevL_at bs z.mn i (frm - 1) (by omega)
              rw [List.getD_eq_getElem?_getD, List.getElem?_eq_getElem (by rw [prevL_len]; omega)] at this
              simp only [Option.getD_some] at this
              rw [this]
          by_cases c5 : ((best.2 : Nat) : Int) = z.mx
          · exact ⟨_, .refl _ _, by rw [if_pos c5]; exact hl, fun β K => by rw [hstep, if_pos c5]⟩
          · obtain ⟨h2, k2, l2, e2⟩ := fat_loop hz hi hb hR y g1 g2 g3 g4 f n (prevF bs z.mn i (frm - 1)) (cnt + 1) best _ (by omega) (by omega) (by omega) s hl
            exact ⟨h2, k2, by rw [if_neg c5]; exact l2, fun β K => by rw [hstep, if_neg c5, e2]⟩
    · refine ⟨h, .refl _ _, by rw [atLoop_stop _ _ _ _ _ _ _ _ _ _ c]; exact hl, fun β K => ?_⟩
      rw [F_finder_finder_at_l0_succ]
      simp only [exA_s, s.cl, finC, Nat.zero_add, Nat.add_zero, nth_s, nth_0, exI_s, w1, w2]
      by_cases c1 : (cnt : Int) < z.ch
      · rw [decT c1, condT]
        by_cases c2 : 0 < frm
        · rw [decT (by omega), condT, decF (fun c3 => c ⟨c1, c2, c3⟩), condF]
        · rw [decF (by omega), condF]
      · rw [decF c1, condF]
theorem fat_eq {h : GH} {g m p : Nat} {b : Sl} {bs : List Int} {z : Shp} {q : Nat} (s : FSt h g m p b bs z q) (hz : ShOk z) {i : Nat} (hq : q ≤ i) (hi : i ≤ bs.length) (hb : bs.length ≤ 1000000000) {R : Nat} (hR : bs.length < R) :
    ∃ h', FSt h' g m p b bs z i ∧ Keep h h' [g, m, p] ∧ ∀ (β : Type) (K : Int → Int → Int → GH → Option β), F_finder_finder_at R (some ⟨g, 0, none⟩) (i : Nat) h K = K 0 (atSpec bs z.mn z.mx z.win z.ch i).1 (atSpec bs z.mn z.mx z.win z.ch i).2 h' := by
  have gl := look_lt s.fin
  have ml : m < h.next := by obtain ⟨es, e, _⟩ := s.mp; exact look_lt e
  have pl := look_lt s.pv
  have bl := s.rb.lt
  have k1 := keep_push h (tr 0 (0, 0)) []
  have k2 := k1.trans (keep_push _ (tr 0 (0, 0)) []) (by simp)
  have l3 : ((h.push (tr 0 (0, 0))).push (tr 0 (0, 0))).look h.next = some (tr 0 (0, 0)) := by rw [look_push_old (by simp [next_push]), look_push_new]
  have l5 : ((h.push (tr 0 (0, 0))).push (tr 0 (0, 0))).look (h.next + 1) = some (tr 0 (0, 0)) := look_push_new
  have s2 := s.keep0 k2
  obtain ⟨h3, s3, k3, e3⟩ := enter_eq s2 hz.mn hq hi hb hR
  obtain ⟨h4, k4, e4⟩ := key_eq s3 hz.mn (i := i) hi hb R
  have s4 := s3.keep0 k4
  obtain ⟨gk, h5, k5, n5, lk, e5⟩ := tmp_key h4 (kv bs z.mn i)
  have s5 := s4.keep0 k5
  have l35 : h5.look h.next = some (tr 0 (0, 0)) := k5.look (k4.look (k3.look l3 (by simp; omega)) (by simp)) (by simp)
  have l55 : h5.look (h.next + 1) = some (tr 0 (0, 0)) := k5.look (k4.look (k3.look l5 (by simp; omega)) (by simp)) (by simp)
  have k05 : Keep h h5 [g, m, p] := (((k2.mono (o1 := [g, m, p]) (by simp)).trans k3 (fun x hx => .inl hx)).trans k4 (by simp)).trans k5 (by simp)
  have ck : ∀ j, h5.cell ⟨gk, j, none⟩ = nth [Value.int .u8 (kv bs z.mn i).1, .int .u8 (kv bs z.mn i).2.1, .int .u8 (kv bs z.mn i).2.2] j := fun j => cell_of lk j
  have hm2 := hz.mn
  have e3' : ∀ (β : Type) (K : GH → Option β), F_finder_finder_enter R (some ⟨g, 0, none⟩) (i : Nat) ((h.push (.row ⟨[Value.int .u8 0, Value.int .i64 0, Value.int .i64 0], 0, false⟩)).push (.row ⟨[Value.int .u8 0, Value.int .i64 0, Value.int .i64 0], 0, false⟩)) K = K h3 := e3
  by_cases hv : (i : Int) + z.mn ≤ bs.length
  · have hkv : kv bs z.mn i = kk bs z.mn i := by rw [kv, if_pos hv]
    obtain ⟨es, hm, hes⟩ := s5.mp
    have hle := lastK_le bs z.mn (keyAt bs z.mn i) i
    obtain ⟨h6, k6, l6, e6⟩ := fat_loop hz hv hb hR (some ⟨h.next, 0, none⟩) (gb := h.next + 1) (by omega) (by omega) (by omega) (fun hx => by have := bl _ hx; omega) (i + 1) R (lastK bs z.mn (keyAt bs z.mn i) i) 0 (0, 0) h5 (by omega) hle (by omega) s5 l55
    have hat : atLoop bs z.mn z.mx z.win z.ch i (i + 1) (lastK bs z.mn (keyAt bs z.mn i) i) 0 (0, 0) = atSpec bs z.mn z.mx z.win z.ch i := by rw [atSpec, if_pos hv]
    rw [hat] at l6
    have s6 := s5.keep k6 (by simp; omega) (by simp; omega) (by simp; omega) (fun x hx => by have := bl _ hx; simp; omega)
    have l36 := k6.look l35 (by simp)
    have k7 := keep_put h6 h.next (some (tr 0 (atSpec bs z.mn z.mx z.win z.ch i)))
    refine ⟨h6.put h.next (some (tr 0 (atSpec bs z.mn z.mx z.win z.ch i))), s6.keep k7 (by simp; omega) (by simp; omega) (by simp; omega) (fun x hx => by have := bl _ hx; simp; omega), ((k05.trans k6 (fun x hx => .inr (by simp at hx; omega))).trans k7 (fun x hx => .inr (by simp at hx; omega))), fun β K => ?_⟩
    unfold F_finder_finder_at
    rw [F_finder_finder_at_gen, gnew_eq rfl, gnew_eq rfl, e3', e4, e5]
    simp only [next_push]
    have c6 : ∀ j, h6.cell ⟨h.next + 1, j, none⟩ = nth [.int .u8 0, .int .i64 ((atSpec bs z.mn z.mx z.win z.ch i).1 : Nat), .int .i64 ((atSpec bs z.mn z.mx z.win z.ch i).2 : Nat)] j := fun j => cell_of l6 j
    have c7 : ∀ j, (h6.put h.next (some (tr 0 (atSpec bs z.mn z.mx z.win z.ch i)))).cell ⟨h.next, j, none⟩ = nth [.int .u8 0, .int .i64 ((atSpec bs z.mn z.mx z.win z.ch i).1 : Nat), .int .i64 ((atSpec bs z.mn z.mx z.win z.ch i).2 : Nat)] j := fun j => cell_of (look_put_same (look_lt l36)) j
    rw [decT hv, notT, condF]
    simp only [exA_s, s5.cl, finC, Nat.zero_add, nth_s, nth_0, exI_s, exV_s, ck]
    have q1 := fun K => look_map (β := β) (t := 135) (by intro β k k' K; kernel_rfl) hm (kv bs z.mn i) K
    unfold keyV at q1
    rw [q1, hes, hkv, lst_kk]
    have e6' := e6 β
    simp only [Int.natCast_zero] at e6'
    erw [e6']
    simp only [exA_s, c6, Nat.zero_add, nth_s, nth_0, exI_s]
    rw [gput_eq l36 rfl (by simp)]
    have e7 : h6.put h.next (some (.row ⟨nlay [.int .u8 0, .int .i64 ((0 : Nat) : Nat), .int .i64 ((0 : Nat) : Nat)] 0 [.int .u8 0, .int .i64 ((atSpec bs z.mn z.mx z.win z.ch i).1 : Nat), .int .i64 ((atSpec bs z.mn z.mx z.win z.ch i).2 : Nat)], 0, false⟩)) = h6.put h.next (some (tr 0 (atSpec bs z.mn z.mx z.win z.ch i))) := rfl
    simp only [e7]
    simp only [exA_s, c7, Nat.zero_add, nth_s, nth_0, exI_s]
  · have hat : atSpec bs z.mn z.mx z.win z.ch i = (0, 0) := by rw [atSpec, if_neg hv]
    have k7 := keep_put h5 h.next (some (tr 0 (0, 0)))
    rw [hat]
    refine ⟨h5.put h.next (some (tr 0 (0, 0))), s5.keep k7 (by simp; omega) (by simp; omega) (by simp; omega) (fun x hx => by have := bl _ hx; simp; omega), k05.trans k7 (fun x hx => .inr (by simp at hx; omega)), fun β K => ?_⟩
    unfold F_finder_finder_at
    rw [F_finder_finder_at_gen, gnew_eq rfl, gnew_eq rfl, e3', e4, e5]
    simp only [next_push]
    have c5 : ∀ j, h5.cell ⟨h.next + 1, j, none⟩ = nth [.int .u8 0, .int .i64 0, .int .i64 0] j := fun j => cell_of l55 j
    have c7 : ∀ j, (h5.put h.next (some (tr 0 (0, 0)))).cell ⟨h.next, j, none⟩ = nth [.int .u8 0, .int .i64 0, .int .i64 0] j := fun j => cell_of (look_put_same (look_lt l35)) j
    rw [decF hv, notF, condT]
    simp only [exA_s, c5, Nat.zero_add, nth_s, nth_0, exI_s]
    rw [gput_eq l35 rfl (by simp)]
    have e7 : h5.put h.next (some (.row ⟨nlay [.int .u8 0, .int .i64 ((0 : Nat) : Nat), .int .i64 ((0 : Nat) : Nat)] 0 [.int .u8 0, .int .i64 0, .int .i64 0], 0, false⟩)) = h5.put h.next (some (tr 0 (0, 0))) := rfl
    simp only [e7]
    simp only [exA_s, c7, Nat.zero_add, nth_s, nth_0, exI_s]
    rfl
end Go.Proofs.Ytdmemmpkkibckaa.Gx

