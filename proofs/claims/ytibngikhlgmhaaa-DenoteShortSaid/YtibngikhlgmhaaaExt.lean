/- Fields of an extra field, the program's and the document's: which numbers they have, or that they are none. No condition. -/
import Derived.Test.YtibngikhlgmhaaaCur
namespace Go.Proofs.Ytibngikhlgmhaaa.Gx
open Go
set_option linter.unusedVariables false
/-- the numbers of the fields, or none -/
def idsP : Nat → List Int → Option (List Int)
  | 0, _ => none
  | f + 1, bs => if bs.length = 0 then some [] else if bs.length < 4 then none else
      if le ((bs.drop 2).take 2) > bs.length - 4 then none else (idsP f (bs.drop (4 + (le ((bs.drop 2).take 2)).toNat))).map (le (bs.take 2) :: ·)
/-- a list of fields, of which the numbers are told -/
structure Flds (h : GH) (s : Sl) (ids : List Int) : Prop where
  n : s.n = ids.length
  vec : ∃ cs, Vec h s 2 cs ∧ ∀ i (hi : i < ids.length), cs[i * 2]? = some (.int .i64 ids[i]) ∧ ∃ q : Sl, cs[i * 2 + 1]? = some (.slice q.a q.n q.c)
theorem Flds.nil {h : GH} : Flds h ⟨none, 0, 0⟩ [] := ⟨rfl, [], Vec.nil, fun i hi => by simp at hi⟩
theorem Flds.keep {h h' : GH} {s : Sl} {ids : List Int} {own : List Nat} (f : Flds h s ids) (k : Keep h h' own) (hd : ∀ x ∈ rowsOf s, x ∉ own) : Flds h' s ids := by
  obtain ⟨cs, v, hc⟩ := f.vec
  exact ⟨f.n, cs, v.keep k hd, hc⟩
theorem Flds.lt {h : GH} {s : Sl} {ids : List Int} (f : Flds h s ids) : ∀ k ∈ rowsOf s, k < h.next := by
  obtain ⟨cs, v, hc⟩ := f.vec
  exact v.lt
theorem Flds.add {h : GH} {s : Sl} {ids : List Int} (f : Flds h s ids) (id : Int) (q : Sl) (hm : ids.length ≤ 274877906) :
    ∃ h' s', (∀ (β : Type) (K : Sl → GH → Option β), (gnew [Value.int .i64 id, Value.slice q.a q.n q.c] 2 h fun g h1 => gappS 2 32 s ⟨(some ⟨g, 0, none⟩), 1, 1⟩ h1 K) = K s' h') ∧ Flds h' s' (ids ++ [id]) ∧ Keep h h' (rowsOf s) ∧ (∀ k ∈ rowsOf s', k ∈ rowsOf s ∨ h.next ≤ k) := by
  obtain ⟨cs, v, hc⟩ := f.vec
  have hn := f.n
  obtain ⟨h', s', e, v', k, n, l⟩ := app_one' (by_ := 32) v [Value.int .i64 id, Value.slice q.a q.n q.c] rfl (by omega) rfl (by rw [hn]; simp [most]; omega)
  refine ⟨h', s', e, ⟨by rw [l, hn]; simp, _, v', fun i hi => ?_⟩, k, n⟩
  have hl := v.len
  rw [hn] at hl
  by_cases h1 : i < ids.length
  · rw [List.getElem?_append_left (by omega), List.getElem?_append_left (by omega), List.getElem_append_left h1]
    exact hc i h1
  · obtain rfl : i = ids.length := by simp at hi; omega
    rw [List.getElem?_append_right (by omega), List.getElem?_append_right (by omega), show ids.length * 2 - cs.length = 0 by omega, show ids.length * 2 + 1 - cs.length = 1 by omega]
    exact ⟨by simp, q, rfl⟩
/-- three pieces taken: two numbers, and as many bytes as the second one says -/
theorem three {bs : List Int} (h8 : B8 bs) {at_ : Nat} (hat : at_ ≤ bs.length) :
    ∀ n a1 e1 a2 e2, (takeP bs at_ 0 2).2 = (a1, e1) → n = le (takeP bs a1 e1 2).1 → (takeP bs a1 e1 2).2 = (a2, e2) →
    (0 < bs.length - at_ ∧ ((bs.length - at_ < 4 ∨ n > ((bs.length - at_ : Nat) : Int) - 4) → (takeP bs a2 e2 n).2.2 = 3) ∨ bs.length - at_ = 0 ∨ 4 ≤ bs.length - at_) ∧
    (4 ≤ bs.length - at_ → n = le (((bs.drop at_).drop 2).take 2) ∧ (takeP bs at_ 0 2).1 = (bs.drop at_).take 2 ∧ 0 ≤ n ∧
      ((n > ((bs.length - at_ : Nat) : Int) - 4 → (takeP bs a2 e2 n).2.2 = 3) ∧ (¬ n > ((bs.length - at_ : Nat) : Int) - 4 → (takeP bs a2 e2 n).2 = (((at_ + (4 + n.toNat) : Nat) : Int), 0)))) := by
  intro n a1 e1 a2 e2 h1 hn h2
  have hpos : 0 ≤ n := by rw [hn]; exact (le_take h8 2 (by omega)).1
  by_cases hs2 : bs.length - at_ < 2
  · have q1 : takeP bs at_ 0 2 = ([], (at_ : Int), 3) := by simp only [takeP]; rw [if_neg (by simp), if_neg (by omega), if_pos (by omega)]
    rw [q1] at h1; cases h1
    have q2 : takeP bs at_ 3 2 = ([], (at_ : Int), 3) := by simp [takeP]
    rw [q2] at h2 hn; cases h2
    have q3 : takeP bs at_ 3 n = ([], (at_ : Int), 3) := by simp [takeP]
    refine ⟨?_, fun h => by omega⟩
    by_cases h0 : bs.length - at_ = 0
    · exact .inr (.inl h0)
    · exact .inl ⟨by omega, fun _ => by rw [q3]⟩
  · have q1 : takeP bs at_ 0 2 = ((bs.drop at_).take 2, (at_ : Int) + 2, 0) := by
      simp only [takeP]; rw [if_neg (by simp), if_neg (by omega), if_neg (by omega)]; simp
    rw [q1] at h1; cases h1
    by_cases hs4 : bs.length - at_ < 4
    · have q2 : takeP bs ((at_ : Int) + 2) 0 2 = ([], (at_ : Int) + 2, 3) := by simp only [takeP]; rw [if_neg (by simp), if_neg (by omega), if_pos (by omega)]
      rw [q2] at h2 hn; cases h2
      have q3 : takeP bs ((at_ : Int) + 2) 3 n = ([], (at_ : Int) + 2, 3) := by simp [takeP]
      exact ⟨.inl ⟨by omega, fun _ => by rw [q3]⟩, fun h => by omega⟩
    · have q2 : takeP bs ((at_ : Int) + 2) 0 2 = (((bs.drop at_).drop 2).take 2, (at_ : Int) + 4, 0) := by
        simp only [takeP]; rw [if_neg (by simp), if_neg (by omega), if_neg (by omega)]
        rw [List.drop_drop, show ((at_ : Int) + 2).toNat = at_ + 2 by omega, show (at_ : Int) + 2 + 2 = (at_ : Int) + 4 by omega]; rfl
      rw [q2] at h2 hn; cases h2
      refine ⟨.inr (.inr (by omega)), fun _ => ⟨hn, by rw [q1], hpos, fun hb => ?_, fun hb => ?_⟩⟩
      · simp only [takeP]; rw [if_neg (by simp), if_neg (by omega), if_pos (by omega)]
      · simp only [takeP]; rw [if_neg (by simp), if_neg (by omega), if_neg (by omega)]
        show ((at_ : Int) + 4 + n, (0 : Int)) = _
        congr 1; omega
section
variable {h : GH} {g : Nat} {s : Sl} {bs : List Int}
theorem extra_loop (h8 : B8 bs) (hm : bs.length ≤ 2000000) {R : Nat} (hR : 8 < R) : ∀ (f n : Nat) {h : GH} {out : Sl} {at_ : Nat} {ids : List Int}, Cur h g s bs at_ 0 → at_ ≤ bs.length → bs.length - at_ < f → f < n → Flds h out ids → ids.length ≤ at_ → (∀ k ∈ rowsOf out, k ∉ ownC g s) →
    ∃ h' q, Keep h h' (g :: rowsOf out) ∧ (∀ k ∈ rowsOf q, k ∈ rowsOf out ∨ h.next ≤ k) ∧ (match idsP f (bs.drop at_) with
      | some l => Flds h' q (ids ++ l) ∧ ∀ (β : Type) (K0 : Sl → GH → Option β) (Kr : Sl → Int → GH → Option β), F_extra_Read_l0 (F_field_Open R) (F_field_Cursor_Left R) (F_field_Cursor_U16 R) (F_field_Cursor_Bytes R) (F_field_Cursor_Err R) R n out (some ⟨g, 0, none⟩) h K0 Kr = K0 q h'
      | none => ∀ (β : Type) (K0 : Sl → GH → Option β) (Kr : Sl → Int → GH → Option β), F_extra_Read_l0 (F_field_Open R) (F_field_Cursor_Left R) (F_field_Cursor_U16 R) (F_field_Cursor_Bytes R) (F_field_Cursor_Err R) R n out (some ⟨g, 0, none⟩) h K0 Kr = Kr ⟨none, 0, 0⟩ 3 h')
  | 0, n, h, out, at_, ids, C, hat, hf, hn, F, hi, hd => by omega
  | f + 1, n, h, out, at_, ids, C, hat, hf, hn, F, hi, hd => by
    obtain ⟨n, rfl⟩ : ∃ k, n = k + 1 := ⟨n - 1, by omega⟩
    have hleft : leftP bs.length at_ 0 = ((bs.length - at_ : Nat) : Int) := by rw [leftP, if_pos rfl]; omega
    by_cases h0 : bs.length - at_ = 0
    · refine ⟨h, out, .refl _ _, fun k hk => .inl hk, ?_⟩
      have : idsP (f + 1) (bs.drop at_) = some [] := by simp [idsP, h0]
      rw [this]
      refine ⟨by simpa using F, fun β K0 Kr => ?_⟩
      rw [F_extra_Read_l0_succ, left_cur C ⟨by omega, by omega⟩ (by omega), hleft, decF (by omega), condF]
    · obtain ⟨h1, e1, C1, k1⟩ := u16_cur C h8 ⟨by omega, by omega⟩ (by omega) hR
      have b1 := takeP_at (bs := bs) (at_ := (at_ : Int)) (err := 0) (n := 2) ⟨by omega, by omega⟩
      obtain ⟨h2, e2, C2, k2⟩ := u16_cur C1 h8 b1 (by omega) hR
      have b2 := takeP_at (bs := bs) (err := (takeP bs at_ 0 2).2.2) (n := 2) b1
      obtain ⟨h3, q3, e3, C3, v3, k3, n3⟩ := bytes_cur C2 b2 (by omega) (le (takeP bs (takeP bs at_ 0 2).2.1 (takeP bs at_ 0 2).2.2 2).1) R
      obtain ⟨t1, t2⟩ := three h8 hat _ _ _ _ _ rfl rfl rfl
      have k123 : Keep h h3 [g] := (k1.trans k2 fun _ h => .inl h).trans k3 fun _ h => .inl h
      have start : ∀ (β : Type) (K0 : Sl → GH → Option β) (Kr : Sl → Int → GH → Option β), F_extra_Read_l0 (F_field_Open R) (F_field_Cursor_Left R) (F_field_Cursor_U16 R) (F_field_Cursor_Bytes R) (F_field_Cursor_Err R) R (n + 1) out (some ⟨g, 0, none⟩) h K0 Kr = _ := fun β K0 Kr => by
        rw [F_extra_Read_l0_succ, left_cur C ⟨by omega, by omega⟩ (by omega), hleft, decT (by omega), condT, e1, e2, e3, err_cur C3]
      generalize hN : le (takeP bs (takeP bs at_ 0 2).2.1 (takeP bs at_ 0 2).2.2 2).1 = N at *
      by_cases hbad : bs.length - at_ < 4 ∨ N > ((bs.length - at_ : Nat) : Int) - 4
      · have h33 : (takeP bs (takeP bs (takeP bs at_ 0 2).2.1 (takeP bs at_ 0 2).2.2 2).2.1 (takeP bs (takeP bs at_ 0 2).2.1 (takeP bs at_ 0 2).2.2 2).2.2 N).2.2 = 3 := by
          rcases t1 with h | h | h
          · exact h.2 hbad
          · omega
          · exact (t2 h).2.2.2.1 (hbad.resolve_left (by omega))
        have hids : idsP (f + 1) (bs.drop at_) = none := by
          rw [idsP, List.length_drop, if_neg h0]
          by_cases h4 : bs.length - at_ < 4
          · rw [if_pos h4]
          · rw [if_neg h4, if_pos]
            rw [← (t2 (by omega)).1]; exact hbad.resolve_left h4
        refine ⟨h3, ⟨none, 0, 0⟩, k123.mono (by simp), by simp [rowsOf], ?_⟩
        rw [hids]
        intro β K0 Kr
        rw [start, h33]; rfl
      · have h4 : 4 ≤ bs.length - at_ := by omega
        obtain ⟨u1, u2, u3, _, u4⟩ := t2 h4
        have u4 := u4 (fun h => hbad (.inr h))
        rw [u4] at C3
        have F3 := F.keep k123 fun x hx hm => hd x hx (by simp at hm; simp [ownC, hm])
        obtain ⟨h5, q5, e5, F5, k5, n5⟩ := F3.add (le (takeP bs at_ 0 2).1) q3 (by omega)
        have hd3 : ∀ x ∈ ownC g s, x ∉ rowsOf out := fun x hx hm => hd x hm hx
        have C5 := C3.keep k5 hd3
        obtain ⟨h6, q6, k6, n6, hrest⟩ := extra_loop h8 hm hR f n (at_ := at_ + (4 + N.toNat)) C5 (by omega) (by omega) (by omega) F5 (by simp; omega) (fun k hk hc => by
          rcases n5 k hk with h | h
          · exact hd k h hc
          · have := C3.lt k hc; omega)
        refine ⟨h6, q6, ⟨by have := k123.1; have := k5.1; have := k6.1; omega, fun x hx hm => ?_⟩, fun k hk => ?_, ?_⟩
        · simp only [List.mem_cons, not_or] at hm
          rw [k6.2 x (by have := k123.1; have := k5.1; omega) (by
            simp only [List.mem_cons, not_or]
            refine ⟨hm.1, fun h => ?_⟩
            rcases n5 x h with h | h
            · exact hm.2 h
            · have := k123.1; omega), k5.2 x (by have := k123.1; omega) hm.2, k123.2 x hx (by simp [hm.1])]
        · rcases n6 k hk with h | h
          · rcases n5 k h with h | h
            · exact .inl h
            · right; have := k123.1; omega
          · right; have := k123.1; have := k5.1; omega
        · have hids : idsP (f + 1) (bs.drop at_) = (idsP f (bs.drop (at_ + (4 + N.toNat)))).map (le (takeP bs at_ 0 2).1 :: ·) := by
            rw [idsP, List.length_drop, if_neg h0, if_neg (by omega), ← u1, if_neg (fun h => hbad (.inr (by omega))), List.drop_drop, u2]
          rw [hids]
          have h00 : (0 : Int) = 0 := rfl
          cases hq : idsP f (bs.drop (at_ + (4 + N.toNat))) with
          | none =>
            rw [hq] at hrest
            intro β K0 Kr
            rw [start, u4, bne_self_eq_false, condF, e5]
            exact hrest β K0 Kr
          | some l =>
            rw [hq] at hrest
            refine ⟨by simpa using hrest.1, fun β K0 Kr => ?_⟩
            rw [start, u4, bne_self_eq_false, condF, e5]
            exact hrest.2 β K0 Kr
end
end Go.Proofs.Ytibngikhlgmhaaa.Gx

