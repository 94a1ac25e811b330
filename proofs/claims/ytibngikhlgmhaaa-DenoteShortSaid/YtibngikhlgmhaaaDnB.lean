/- What stands in memory while a record is read: a cursor, rows known cell for cell, pieces read. The program's sign, head. No condition. -/
import Derived.Test.YtibngikhlgmhaaaDnP
namespace Go.Proofs.Ytibngikhlgmhaaa.Gx
open Go
set_option linter.unusedVariables false
set_option linter.unusedSimpArgs false
structure CL (h0 h : GH) (gc : Nat) (s : Sl) (bs : List Int) (p t : Nat) (ls : List (Nat × List Value)) (qs : List (Sl × List Int)) : Prop where
  cur : CurT h gc s bs p t
  lt : ∀ k ∈ ownC gc s, k < h0.next
  loc : ∀ (i g : Nat) (cs : List Value), ls[i]? = some (g, cs) → h.look g = some (.row ⟨cs, 0, false⟩) ∧ h0.next ≤ g
  ne : ∀ (i j g : Nat) (cs : List Value) (g' : Nat) (cs' : List Value), ls[i]? = some (g, cs) → ls[j]? = some (g', cs') → i ≠ j → g ≠ g'
  sl : ∀ q vs, (q, vs) ∈ qs → Rd h q vs ∧ ∀ k ∈ rowsOf q, h0.next ≤ k ∧ ∀ (i g : Nat) (cs : List Value), ls[i]? = some (g, cs) → k ≠ g
  keep : Keep h0 h [gc]
section
variable {h0 h : GH} {gc : Nat} {s : Sl} {bs : List Int} {p t : Nat} {ls : List (Nat × List Value)} {qs : List (Sl × List Int)}
theorem CL.start (C : CurT h0 gc s bs p t) : CL h0 h0 gc s bs p t [] [] := ⟨C, C.lt, by simp, by simp, by simp, .refl _ _⟩
theorem CL.glt (c : CL h0 h gc s bs p t ls qs) : gc < h0.next := c.lt gc (by simp [ownC])
theorem CL.step (c : CL h0 h gc s bs p t ls qs) {h' : GH} {t' : Nat} (C : CurT h' gc s bs p t') (k : Keep h h' [gc]) : CL h0 h' gc s bs p t' ls qs := by
  have hg := c.glt
  refine ⟨C, c.lt, fun i g cs hi => ?_, c.ne, fun q vs hq => ?_, c.keep.trans k (fun x hx => .inl hx)⟩
  · obtain ⟨h1, h2⟩ := c.loc i g cs hi
    exact ⟨k.look h1 (by simp; omega), h2⟩
  · obtain ⟨h1, h2⟩ := c.sl q vs hq
    exact ⟨h1.keep k (fun x hx => by have := h2 x hx; simp; omega), h2⟩
theorem CL.drop (c : CL h0 h gc s bs p t ls qs) (n : Nat) : CL h0 h gc s bs p t (ls.take n) qs := by
  have hh : ∀ (i g : Nat) (cs : List Value), (ls.take n)[i]? = some (g, cs) → ls[i]? = some (g, cs) := fun i g cs hi => by
    rw [List.getElem?_take] at hi; split at hi
    · exact hi
    · cases hi
  exact ⟨c.cur, c.lt, fun i g cs hi => c.loc i g cs (hh _ _ _ hi), fun i j g cs g' cs' hi hj hij => c.ne i j g cs g' cs' (hh _ _ _ hi) (hh _ _ _ hj) hij, fun q vs hq => ⟨(c.sl q vs hq).1, fun k hk => ⟨((c.sl q vs hq).2 k hk).1, fun i g cs hi => ((c.sl q vs hq).2 k hk).2 i g cs (hh _ _ _ hi)⟩⟩, c.keep⟩
theorem CL.u16 (c : CL h0 h gc s bs p t ls qs) (h8 : B8 bs) (hm : bs.length ≤ 274877906944) {R : Nat} (hR : 8 < R) {t' : Nat} (e : t' = t + 2) : ∃ h' v, (∀ (β : Type) (K : Int → GH → Option β), F_field_Cursor_U16 R (some ⟨gc, 0, none⟩) h K = K v h') ∧ CL h0 h' gc s bs p t' ls qs ∧ (0 ≤ v ∧ v ≤ 65535) ∧ (p + t' ≤ bs.length → v = fld bs (p + t) 2) := by
  subst e
  obtain ⟨h', v, e1, C1, k1, b1, v1⟩ := c.cur.u16 h8 hm hR
  exact ⟨h', v, e1, c.step C1 k1, b1, fun q => v1 (by omega)⟩
theorem CL.u32 (c : CL h0 h gc s bs p t ls qs) (h8 : B8 bs) (hm : bs.length ≤ 274877906944) {R : Nat} (hR : 8 < R) {t' : Nat} (e : t' = t + 4) : ∃ h' v, (∀ (β : Type) (K : Int → GH → Option β), F_field_Cursor_U32 R (some ⟨gc, 0, none⟩) h K = K v h') ∧ CL h0 h' gc s bs p t' ls qs ∧ (0 ≤ v ∧ v ≤ 4294967295) ∧ (p + t' ≤ bs.length → v = fld bs (p + t) 4) := by
  subst e
  obtain ⟨h', v, e1, C1, k1, b1, v1⟩ := c.cur.u32 h8 hm hR
  exact ⟨h', v, e1, c.step C1 k1, b1, fun q => v1 (by omega)⟩
theorem CL.bytes (c : CL h0 h gc s bs p t ls qs) (hm : bs.length ≤ 274877906944) {n : Int} (hn : 0 ≤ n) (R : Nat) : ∃ h' q vs, (∀ (β : Type) (K : Sl → GH → Option β), F_field_Cursor_Bytes R (some ⟨gc, 0, none⟩) n h K = K q h') ∧ CL h0 h' gc s bs p (t + n.toNat) ls ((q, vs) :: qs) ∧ (p + (t + n.toNat) ≤ bs.length → vs = cutL bs (p + t) n.toNat) := by
  obtain ⟨h', q, vs, e1, C1, v1, k1, n1, w1⟩ := c.cur.bytes hm n.toNat R
  have hg := c.glt
  have c1 := c.step C1 k1
  have hk := c.keep.1
  refine ⟨h', q, vs, by rw [Int.toNat_of_nonneg hn] at e1; exact e1, ⟨C1, c1.lt, c1.loc, c1.ne, fun q' vs' hq => ?_, c1.keep⟩, fun q => w1 (by omega)⟩
  rcases List.mem_cons.1 hq with e | e
  · cases e
    refine ⟨v1.row, fun k hk2 => ⟨by have := n1 k hk2; omega, fun i g cs hi => ?_⟩⟩
    have h1 := look_lt (c.loc i g cs hi).1
    have := n1 k hk2
    omega
  · exact c1.sl q' vs' e
theorem CL.new (c : CL h0 h gc s bs p t ls qs) (cs : List Value) (ha : allCells cs = true) : ∃ h' g, (∀ (β : Type) (K : Nat → GH → Option β), gnew cs 0 h K = K g h') ∧ CL h0 h' gc s bs p t (ls ++ [(g, cs)]) qs := by
  have k := keep_push h (.row ⟨cs, 0, false⟩) []
  have hk := c.keep.1
  refine ⟨h.push (.row ⟨cs, 0, false⟩), h.next, fun β K => gnew_eq ha K, ⟨c.cur.keep k (by simp), c.lt, fun i g cs' hi => ?_, fun i j g cs' g' cs'' hi hj hij => ?_, fun q vs hq => ?_, c.keep.trans k (by simp)⟩⟩
  · rw [List.getElem?_append] at hi
    split at hi
    · exact ⟨k.look (c.loc i g cs' hi).1 (by simp), (c.loc i g cs' hi).2⟩
    · rw [List.getElem?_singleton] at hi
      split at hi
      · cases hi; exact ⟨look_push_new, hk⟩
      · cases hi
  · rw [List.getElem?_append] at hi hj
    split at hi <;> split at hj
    · exact c.ne i j g cs' g' cs'' hi hj hij
    · rw [List.getElem?_singleton] at hj
      split at hj
      · cases hj; have := look_lt (c.loc i g cs' hi).1; omega
      · cases hj
    · rw [List.getElem?_singleton] at hi
      split at hi
      · cases hi; have := look_lt (c.loc j g' cs'' hj).1; omega
      · cases hi
    · rw [List.getElem?_singleton] at hi hj
      split at hi
      · split at hj
        · omega
        · cases hj
      · cases hi
  · obtain ⟨h1, h2⟩ := c.sl q vs hq
    refine ⟨h1.keep k (by simp), fun x hx => ⟨(h2 x hx).1, fun i g cs' hi => ?_⟩⟩
    rw [List.getElem?_append] at hi
    split at hi
    · exact (h2 x hx).2 i g cs' hi
    · rw [List.getElem?_singleton] at hi
      split at hi
      · cases hi; have := h1.lt x hx; omega
      · cases hi
theorem CL.put (c : CL h0 h gc s bs p t ls qs) (i : Nat) {g : Nat} {cs : List Value} (hi : ls[i]? = some (g, cs)) (o : Nat) (vs cs' : List Value) (ha : allCells vs = true) (hle : o + vs.length ≤ cs.length) (hc : nlay cs o vs = cs') : ∃ h', (∀ (β : Type) (K : GH → Option β), gput g o vs h K = K h') ∧ CL h0 h' gc s bs p t (ls.set i (g, cs')) qs := by
  have hl := (c.loc i g cs hi).1
  have hB := (c.loc i g cs hi).2
  have k := keep_put h g (some (.row ⟨cs', 0, false⟩))
  have hg := c.glt
  have old : ∀ (j g' : Nat) (cs'' : List Value), (ls.set i (g, cs'))[j]? = some (g', cs'') → (j = i ∧ g' = g ∧ cs'' = cs') ∨ (j ≠ i ∧ ls[j]? = some (g', cs'')) := fun j g' cs'' hj => by
    rw [List.getElem?_set] at hj
    split at hj
    · rename_i e
      split at hj
      · cases hj; exact .inl ⟨e.symm, rfl, rfl⟩
      · cases hj
    · rename_i e; exact .inr ⟨Ne.symm e, hj⟩
  refine ⟨h.put g (some (.row ⟨cs', 0, false⟩)), fun β K => by rw [gput_eq hl ha hle, hc], ⟨c.cur.keep k (fun x hx => by have := c.lt x hx; simp; omega), c.lt, fun j g' cs'' hj => ?_, fun j j' g' cs'' g'' cs3 hj hj' hjj => ?_, fun q vs hq => ?_, c.keep.trans k (fun x hx => .inr (by simp at hx; omega))⟩⟩
  · rcases old j g' cs'' hj with ⟨rfl, rfl, rfl⟩ | ⟨e, hj⟩
    · exact ⟨look_put_same (look_lt hl), hB⟩
    · exact ⟨k.look (c.loc j g' cs'' hj).1 (by simp; exact c.ne j i g' cs'' g cs hj hi e), (c.loc j g' cs'' hj).2⟩
  · rcases old j g' cs'' hj with ⟨rfl, rfl, rfl⟩ | ⟨e, ha1⟩
    · rcases old j' g'' cs3 hj' with ⟨rfl, _, _⟩ | ⟨e', ha2⟩
      · exact absurd rfl hjj
      · exact c.ne j j' g' cs g'' cs3 hi ha2 hjj
    · rcases old j' g'' cs3 hj' with ⟨rfl, rfl, rfl⟩ | ⟨e', ha2⟩
      · exact c.ne j j' g' cs'' g'' cs ha1 hi hjj
      · exact c.ne j j' g' cs'' g'' cs3 ha1 ha2 hjj
  · obtain ⟨h1, h2⟩ := c.sl q vs hq
    refine ⟨h1.keep k (fun x hx => by have := (h2 x hx).2 i g cs hi; simpa using this), fun x hx => ⟨(h2 x hx).1, fun j g' cs'' hj => ?_⟩⟩
    rcases old j g' cs'' hj with ⟨rfl, rfl, rfl⟩ | ⟨e, hj⟩
    · exact (h2 x hx).2 j g' cs hi
    · exact (h2 x hx).2 j g' cs'' hj
theorem CL.err (c : CL h0 h gc s bs p t ls qs) (R : Nat) {β : Type} (K : Int → GH → Option β) : F_field_Cursor_Err R (some ⟨gc, 0, none⟩) h K = K (if p + t ≤ bs.length then 0 else 3) h := c.cur.err R K
theorem CL.cell (c : CL h0 h gc s bs p t ls qs) (i : Nat) {g : Nat} {cs : List Value} (hi : ls[i]? = some (g, cs)) (o : Nat) : h.cell ⟨g, o, none⟩ = nth cs o := cell_of (c.loc i g cs hi).1 o
/-! ### how a record begins -/
theorem CL.sign (c : CL h0 h gc s bs p 0 ls qs) (h8 : B8 bs) (hm : bs.length ≤ 274877906944) {R : Nat} (hR : 8 < R) (want : Int) : ∃ h', (∀ (β : Type) (K : Int → GH → Option β), F_record_sign R (some ⟨gc, 0, none⟩) want h K = K (sigErr bs p want) h') ∧ CL h0 h' gc s bs p 4 ls qs := by
  obtain ⟨h1, v, e1, c1, b1, w1⟩ := c.u32 h8 hm hR (t' := 4) rfl
  refine ⟨h1, fun β K => ?_, c1⟩
  unfold F_record_sign sigErr
  rw [F_record_sign_gen, e1, c1.err]
  by_cases q : p + 4 ≤ bs.length
  · rw [if_pos q, bne_self_eq_false, condF, if_neg (by omega), w1 q, Nat.add_zero]
    by_cases q2 : fld bs p 4 = want
    · rw [q2, bne_self_eq_false, condF, if_neg (by simp)]
    · rw [bne_iff_ne.2 q2, condT, if_pos q2]
  · rw [if_neg q, bne_iff_ne.2 (by omega), condT, c1.err, if_neg q, if_pos (by omega)]
/-! ### what both headers have -/
theorem CL.head (c : CL h0 h gc s bs p t ls qs) (h8 : B8 bs) (hm : bs.length ≤ 274877906944) {R : Nat} (hR : 8 < R) {t' : Nat} (e : t' = t + 26) : ∃ h' v1 v2 v3 v4 v5 v6 v7 v8 v9 v10, (∀ (β : Type) (K : Int → Int → Int → Int → Int → Int → Int → Int → Sl → Sl → Int → Int → Int → GH → Option β), F_record_head R (some ⟨gc, 0, none⟩) h K = K v1 v2 v3 v4 v5 v6 v7 v8 ⟨none, 0, 0⟩ ⟨none, 0, 0⟩ v9 v10 0 h') ∧ CL h0 h' gc s bs p t' ls qs ∧ (0 ≤ v9 ∧ v9 ≤ 65535) ∧ (0 ≤ v10 ∧ v10 ≤ 65535) ∧
    (p + t' ≤ bs.length → v1 = fld bs (p + t) 2 ∧ v2 = fld bs (p + (t + 2)) 2 ∧ v3 = fld bs (p + (t + 4)) 2 ∧ v4 = fld bs (p + (t + 6)) 2 ∧ v5 = fld bs (p + (t + 8)) 2 ∧ v6 = fld bs (p + (t + 10)) 4 ∧ v7 = fld bs (p + (t + 14)) 4 ∧ v8 = fld bs (p + (t + 18)) 4 ∧ v9 = fld bs (p + (t + 22)) 2 ∧ v10 = fld bs (p + (t + 24)) 2) := by
  obtain ⟨h1, g1, e1, c1⟩ := c.new [Value.int .i64 0, Value.int .i64 0, Value.int .i64 0, Value.int .i64 0, Value.int .i64 0, Value.int .u32 0, Value.int .u32 0, Value.int .u32 0, Value.slice none 0 0, Value.slice none 0 0] rfl
  obtain ⟨h2, g2, e2, c2⟩ := c1.new [Value.int .i64 0, Value.int .i64 0, Value.int .i64 0] rfl
  obtain ⟨h3, v1, e3, c3, b1, w1⟩ := c2.u16 h8 hm hR (t' := t + 2) rfl
  obtain ⟨h4, v2, e4, c4, b2, w2⟩ := c3.u16 h8 hm hR (t' := t + 4) rfl
  obtain ⟨h5, v3, e5, c5, b3, w3⟩ := c4.u16 h8 hm hR (t' := t + 6) rfl
  obtain ⟨h6, v4, e6, c6, b4, w4⟩ := c5.u16 h8 hm hR (t' := t + 8) rfl
  obtain ⟨h7, v5, e7, c7, b5, w5⟩ := c6.u16 h8 hm hR (t' := t + 10) rfl
  obtain ⟨h8', g3, e8, c8⟩ := c7.new [Value.int .i64 0, Value.int .i64 0, Value.int .i64 0, Value.int .i64 0, Value.int .i64 0, Value.int .u32 0, Value.int .u32 0, Value.int .u32 0, Value.slice none 0 0, Value.slice none 0 0] rfl
  have i1 : ∀ x1 x2 x3 : Nat × List Value, (ls ++ [x1] ++ [x2] ++ [x3])[ls.length]? = some x1 := fun x1 x2 x3 => by simp
  have i2 : ∀ x1 x2 x3 : Nat × List Value, (ls ++ [x1] ++ [x2] ++ [x3])[ls.length + 1]? = some x2 := fun x1 x2 x3 => by simp
  have i3 : ∀ x1 x2 x3 : Nat × List Value, (ls ++ [x1] ++ [x2] ++ [x3])[ls.length + 2]? = some x3 := fun x1 x2 x3 => by simp
  have s1 : ∀ x1 x2 x3 y : Nat × List Value, (ls ++ [x1] ++ [x2] ++ [x3]).set ls.length y = ls ++ [y] ++ [x2] ++ [x3] := fun x1 x2 x3 y => by simp
  have s2 : ∀ x1 x2 x3 y : Nat × List Value, (ls ++ [x1] ++ [x2] ++ [x3]).set (ls.length + 1) y = ls ++ [x1] ++ [y] ++ [x3] := fun x1 x2 x3 y => by simp
  have s3 : ∀ x1 x2 x3 y : Nat × List Value, (ls ++ [x1] ++ [x2] ++ [x3]).set (ls.length + 2) y = ls ++ [x1] ++ [x2] ++ [y] := fun x1 x2 x3 y => by simp
  obtain ⟨h9, e9, c9⟩ := c8.put (ls.length + 2) (i3 _ _ _) 0 [Value.int .i64 v1, Value.int .i64 v2, Value.int .i64 v3, Value.int .i64 v4, Value.int .i64 v5, Value.int .u32 0, Value.int .u32 0, Value.int .u32 0, Value.slice none 0 0, Value.slice none 0 0] _ rfl (by simp) rfl
  rw [s3] at c9
  obtain ⟨h10, v6, e10, c10, b6, w6⟩ := c9.u32 h8 hm hR (t' := t + 14) rfl
  obtain ⟨h11, v7, e11, c11, b7, w7⟩ := c10.u32 h8 hm hR (t' := t + 18) rfl
  obtain ⟨h12, v8, e12, c12, b8, w8⟩ := c11.u32 h8 hm hR (t' := t + 22) rfl
  obtain ⟨h13, e13, c13⟩ := c12.put (ls.length + 2) (i3 _ _ _) (0 + 5) [Value.int .u32 v6] _ rfl (by simp [nlay_def]) rfl
  rw [s3] at c13
  obtain ⟨h14, e14, c14⟩ := c13.put (ls.length + 2) (i3 _ _ _) (0 + 6) [Value.int .u32 v7] _ rfl (by simp [nlay_def]) rfl
  rw [s3] at c14
  obtain ⟨h15, e15, c15⟩ := c14.put (ls.length + 2) (i3 _ _ _) (0 + 7) [Value.int .u32 v8] [Value.int .i64 v1, Value.int .i64 v2, Value.int .i64 v3, Value.int .i64 v4, Value.int .i64 v5, Value.int .u32 v6, Value.int .u32 v7, Value.int .u32 v8, Value.slice none 0 0, Value.slice none 0 0] rfl (by simp [nlay_def]) rfl
  rw [s3] at c15
  obtain ⟨h16, v9, e16, c16, b9, w9⟩ := c15.u16 h8 hm hR (t' := t + 24) rfl
  obtain ⟨h17, v10, e17, c17, b10, w10⟩ := c16.u16 h8 hm hR (t' := t + 26) rfl
  obtain ⟨h18, e18, c18⟩ := c17.put ls.length (i1 _ _ _) 0 [Value.int .i64 v1, Value.int .i64 v2, Value.int .i64 v3, Value.int .i64 v4, Value.int .i64 v5, Value.int .u32 v6, Value.int .u32 v7, Value.int .u32 v8, Value.slice none 0 0, Value.slice none 0 0] [Value.int .i64 v1, Value.int .i64 v2, Value.int .i64 v3, Value.int .i64 v4, Value.int .i64 v5, Value.int .u32 v6, Value.int .u32 v7, Value.int .u32 v8, Value.slice none 0 0, Value.slice none 0 0] rfl (by simp) rfl
  rw [s1] at c18
  obtain ⟨h19, e19, c19⟩ := c18.put (ls.length + 1) (i2 _ _ _) 0 [Value.int .i64 v9, Value.int .i64 v10, Value.int .i64 0] [Value.int .i64 v9, Value.int .i64 v10, Value.int .i64 0] rfl (by simp) rfl
  rw [s2] at c19
  have hd := c19.drop ls.length
  rw [show (ls ++ [(g1, [Value.int .i64 v1, Value.int .i64 v2, Value.int .i64 v3, Value.int .i64 v4, Value.int .i64 v5, Value.int .u32 v6, Value.int .u32 v7, Value.int .u32 v8, Value.slice none 0 0, Value.slice none 0 0])] ++ [(g2, [Value.int .i64 v9, Value.int .i64 v10, Value.int .i64 0])] ++ [(g3, [Value.int .i64 v1, Value.int .i64 v2, Value.int .i64 v3, Value.int .i64 v4, Value.int .i64 v5, Value.int .u32 v6, Value.int .u32 v7, Value.int .u32 v8, Value.slice none 0 0, Value.slice none 0 0])]).take ls.length = ls by simp] at hd
  subst e
  refine ⟨h19, v1, v2, v3, v4, v5, v6, v7, v8, v9, v10, fun β K => ?_, hd, b9, b10, fun q => ⟨w1 (by omega), w2 (by omega), w3 (by omega), w4 (by omega), w5 (by omega), w6 (by omega), w7 (by omega), w8 (by omega), w9 (by omega), w10 (by omega)⟩⟩
  unfold F_record_head
  rw [F_record_head_gen, e1, e2, e3, e4, e5, e6, e7, e8, e9, e10, e11, e12, e13, e14, e15]
  have d15 := fun o => c15.cell (ls.length + 2) (i3 _ _ _) o
  have d16 := fun o => c16.cell (ls.length + 2) (i3 _ _ _) o
  have d17 := fun o => c17.cell (ls.length + 2) (i3 _ _ _) o
  have d1 := fun o => c19.cell ls.length (i1 _ _ _) o
  have d2 := fun o => c19.cell (ls.length + 1) (i2 _ _ _) o
  simp only [d15, Nat.zero_add, Nat.reduceAdd, nth_s, nth_0, exI_s, exS_s']
  rw [e16, e17, e18, e19]
  have sA : sameAt g3 0 10 h16 h17 = true := by simp only [sameAt, d16, d17, Nat.zero_add, Nat.reduceAdd, nth_s, nth_0, veqO_i, veqO_s, Bool.and_true]
  have sB : sameAt g3 0 10 h15 h16 = true := by simp only [sameAt, d15, d16, Nat.zero_add, Nat.reduceAdd, nth_s, nth_0, veqO_i, veqO_s, Bool.and_true]
  rw [sA, condT, sB, condT]
  simp only [d1, d2, nth_s, nth_0, exI_s, exS_s']
end
end Go.Proofs.Ytibngikhlgmhaaa.Gx

