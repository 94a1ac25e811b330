/- The document's cursor, and what stands in memory while it reads: take, sign, head. No condition. -/
import Derived.Test.YtibngikhlgmhaaaDnG
namespace Go.Proofs.Ytibngikhlgmhaaa.Gx
open Go
set_option linter.unusedVariables false
set_option linter.unusedSimpArgs false
/-! ### the document's cursor -/
structure RCur (h : GH) (g : Nat) (s : Sl) (bs : List Int) (at_ err : Int) : Prop where
  hd : h.look g = some (.row ⟨[.slice s.a s.n s.c, .int .i64 at_, .int .i64 err], 0, false⟩)
  rd : Rd h s bs
  ne : g ∉ rowsOf s
theorem RCur.lt {h : GH} {g : Nat} {s : Sl} {bs : List Int} {at_ err : Int} (C : RCur h g s bs at_ err) : ∀ k ∈ ownC g s, k < h.next := fun k hk => by
  rcases List.mem_cons.1 hk with rfl | hk
  · exact look_lt C.hd
  · exact C.rd.lt k hk
theorem RCur.keep {h h' : GH} {g : Nat} {s : Sl} {bs : List Int} {at_ err : Int} {own : List Nat} (C : RCur h g s bs at_ err) (k : Keep h h' own) (hd : ∀ x ∈ ownC g s, x ∉ own) : RCur h' g s bs at_ err :=
  ⟨k.look C.hd (hd g (by simp [ownC])), C.rd.keep k fun x hx => hd x (by simp [ownC, hx]), C.ne⟩
theorem RCur.upd {h : GH} {g : Nat} {s : Sl} {bs : List Int} {at_ err : Int} (C : RCur h g s bs at_ err) (j : Nat) (v : Value) {a' e' : Int} (hc : nlay [.slice s.a s.n s.c, .int .i64 at_, .int .i64 err] (0 + j) [v] = [.slice s.a s.n s.c, .int .i64 a', .int .i64 e']) (hj : j < 3) (ha : allCells [v] = true) :
    ∃ h', (∀ (β : Type) (K : GH → Option β), gput g (0 + j) [v] h K = K h') ∧ RCur h' g s bs a' e' ∧ Keep h h' [g] := by
  refine ⟨h.put g (some (.row ⟨[.slice s.a s.n s.c, .int .i64 a', .int .i64 e'], 0, false⟩)), fun β K => ?_, ⟨look_put_same (look_lt C.hd), C.rd.keep (keep_put h g _) fun x hx hm => C.ne (List.mem_singleton.1 hm ▸ hx), C.ne⟩, keep_put h g _⟩
  rw [gput_eq C.hd ha (by simp; omega), hc]
theorem RCur.take {h : GH} {g : Nat} {s : Sl} {bs : List Int} {at_ err : Int} (C : RCur h g s bs at_ err) (hat : 0 ≤ at_ ∧ at_ ≤ bs.length) (hm : bs.length ≤ 2000000) (n : Int) (R : Nat) : ∃ h' q, (∀ (β : Type) (K : Sl → GH → Option β), F_ref02_Cursor_Take R (some ⟨g, 0, none⟩) n h K = K q h') ∧
    RCur h' g s bs (takeP bs at_ err n).2.1 (takeP bs at_ err n).2.2 ∧ Bv h' q (takeP bs at_ err n).1 ∧ Keep h h' [g] ∧ (∀ k ∈ rowsOf q, h.next ≤ k) := by
  have hn := C.rd.n
  have hcap := C.rd.cap
  have c0 : h.cell ⟨g, 0 + 0, none⟩ = some (.slice s.a s.n s.c) := by rw [cell_of C.hd]; rfl
  have c1 : h.cell ⟨g, 0 + 1, none⟩ = some (.int .i64 at_) := by rw [cell_of C.hd]; rfl
  have c2 : h.cell ⟨g, 0 + 2, none⟩ = some (.int .i64 err) := by rw [cell_of C.hd]; rfl
  by_cases he : err = 0
  · subst he
    by_cases h1 : n < 0
    · obtain ⟨h', e', C', k'⟩ := C.upd 2 (.int .i64 2) (a' := at_) (e' := 2) rfl (by omega) rfl
      have hp : takeP bs at_ 0 n = ([], at_, 2) := by unfold takeP; rw [if_neg (by simp), if_pos h1]
      rw [hp]
      refine ⟨h', ⟨none, 0, 0⟩, fun β K => ?_, C', Vec.nil, k', by simp [rowsOf]⟩
      unfold F_ref02_Cursor_Take
      rw [F_ref02_Cursor_Take_gen, exA_s, c2, exI_s, bne_self_eq_false, condF, decT h1, condT, exA_s, e']
    · by_cases h2 : n > (bs.length : Int) - at_
      · obtain ⟨h', e', C', k'⟩ := C.upd 2 (.int .i64 3) (a' := at_) (e' := 3) rfl (by omega) rfl
        have hp : takeP bs at_ 0 n = ([], at_, 3) := by unfold takeP; rw [if_neg (by simp), if_neg h1, if_pos h2]
        rw [hp]
        refine ⟨h', ⟨none, 0, 0⟩, fun β K => ?_, C', Vec.nil, k', by simp [rowsOf]⟩
        unfold F_ref02_Cursor_Take
        rw [F_ref02_Cursor_Take_gen, exA_s, c2, exI_s, bne_self_eq_false, condF, decF h1, condF, exA_s, c0, exS_s', exA_s, c1, exI_s, show (⟨s.a, s.n, s.c⟩ : Sl).n = bs.length from hn, i64w (by omega), decT h2, condT, exA_s, e']
      · obtain ⟨h', e', C', k'⟩ := C.upd 1 (.int .i64 (at_ + n)) (a' := at_ + n) (e' := 0) rfl (by omega) rfl
        have hp : takeP bs at_ 0 n = ((bs.drop at_.toNat).take n.toNat, at_ + n, 0) := by unfold takeP; rw [if_neg (by simp), if_neg h1, if_neg h2]
        rw [hp]
        have rc := C'.rd.cut (lo := at_.toNat) (hi := at_.toNat + n.toNat) (mx := s.c) (by omega) (by omega) (by omega) (Nat.le_refl _)
        rw [show at_.toNat + n.toNat - at_.toNat = n.toNat by omega] at rc
        obtain ⟨h2', q, e2, v2, k2, n2⟩ := copy_rd rc (by simp; omega) R
        have d0 : h'.cell ⟨g, 0 + 0, none⟩ = some (.slice s.a s.n s.c) := by rw [cell_of C'.hd]; rfl
        have d1 : h'.cell ⟨g, 0 + 1, none⟩ = some (.int .i64 (at_ + n)) := by rw [cell_of C'.hd]; rfl
        refine ⟨h2', q, fun β K => ?_, C'.keep k2 (by simp), v2, k'.trans k2 (by simp), fun k hk => by have := n2 k hk; have := k'.1; omega⟩
        unfold F_ref02_Cursor_Take
        rw [F_ref02_Cursor_Take_gen, exA_s, c2, exI_s, bne_self_eq_false, condF, decF h1, condF, exA_s, c0, exS_s', exA_s, c1, exI_s, show (⟨s.a, s.n, s.c⟩ : Sl).n = bs.length from hn, i64w (x := ((bs.length : Nat) : Int) - at_) (by omega), decF h2, condF, exA_s, c1, exI_s, exA_s, i64w (x := at_ + n) (by omega)]
        refine (e' β _).trans ?_
        rw [exA_s, d0, exS_s', exA_s, d1, exI_s, exA_s, d1, exI_s]
        show bnd (at_ + n) s.c (fun m33 => bnd (IntKind.wrap .i64 (at_ + n - n)) m33 fun m34 => F_ref01_Copy R ⟨addO s.a (m34 * 1), m33 - m34, s.c - m34⟩ h' fun r35 h36 => K r35 h36) = _
        rw [bnd_t (by omega) (by omega), i64w (by omega), bnd_t (by omega) (by omega), show (at_ + n - n).toNat = at_.toNat by omega, show (at_ + n).toNat - at_.toNat = n.toNat by omega]
        exact e2 β _
  · have hp : takeP bs at_ err n = ([], at_, err) := by unfold takeP; rw [if_pos he]
    rw [hp]
    refine ⟨h, ⟨none, 0, 0⟩, fun β K => ?_, C, Vec.nil, .refl _ _, by simp [rowsOf]⟩
    unfold F_ref02_Cursor_Take
    rw [F_ref02_Cursor_Take_gen, exA_s, c2, exI_s, bne_iff_ne.2 he, condT]
structure RCurT (h : GH) (g : Nat) (s : Sl) (bs : List Int) (p t : Nat) : Prop where
  ok : p + t ≤ bs.length → RCur h g s bs ((p + t : Nat) : Int) 0
  no : ¬ p + t ≤ bs.length → ∃ a : Int, (0 ≤ a ∧ a ≤ bs.length) ∧ RCur h g s bs a 3
theorem RCurT.lt {h : GH} {g : Nat} {s : Sl} {bs : List Int} {p t : Nat} (C : RCurT h g s bs p t) : ∀ k ∈ ownC g s, k < h.next := by
  by_cases c : p + t ≤ bs.length
  · exact (C.ok c).lt
  · obtain ⟨a, _, C⟩ := C.no c; exact C.lt
theorem RCurT.keep {h h' : GH} {g : Nat} {s : Sl} {bs : List Int} {p t : Nat} {own : List Nat} (C : RCurT h g s bs p t) (k : Keep h h' own) (hd : ∀ x ∈ ownC g s, x ∉ own) : RCurT h' g s bs p t :=
  ⟨fun c => (C.ok c).keep k hd, fun c => by obtain ⟨a, ha, C⟩ := C.no c; exact ⟨a, ha, C.keep k hd⟩⟩
section
variable {h : GH} {g : Nat} {s : Sl} {bs : List Int} {p t : Nat}
theorem RCurT.errc (C : RCurT h g s bs p t) : h.cell ⟨g, 0 + 2, none⟩ = some (.int .i64 (if p + t ≤ bs.length then 0 else 3)) := by
  by_cases c : p + t ≤ bs.length
  · rw [if_pos c, cell_of (C.ok c).hd]; rfl
  · obtain ⟨a, _, C⟩ := C.no c; rw [if_neg c, cell_of C.hd]; rfl
theorem RCurT.take (C : RCurT h g s bs p t) (hm : bs.length ≤ 2000000) (n : Nat) (R : Nat) : ∃ h' q vs, (∀ (β : Type) (K : Sl → GH → Option β), F_ref02_Cursor_Take R (some ⟨g, 0, none⟩) (n : Nat) h K = K q h') ∧ RCurT h' g s bs p (t + n) ∧ Bv h' q vs ∧ Keep h h' [g] ∧ (∀ k ∈ rowsOf q, h.next ≤ k) ∧ vs.length ≤ n ∧ (p + t + n ≤ bs.length → vs = cutL bs (p + t) n) := by
  by_cases c : p + t ≤ bs.length
  · obtain ⟨h', q, e1, C1, v1, k1, n1⟩ := (C.ok c).take ⟨by omega, by omega⟩ hm n R
    by_cases c2 : p + t + n ≤ bs.length
    · rw [takeP_ok bs c2] at C1 v1
      exact ⟨h', q, _, e1, ⟨fun _ => by rw [show p + (t + n) = p + t + n by omega]; exact C1, fun q => absurd c2 (by omega)⟩, v1, k1, n1, by simp; omega, fun _ => rfl⟩
    · rw [takeP_no bs c2] at C1 v1
      exact ⟨h', q, _, e1, ⟨fun q => absurd c2 (by omega), fun _ => ⟨((p + t : Nat) : Int), ⟨by omega, by omega⟩, C1⟩⟩, v1, k1, n1, by simp, fun q => absurd q c2⟩
  · obtain ⟨a, ha, C0⟩ := C.no c
    obtain ⟨h', q, e1, C1, v1, k1, n1⟩ := C0.take ha hm n R
    rw [takeP_bad] at C1 v1
    exact ⟨h', q, _, e1, ⟨fun q => absurd c (by omega), fun _ => ⟨a, ha, C1⟩⟩, v1, k1, n1, by simp, fun q => absurd c (by omega)⟩
theorem cutL_add (bs : List Int) (p a b : Nat) : cutL bs p (a + b) = cutL bs p a ++ cutL bs (p + a) b := by
  unfold cutL; rw [List.take_add, List.drop_drop]
/-- field by field -/
theorem takes_loop {gz : Nat} {sz : List Nat} {e : Nat} {ro : Bool} (hm : bs.length ≤ 2000000) (hs : ∀ x ∈ sz, x ≤ 1000) (hsl : sz.length ≤ 100) (hgz : gz ≠ g) {B : Nat} (hgB : gz < B) (R : Nat) : ∀ (k i n t : Nat) (h : GH) (out : Sl) (os : List Int), i + k = sz.length → k < n → B ≤ h.next → RCurT h g s bs p t → Bv h out os → os.length ≤ 1000 * i → (∀ z ∈ rowsOf out, B ≤ z ∧ z ∉ ownC g s) → h.look gz = some (.row ⟨i64s (sz.map (fun (x : Nat) => (x : Int))), e, ro⟩) →
    ∃ h' out' os', RCurT h' g s bs p (t + (sz.drop i).sum) ∧ Bv h' out' os' ∧ (∀ z ∈ rowsOf out', B ≤ z) ∧ Keep h h' (g :: rowsOf out) ∧ (p + t + (sz.drop i).sum ≤ bs.length → os' = os ++ cutL bs (p + t) (sz.drop i).sum) ∧ ∀ (β : Type) (K0 : Sl → GH → Option β),
      F_ref24_take_l0 (F_ref02_Cursor_Take R) R n (some ⟨g, 0, none⟩) ⟨some ⟨gz, 0, none⟩, sz.length, sz.length⟩ out (i : Nat) h K0 = K0 out' h'
  | 0, i, n, t, h, out, os, hi, hn, hB, C, v, hos, ho, hz => by
    obtain ⟨n, rfl⟩ : ∃ n', n = n' + 1 := ⟨n - 1, by omega⟩
    have hd : sz.drop i = [] := List.drop_eq_nil_of_le (by omega)
    rw [hd, List.sum_nil]
    refine ⟨h, out, os, C, v, fun z hz => (ho z hz).1, .refl _ _, fun _ => by simp [cutL], fun β K0 => ?_⟩
    rw [F_ref24_take_l0_succ, decF (by simp only []; omega), condF]
  | k + 1, i, n, t, h, out, os, hi, hn, hB, C, v, hos, ho, hz => by
    obtain ⟨n, rfl⟩ : ∃ n', n = n' + 1 := ⟨n - 1, by omega⟩
    have hil : i < sz.length := by omega
    have hd : sz.drop i = sz[i] :: sz.drop (i + 1) := List.drop_eq_getElem_cons hil
    obtain ⟨h1, q, vs, e1, C1, v1, k1, n1, l1, w1⟩ := C.take hm sz[i] R
    have hlt := C.lt
    have b1 := k1.1
    have vo1 := v.keep k1 (fun z hz' hm' => by simp at hm'; exact (ho z hz').2 (by simp [ownC, hm']))
    have hsz := hs _ (List.getElem_mem hil)
    obtain ⟨h2, out2, e2, v2, k2, n2⟩ := app_bytes vo1 v1.row (by omega)
    have b2 := k2.1
    have C2 := C1.keep k2 (fun z hz' hm' => (ho z hm').2 hz')
    obtain ⟨h3, out3, os3, C3, v3, n3, k3, w3, e3⟩ := takes_loop hm hs hsl hgz hgB R k (i + 1) n (t + sz[i]) h2 out2 (os ++ vs) (by omega) (by omega) (by omega) C2 v2 (by simp; omega) (fun z hz' => by
      rcases n2 z hz' with q | q
      · exact ho z q
      · exact ⟨by omega, fun hm' => by have := hlt z hm'; omega⟩) (k2.look (k1.look hz (by simpa using hgz)) (fun hm' => by have := (ho gz hm').1; omega))
    refine ⟨h3, out3, os3, by rw [hd, List.sum_cons]; simpa [Nat.add_assoc] using C3, v3, n3, ((k1.mono (o1 := g :: rowsOf out) (by simp)).trans k2 (fun z hz' => .inl (by simp [hz']))).trans k3 (fun z hz' => ?_), fun hp => ?_, fun β K0 => ?_⟩
    · rcases List.mem_cons.1 hz' with q | q
      · exact .inl (by simp [q])
      · rcases n2 z q with q | q
        · exact .inl (by simp [q])
        · exact .inr (by omega)
    · rw [hd, List.sum_cons] at hp ⊢
      rw [w3 (by omega), w1 (by omega), cutL_add, List.append_assoc, show p + (t + sz[i]) = p + t + sz[i] by omega]
    · have hc : h.cell ⟨gz, 0 + ((i : Nat) : Int).toNat * 1, none⟩ = some (.int .i64 (sz[i] : Nat)) := by
        rw [cell_of hz, Int.toNat_natCast, Nat.zero_add, Nat.mul_one, nth_eq]
        simp [i64s, hil]
      rw [F_ref24_take_l0_succ, decT (by simp only []; omega), condT, exA_s, within_t (by omega) (by simp only []; omega), hc, exI_s, e1]
      refine (e2 β _).trans ?_
      rw [i64w (by omega), show ((i : Nat) : Int) + 1 = ((i + 1 : Nat) : Int) by omega]
      exact e3 β K0
end
structure RL (h0 h : GH) (gc : Nat) (s : Sl) (bs : List Int) (p t : Nat) (ls : List (Nat × List Value)) (qs : List (Sl × List Int)) : Prop where
  cur : RCurT h gc s bs p t
  lt : ∀ k ∈ ownC gc s, k < h0.next
  loc : ∀ (i g : Nat) (cs : List Value), ls[i]? = some (g, cs) → h.look g = some (.row ⟨cs, 0, false⟩) ∧ h0.next ≤ g
  ne : ∀ (i j g : Nat) (cs : List Value) (g' : Nat) (cs' : List Value), ls[i]? = some (g, cs) → ls[j]? = some (g', cs') → i ≠ j → g ≠ g'
  sl : ∀ q vs, (q, vs) ∈ qs → Rd h q vs ∧ ∀ k ∈ rowsOf q, h0.next ≤ k ∧ ∀ (i g : Nat) (cs : List Value), ls[i]? = some (g, cs) → k ≠ g
  keep : Keep h0 h [gc]
section
variable {h0 h : GH} {gc : Nat} {s : Sl} {bs : List Int} {p t : Nat} {ls : List (Nat × List Value)} {qs : List (Sl × List Int)}
theorem RL.start (C : RCurT h0 gc s bs p t) : RL h0 h0 gc s bs p t [] [] := ⟨C, C.lt, by simp, by simp, by simp, .refl _ _⟩
theorem RL.glt (c : RL h0 h gc s bs p t ls qs) : gc < h0.next := c.lt gc (by simp [ownC])
theorem RL.step (c : RL h0 h gc s bs p t ls qs) {h' : GH} {t' : Nat} (C : RCurT h' gc s bs p t') (k : Keep h h' [gc]) : RL h0 h' gc s bs p t' ls qs := by
  have hg := c.glt
  refine ⟨C, c.lt, fun i g cs hi => ?_, c.ne, fun q vs hq => ?_, c.keep.trans k (fun x hx => .inl hx)⟩
  · obtain ⟨h1, h2⟩ := c.loc i g cs hi
    exact ⟨k.look h1 (by simp; omega), h2⟩
  · obtain ⟨h1, h2⟩ := c.sl q vs hq
    exact ⟨h1.keep k (fun x hx => by have := h2 x hx; simp; omega), h2⟩
theorem RL.drop (c : RL h0 h gc s bs p t ls qs) (n : Nat) : RL h0 h gc s bs p t (ls.take n) qs := by
  have hh : ∀ (i g : Nat) (cs : List Value), (ls.take n)[i]? = some (g, cs) → ls[i]? = some (g, cs) := fun i g cs hi => by
    rw [List.getElem?_take] at hi; split at hi
    · exact hi
    · cases hi
  exact ⟨c.cur, c.lt, fun i g cs hi => c.loc i g cs (hh _ _ _ hi), fun i j g cs g' cs' hi hj hij => c.ne i j g cs g' cs' (hh _ _ _ hi) (hh _ _ _ hj) hij, fun q vs hq => ⟨(c.sl q vs hq).1, fun k hk => ⟨((c.sl q vs hq).2 k hk).1, fun i g cs hi => ((c.sl q vs hq).2 k hk).2 i g cs (hh _ _ _ hi)⟩⟩, c.keep⟩
theorem RL.new (c : RL h0 h gc s bs p t ls qs) (cs : List Value) (ha : allCells cs = true) : ∃ h' g, (∀ (β : Type) (K : Nat → GH → Option β), gnew cs 0 h K = K g h') ∧ RL h0 h' gc s bs p t (ls ++ [(g, cs)]) qs := by
  have k := keep_push h (.row ⟨cs, 0, false⟩) []
  have hk := c.keep.1
  refine ⟨h.push (.row ⟨cs, 0, false⟩), h.next, fun β K => gnew_eq ha K, ⟨c.cur.keep k (by simp), c.lt, fun i g cs' hi => ?_, fun i j g cs' g' cs'' hi hj hij => ?_, fun q vs hq => ?_, c.keep.trans k (by simp)⟩⟩
  · rw [List.getElem?_append] at hi
    split at hi
    · exact ⟨k.look (c.loc i g cs' hi).1 (by simp), (c.loc i g cs' hi).2⟩
    · rw [List.getElem?_singleton] at hi
      split at hi
      · cases hi; exact ⟨look_push_new, hk⟩
      · cases hi
  · rw [List.getElem?_append] at hi hj
    split at hi <;> split at hj
    · exact c.ne i j g cs' g' cs'' hi hj hij
    · rw [List.getElem?_singleton] at hj
      split at hj
      · cases hj; have := look_lt (c.loc i g cs' hi).1; omega
      · cases hj
    · rw [List.getElem?_singleton] at hi
      split at hi
      · cases hi; have := look_lt (c.loc j g' cs'' hj).1; omega
      · cases hi
    · rw [List.getElem?_singleton] at hi hj
      split at hi
      · split at hj
        · omega
        · cases hj
      · cases hi
  · obtain ⟨h1, h2⟩ := c.sl q vs hq
    refine ⟨h1.keep k (by simp), fun x hx => ⟨(h2 x hx).1, fun i g cs' hi => ?_⟩⟩
    rw [List.getElem?_append] at hi
    split at hi
    · exact (h2 x hx).2 i g cs' hi
    · rw [List.getElem?_singleton] at hi
      split at hi
      · cases hi; have := h1.lt x hx; omega
      · cases hi
theorem RL.put (c : RL h0 h gc s bs p t ls qs) (i : Nat) {g : Nat} {cs : List Value} (hi : ls[i]? = some (g, cs)) (o : Nat) (vs cs' : List Value) (ha : allCells vs = true) (hle : o + vs.length ≤ cs.length) (hc : nlay cs o vs = cs') : ∃ h', (∀ (β : Type) (K : GH → Option β), gput g o vs h K = K h') ∧ RL h0 h' gc s bs p t (ls.set i (g, cs')) qs := by
  have hl := (c.loc i g cs hi).1
  have hB := (c.loc i g cs hi).2
  have k := keep_put h g (some (.row ⟨cs', 0, false⟩))
  have hg := c.glt
  have old : ∀ (j g' : Nat) (cs'' : List Value), (ls.set i (g, cs'))[j]? = some (g', cs'') → (j = i ∧ g' = g ∧ cs'' = cs') ∨ (j ≠ i ∧ ls[j]? = some (g', cs'')) := fun j g' cs'' hj => by
    rw [List.getElem?_set] at hj
    split at hj
    · rename_i e
      split at hj
      · cases hj; exact .inl ⟨e.symm, rfl, rfl⟩
      · cases hj
    · rename_i e; exact .inr ⟨Ne.symm e, hj⟩
  refine ⟨h.put g (some (.row ⟨cs', 0, false⟩)), fun β K => by rw [gput_eq hl ha hle, hc], ⟨c.cur.keep k (fun x hx => by have := c.lt x hx; simp; omega), c.lt, fun j g' cs'' hj => ?_, fun j j' g' cs'' g'' cs3 hj hj' hjj => ?_, fun q vs hq => ?_, c.keep.trans k (fun x hx => .inr (by simp at hx; omega))⟩⟩
  · rcases old j g' cs'' hj with ⟨rfl, rfl, rfl⟩ | ⟨e, hj⟩
    · exact ⟨look_put_same (look_lt hl), hB⟩
    · exact ⟨k.look (c.loc j g' cs'' hj).1 (by simp; exact c.ne j i g' cs'' g cs hj hi e), (c.loc j g' cs'' hj).2⟩
  · rcases old j g' cs'' hj with ⟨rfl, rfl, rfl⟩ | ⟨e, ha1⟩
    · rcases old j' g'' cs3 hj' with ⟨rfl, _, _⟩ | ⟨e', ha2⟩
      · exact absurd rfl hjj
      · exact c.ne j j' g' cs g'' cs3 hi ha2 hjj
    · rcases old j' g'' cs3 hj' with ⟨rfl, rfl, rfl⟩ | ⟨e', ha2⟩
      · exact c.ne j j' g' cs'' g'' cs ha1 hi hjj
      · exact c.ne j j' g' cs'' g'' cs3 ha1 ha2 hjj
  · obtain ⟨h1, h2⟩ := c.sl q vs hq
    refine ⟨h1.keep k (fun x hx => by have := (h2 x hx).2 i g cs hi; simpa using this), fun x hx => ⟨(h2 x hx).1, fun j g' cs'' hj => ?_⟩⟩
    rcases old j g' cs'' hj with ⟨rfl, rfl, rfl⟩ | ⟨e, hj⟩
    · exact (h2 x hx).2 j g' cs hi
    · exact (h2 x hx).2 j g' cs'' hj
theorem RL.cell (c : RL h0 h gc s bs p t ls qs) (i : Nat) {g : Nat} {cs : List Value} (hi : ls[i]? = some (g, cs)) (o : Nat) : h.cell ⟨g, o, none⟩ = nth cs o := cell_of (c.loc i g cs hi).1 o
/-! ### the steps -/
theorem RL.take (c : RL h0 h gc s bs p t ls qs) (hm : bs.length ≤ 2000000) (n : Nat) (R : Nat) : ∃ h' q vs, (∀ (β : Type) (K : Sl → GH → Option β), F_ref02_Cursor_Take R (some ⟨gc, 0, none⟩) (n : Nat) h K = K q h') ∧ RL h0 h' gc s bs p (t + n) ls ((q, vs) :: qs) ∧ (p + (t + n) ≤ bs.length → vs = cutL bs (p + t) n) := by
  obtain ⟨h', q, vs, e1, C1, v1, k1, n1, _, w1⟩ := c.cur.take hm n R
  have hg := c.glt
  have c1 := c.step C1 k1
  have hk := c.keep.1
  refine ⟨h', q, vs, e1, ⟨C1, c1.lt, c1.loc, c1.ne, fun q' vs' hq => ?_, c1.keep⟩, fun q => w1 (by omega)⟩
  rcases List.mem_cons.1 hq with e | e
  · cases e
    refine ⟨v1.row, fun k hk2 => ⟨by have := n1 k hk2; omega, fun i g cs hi => ?_⟩⟩
    have h1 := look_lt (c.loc i g cs hi).1
    have := n1 k hk2
    omega
  · exact c1.sl q' vs' e
/-- sizes put into a row, and so many bytes taken -/
theorem RL.takes (c : RL h0 h gc s bs p t ls qs) (hm : bs.length ≤ 2000000) (sz : List Nat) (hs : ∀ x ∈ sz, x ≤ 1000) (hsl : sz.length ≤ 100) (R : Nat) (hR : 200 < R) {t' : Nat} (ht : t' = t + sz.sum) : ∃ h' q vs, (∀ (β : Type) (K : Sl → GH → Option β), (gnew (i64s (sz.map (fun (x : Nat) => (x : Int)))) 1 h fun g23 h24 => F_ref24_take R (some ⟨gc, 0, none⟩) ⟨(some ⟨g23, 0, none⟩), sz.length, sz.length⟩ h24 K) = K q h') ∧ RL h0 h' gc s bs p t' ls ((q, vs) :: qs) ∧ (p + t' ≤ bs.length → vs = cutL bs (p + t) sz.sum) := by
  subst ht
  have k1 := keep_push h (.row ⟨i64s (sz.map (fun (x : Nat) => (x : Int))), 1, false⟩) []
  have hk := c.keep.1
  have hg := c.glt
  have hlt := c.cur.lt
  obtain ⟨h2, q, vs, C2, v2, n2, k2, w2, e2⟩ := takes_loop (gz := h.next) (sz := sz) (e := 1) (ro := false) hm hs hsl (by omega) (B := h.next + 1) (by omega) R sz.length 0 R t (h.push (.row ⟨i64s (sz.map (fun (x : Nat) => (x : Int))), 1, false⟩)) ⟨none, 0, 0⟩ [] (by omega) (by omega) (by show h.next + 1 ≤ h.next + 1; omega) (c.cur.keep k1 (by simp)) Vec.nil (by simp) (by simp [rowsOf]) look_push_new
  rw [List.drop_zero] at C2 w2
  have k02 : Keep h h2 [gc] := (k1.mono (o1 := [gc]) (by simp)).trans k2 (fun z hz => .inl (by simpa [rowsOf] using hz))
  have c2 := c.step C2 k02
  refine ⟨h2, q, vs, fun β K => ?_, ⟨C2, c2.lt, c2.loc, c2.ne, fun q' vs' hq => ?_, c2.keep⟩, fun hp => by rw [w2 (by omega)]; rfl⟩
  · rw [gnew_eq (allCells_i64s _)]
    unfold F_ref24_take
    rw [F_ref24_take_gen]
    exact e2 β _
  · rcases List.mem_cons.1 hq with e | e
    · cases e
      refine ⟨v2.row, fun k hk2 => ⟨by have := n2 k hk2; omega, fun i g cs hi => ?_⟩⟩
      have h1 := look_lt (c.loc i g cs hi).1
      have := n2 k hk2
      omega
    · exact c2.sl q' vs' e
theorem RL.errc (c : RL h0 h gc s bs p t ls qs) : h.cell ⟨gc, 0 + 2, none⟩ = some (.int .i64 (if p + t ≤ bs.length then 0 else 3)) := c.cur.errc
theorem RL.sign (c : RL h0 h gc s bs p 0 ls qs) (h8 : B8 bs) (hm : bs.length ≤ 2000000) {R : Nat} (hR : 8 < R) (want : Int) : ∃ h' q vs, (∀ (β : Type) (K : Int → GH → Option β), F_ref24_sign R (some ⟨gc, 0, none⟩) want h K = K (sigErr bs p want) h') ∧ RL h0 h' gc s bs p 4 ls ((q, vs) :: qs) := by
  obtain ⟨h1, q, vs, e1, c1, w1⟩ := c.take hm 4 R
  rw [show ((4 : Nat) : Int) = 4 from rfl] at e1
  rw [Nat.zero_add] at c1 w1
  refine ⟨h1, q, vs, fun β K => ?_, c1⟩
  have r1 := (c1.sl q vs (by simp)).1
  unfold F_ref24_sign sigErr
  rw [F_ref24_sign_gen, e1, exA_s, c1.errc, exI_s]
  by_cases ok : p + 4 ≤ bs.length
  · have hv := w1 ok
    rw [Nat.add_zero] at hv
    have hf : le vs = fld bs p 4 := by rw [hv]; rfl
    have h8v : B8 vs := by rw [hv]; exact b8_cut h8 _ _
    have hlv : vs.length ≤ 4 := by rw [hv]; unfold cutL; simp; omega
    rw [if_pos ok, bne_self_eq_false, condF, num_rd r1 h8v hlv hR, hf, if_neg (by omega)]
    by_cases q2 : fld bs p 4 = want
    · rw [q2, bne_self_eq_false, condF, if_neg (by simp)]
    · rw [bne_iff_ne.2 q2, condT, if_pos q2]
  · rw [if_neg ok, bne_iff_ne.2 (by omega), condT, exA_s, c1.errc, if_neg ok, exI_s, if_pos (by omega)]
end
/-! ### numbers within bytes taken -/
theorem fld_cut (bs : List Int) {p m i n : Nat} (h : i + n ≤ m) : fld (cutL bs p m) i n = fld bs (p + i) n := by
  unfold fld cutL
  rw [List.drop_take, List.take_take, List.drop_drop, Nat.min_eq_left (by omega)]
theorem num_cut {h : GH} {q : Sl} {vs : List Int} (r : Rd h q vs) (h8 : B8 vs) {i j : Int} {n : Nat} (hn : n ≤ 4) (hi : 0 ≤ i) (hj : j = i + n) (hl : j ≤ vs.length) {R : Nat} (hR : 8 < R) {β : Type} (K : Int → GH → Option β) :
    (bnd j q.c fun m3 => bnd i m3 fun m4 => F_ref02_Num R ⟨addO q.a (m4 * 1), m3 - m4, q.c - m4⟩ h K) = K (fld vs i.toNat n) h := by
  have hqn := r.n
  have hqc := r.cap
  subst hj
  have rc := r.cut (lo := i.toNat) (hi := i.toNat + n) (mx := q.c) (by omega) (by omega) (by omega) (Nat.le_refl _)
  rw [show i.toNat + n - i.toNat = n by omega] at rc
  rw [bnd_t (by omega) (by omega), bnd_t (by omega) (by omega), show (i + n).toNat - i.toNat = n by omega]
  have := num_rd (R := R) rc (b8_cut h8 _ _) (by simp; omega) hR β K
  exact this
theorem at_cut {h : GH} {q : Sl} {vs : List Int} (r : Rd h q vs) (h8 : B8 vs) (hm : vs.length ≤ 2000000) {i : Int} (hi : 0 ≤ i) (hl : i + 2 ≤ vs.length) {R : Nat} (hR : 8 < R) {β : Type} (K : Int → GH → Option β) : F_ref24_at R q i h K = K (fld vs i.toNat 2) h := by
  have hb := (fld_bd h8 i.toNat).1
  unfold F_ref24_at
  rw [F_ref24_at_gen, i64w (x := i + 2) (by omega)]
  refine (num_cut r h8 (n := 2) (by omega) hi rfl hl hR _).trans ?_
  rw [i64w (by omega)]
theorem ref_head {h : GH} {q : Sl} {vs : List Int} (r : Rd h q vs) (h8 : B8 vs) (hl : 22 ≤ vs.length) (hm : vs.length ≤ 2000000) {R : Nat} (hR : 8 < R) : ∃ h', Keep h h' [] ∧ ∀ (β : Type) (K : Int → Int → Int → Int → Int → Int → Int → Int → Sl → Sl → GH → Option β), F_ref24_head R q h K = K (fld vs 0 2) (fld vs 2 2) (fld vs 4 2) (fld vs 6 2) (fld vs 8 2) (fld vs 10 4) (fld vs 14 4) (fld vs 18 4) ⟨none, 0, 0⟩ ⟨none, 0, 0⟩ h' := by
  obtain ⟨Z, hZ⟩ : ∃ Z, Z = [Value.int .i64 0, Value.int .i64 0, Value.int .i64 0, Value.int .i64 0, Value.int .i64 0, Value.int .u32 0, Value.int .u32 0, Value.int .u32 0, Value.slice none 0 0, Value.slice none 0 0] := ⟨_, rfl⟩
  have k1 := keep_push h (.row ⟨Z, 0, false⟩) []
  obtain ⟨h1, eh1⟩ : ∃ h1, h1 = h.push (.row ⟨Z, 0, false⟩) := ⟨_, rfl⟩
  have l1 : h1.look h.next = some (.row ⟨Z, 0, false⟩) := by rw [eh1]; exact look_push_new
  rw [← eh1] at k1
  have r1 := r.keep k1 (by simp)
  obtain ⟨V, hV⟩ : ∃ V, V = [Value.int .i64 (fld vs 0 2), Value.int .i64 (fld vs 2 2), Value.int .i64 (fld vs 4 2), Value.int .i64 (fld vs 6 2), Value.int .i64 (fld vs 8 2), Value.int .u32 (fld vs 10 4), Value.int .u32 (fld vs 14 4), Value.int .u32 (fld vs 18 4), Value.slice none 0 0, Value.slice none 0 0] := ⟨_, rfl⟩
  have k2 := keep_put h1 h.next (some (.row ⟨V, 0, false⟩))
  have l2 : (h1.put h.next (some (.row ⟨V, 0, false⟩))).look h.next = some (.row ⟨V, 0, false⟩) := look_put_same (look_lt l1)
  refine ⟨h1.put h.next (some (.row ⟨V, 0, false⟩)), k1.trans k2 (fun z hz => .inr (by simp at hz; omega)), fun β K => ?_⟩
  have c2 := fun o => cell_of l2 o
  unfold F_ref24_head
  rw [F_ref24_head_gen, ← hZ, gnew_eq (by rw [hZ]; rfl), ← eh1, at_cut (i := 0) r1 h8 hm (by omega) (by omega) hR, at_cut (i := 2) r1 h8 hm (by omega) (by omega) hR, at_cut (i := 4) r1 h8 hm (by omega) (by omega) hR, at_cut (i := 6) r1 h8 hm (by omega) (by omega) hR, at_cut (i := 8) r1 h8 hm (by omega) (by omega) hR]
  refine (num_cut (i := 10) (j := 14) r1 h8 (n := 4) (by omega) (by omega) rfl (by omega) hR _).trans ?_
  refine (num_cut (i := 14) (j := 18) r1 h8 (n := 4) (by omega) (by omega) rfl (by omega) hR _).trans ?_
  refine (num_cut (i := 18) (j := 22) r1 h8 (n := 4) (by omega) (by omega) rfl (by omega) hR _).trans ?_
  show gput h.next 0 [Value.int .i64 (fld vs 0 2), Value.int .i64 (fld vs 2 2), Value.int .i64 (fld vs 4 2), Value.int .i64 (fld vs 6 2), Value.int .i64 (fld vs 8 2), Value.int .u32 (fld vs 10 4), Value.int .u32 (fld vs 14 4), Value.int .u32 (fld vs 18 4), Value.slice none 0 0, Value.slice none 0 0] h1 _ = _
  rw [← hV]
  rw [gput_eq l1 (by rw [hV]; rfl) (by rw [hV, hZ]; simp), nlay_full Z V (by rw [hV, hZ]; rfl)]
  rw [hV] at c2 ⊢
  simp only [c2, Nat.zero_add, nth_s, nth_0, exI_s, exS_s']
end Go.Proofs.Ytibngikhlgmhaaa.Gx

