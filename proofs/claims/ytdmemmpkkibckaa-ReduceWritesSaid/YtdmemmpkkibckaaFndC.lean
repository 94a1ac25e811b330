/- The encoder's walk: plain, Encode. No condition. -/
import Derived.Test.YtdmemmpkkibckaaFndB
namespace Go.Proofs.Ytdmemmpkkibckaa.Gx
open Go Go.RowKit Fd
set_option linter.unusedVariables false
set_option linter.unusedSimpArgs false
/-- bytes that are new, behind a row -/
theorem app_u8s {h : GH} {s : Sl} {bs : List Int} (v : Bv h s bs) (ns : List Int) (hm : bs.length + ns.length ≤ 274877906944) :
    ∃ h' s', (∀ (β : Type) (K : Sl → GH → Option β), (gnew (u8s ns) 1 h fun g h1 => gappS 1 1 s ⟨(some ⟨g, 0, none⟩), ns.length, ns.length⟩ h1 K) = K s' h') ∧ Bv h' s' (bs ++ ns) ∧ Keep h h' (rowsOf s) ∧ (∀ k ∈ rowsOf s', k ∈ rowsOf s ∨ h.next ≤ k) := by
  have k0 := keep_push h (.row ⟨u8s ns, 1, false⟩) []
  obtain ⟨h', s', e, v', k, n⟩ := app_bytes (v.keep k0 (by simp)) (row_of_block (z := 1) (n := ns.length) (look_push_new (h := h) (o := .row ⟨u8s ns, 1, false⟩)) (by rw [u8s_length, Nat.mul_one])) hm
  exact ⟨h', s', fun β K => by rw [gnew_eq (allCells_u8s ns), e], v', (k0.mono (by simp)).trans k (fun q hq => .inl hq), fun q hq => (n q hq).imp id fun h => by have := k0.1; omega⟩
theorem plain_loop {y : Sl} {ps : List Int} (hp : ps.length ≤ 1000000000) (R : Nat) :
    ∀ (d i n : Nat) (h : GH) (out : Sl) (os : List Int), i + d = ps.length → d < n → Bv h out os → Rd h y ps → (∀ x ∈ rowsOf y, x ∉ rowsOf out) → os.length + 2 * d ≤ 100000000000 →
    ∃ h' out', Bv h' out' (os ++ plainS (ps.drop i)) ∧ Keep h h' (rowsOf out) ∧ (∀ k ∈ rowsOf out', k ∈ rowsOf out ∨ h.next ≤ k) ∧ ∀ (β : Type) (K : Sl → GH → Option β), F_dle_plain_l0 R n out y ((ps.length : Nat) : Int) (i : Nat) h K = K out' h'
  | 0, i, n, h, out, os, hd, hn, v, r, hs, hm => by
    obtain ⟨n, rfl⟩ : ∃ n', n = n' + 1 := ⟨n - 1, by omega⟩
    refine ⟨h, out, ?_, .refl _ _, fun k hk => .inl hk, fun β K => ?_⟩
    · rw [List.drop_eq_nil_of_le (by omega)]; simpa [plainS] using v
    · rw [F_dle_plain_l0_succ, decF (by omega), condF]
  | d + 1, i, n, h, out, os, hd, hn, v, r, hs, hm => by
    obtain ⟨n, rfl⟩ : ∃ n', n = n' + 1 := ⟨n - 1, by omega⟩
    have hc : ps.drop i = ps.getD i 0 :: ps.drop (i + 1) := by
      rw [List.drop_eq_getElem_cons (by omega), List.getD_eq_getElem?_getD, List.getElem?_eq_getElem (by omega), Option.getD_some]
    have hw : IntKind.wrap .i64 ((i : Int) + 1) = ((i + 1 : Nat) : Int) := by rw [i64w (by omega)]; omega
    obtain ⟨h1, o1, e1, v1, k1, n1⟩ := app_u8s v [ps.getD i 0] (by simp; omega)
    have hs1 : ∀ x ∈ rowsOf y, x ∉ rowsOf o1 := fun x hx hy => (n1 x hy).elim (hs x hx) fun q => by have := r.lt x hx; omega
    have r1 := r.keep k1 hs
    by_cases c : ps.getD i 0 = 144
    · obtain ⟨h2, o2, e2, v2, k2, n2⟩ := app_u8s v1 [0] (by simp; omega)
      have hs2 : ∀ x ∈ rowsOf y, x ∉ rowsOf o2 := fun x hx hy => (n2 x hy).elim (hs1 x hx) fun q => by have := r1.lt x hx; omega
      obtain ⟨h3, o3, v3, k3, n3, e3⟩ := plain_loop hp R d (i + 1) n h2 o2 (os ++ [ps.getD i 0] ++ [0]) (by omega) (by omega) v2 (r1.keep k2 hs1) hs2 (by simp; omega)
      refine ⟨h3, o3, ?_, (k1.trans k2 fun x hx => n1 x hx).trans k3 fun x hx => ?_, fun x hx => ?_, fun β K => ?_⟩
      · rw [hc, show plainS (ps.getD i 0 :: ps.drop (i + 1)) = [ps.getD i 0] ++ [0] ++ plainS (ps.drop (i + 1)) by
          show plainB (ps.getD i 0) ++ plainS (ps.drop (i + 1)) = _
          rw [plainB, if_pos c]; rfl]
        simpa using v3
      · rcases n2 x hx with q | q
        · exact n1 x q
        · exact .inr (by have := k1.1; omega)
      · rcases n3 x hx with q | q
        · rcases n2 x q with q | q
          · exact n1 x q
          · exact .inr (by have := k1.1; omega)
        · exact .inr (by have := k1.1; have := k2.1; omega)
      · rw [F_dle_plain_l0_succ, decT (by omega), condT]
        have q1 := fun K => r.byte (β := β) (i := ((i : Nat) : Int)) (by omega) (by omega) K
        rw [q1, Int.toNat_natCast]
        refine (e1 β _).trans ?_
        rw [beq_int, decT c, condT]
        refine (e2 β _).trans ?_
        rw [hw, e3]
    · obtain ⟨h3, o3, v3, k3, n3, e3⟩ := plain_loop hp R d (i + 1) n h1 o1 (os ++ [ps.getD i 0]) (by omega) (by omega) v1 r1 hs1 (by simp; omega)
      refine ⟨h3, o3, ?_, k1.trans k3 fun x hx => n1 x hx, fun x hx => ?_, fun β K => ?_⟩
      · rw [hc, show plainS (ps.getD i 0 :: ps.drop (i + 1)) = [ps.getD i 0] ++ plainS (ps.drop (i + 1)) by
          show plainB (ps.getD i 0) ++ plainS (ps.drop (i + 1)) = _
          rw [plainB, if_neg c]]
        simpa using v3
      · rcases n3 x hx with q | q
        · exact n1 x q
        · exact .inr (by have := k1.1; omega)
      · rw [F_dle_plain_l0_succ, decT (by omega), condT]
        have q1 := fun K => r.byte (β := β) (i := ((i : Nat) : Int)) (by omega) (by omega) K
        rw [q1, Int.toNat_natCast]
        refine (e1 β _).trans ?_
        rw [beq_int, decF c, condF, hw, e3]
theorem plain_eq {h : GH} {y out : Sl} {ps os : List Int} (hp : ps.length ≤ 1000000000) (v : Bv h out os) (r : Rd h y ps) (hs : ∀ x ∈ rowsOf y, x ∉ rowsOf out) (hm : os.length ≤ 10000000000) {R : Nat} (hR : ps.length < R) :
    ∃ h' out', Bv h' out' (os ++ plainS ps) ∧ Keep h h' (rowsOf out) ∧ (∀ k ∈ rowsOf out', k ∈ rowsOf out ∨ h.next ≤ k) ∧ ∀ (β : Type) (K : Sl → GH → Option β), F_dle_plain R out y h K = K out' h' := by
  obtain ⟨h', o', v', k', n', e'⟩ := plain_loop hp R ps.length 0 R h out os (by omega) hR v r hs (by omega)
  refine ⟨h', o', by simpa using v', k', n', fun β K => ?_⟩
  unfold F_dle_plain
  rw [F_dle_plain_gen, r.n]
  exact e' β _
/-! ### a token read -/
theorem tokCs_get : ∀ (l : List Tok) (k : Nat) (hk : k < l.length), (tokCs l)[k * 3]? = some (.int .u8 l[k].lit) ∧ (tokCs l)[k * 3 + 1]? = some (.int .i64 l[k].dist) ∧ (tokCs l)[k * 3 + 2]? = some (.int .i64 l[k].len)
  | t :: l, 0, hk => ⟨rfl, rfl, rfl⟩
  | t :: l, k + 1, hk => by
    have ih := tokCs_get l k (by simpa using hk)
    have e : tokCs (t :: l) = [.int .u8 t.lit, .int .i64 t.dist, .int .i64 t.len] ++ tokCs l := rfl
    rw [e]
    rw [show (k + 1) * 3 = k * 3 + 3 by omega]
    exact ih
theorem tok_at {h : GH} {y : Sl} {l : List Tok} (r : Row h y 3 (tokCs l)) {k : Nat} (hk : k < l.length) {β : Type} (K : Int → Int → Int → Option β) :
    (exA y.a fun g o => within (k : Nat) y.n (exI .u8 (h.cell ⟨g, o + ((k : Nat) : Int).toNat * 3, none⟩) fun a => exI .i64 (h.cell ⟨g, o + ((k : Nat) : Int).toNat * 3 + 1, none⟩) fun b => exI .i64 (h.cell ⟨g, o + ((k : Nat) : Int).toNat * 3 + 1 + 1, none⟩) fun c => K a b c)) = K l[k].lit l[k].dist l[k].len := by
  have hn : y.n = l.length := by have := r.len; rw [tokCs_len] at this; omega
  obtain ⟨g, o, ha, hc⟩ := r.cell (by omega) (by omega)
  obtain ⟨q1, q2, q3⟩ := tokCs_get l k hk
  have hl := tokCs_len l
  rw [ha]
  simp only [exA_s]
  rw [within_t (by omega) (by omega), Int.toNat_natCast, hc _ (by omega), q1, exI_s, Nat.add_assoc o, hc _ (by omega), q2, exI_s, Nat.add_assoc o, hc _ (by omega), q3, exI_s]
theorem tmp_tokI (h : GH) (t : Tok) : ∃ g h', Keep h h' [] ∧ (∀ j, h'.cell ⟨g, j, none⟩ = nth [.int .u8 t.lit, .int .i64 t.dist, .int .i64 t.len] j) ∧ ∀ (β : Type) (K : Nat → GH → Option β),
    (gnew [Value.int .u8 0, Value.int .i64 0, Value.int .i64 0] 0 h fun g h1 => gput g (0) [Value.int .u8 t.lit, Value.int .i64 t.dist, Value.int .i64 t.len] h1 fun h2 => K g h2) = K g h' := by
  refine ⟨h.next, (h.push (tr 0 (0, 0))).put h.next (some (.row ⟨[.int .u8 t.lit, .int .i64 t.dist, .int .i64 t.len], 0, false⟩)), (keep_push h (tr 0 (0, 0)) []).trans (keep_put _ _ _) (fun x hx => .inr (by simp at hx; omega)), fun j => cell_of (look_put_same (by simp [next_push])) j, fun β K => ?_⟩
  rw [gnew_eq rfl, gput_eq look_push_new rfl (by simp)]
  rfl
/-! ### the numbers of a copy -/
theorem shl_k (x : Nat) (hx : x ≤ 15) : shlI .i64 x 7 = ((x * 128 : Nat) : Int) ∧ shlI .i64 x 6 = ((x * 64 : Nat) : Int) ∧ shlI .i64 x 5 = ((x * 32 : Nat) : Int) ∧ shlI .i64 x 4 = ((x * 16 : Nat) : Int) := by
  have : x = 0 ∨ x = 1 ∨ x = 2 ∨ x = 3 ∨ x = 4 ∨ x = 5 ∨ x = 6 ∨ x = 7 ∨ x = 8 ∨ x = 9 ∨ x = 10 ∨ x = 11 ∨ x = 12 ∨ x = 13 ∨ x = 14 ∨ x = 15 := by omega
  rcases this with h | h | h | h | h | h | h | h | h | h | h | h | h | h | h | h <;> subst h <;> decide
theorem v_eq {f : Int} {low : Nat} (hf : FL f low) {d n : Nat} (hd : 1 ≤ d) (hw : (d : Int) ≤ 256 * 2 ^ f.toNat) (hn : 3 ≤ n) (hn2 : n ≤ 1000) :
    IntKind.wrap .i64 ((if ((low - 1 : Nat) : Int) < ((n - 3 : Nat) : Int) then ((low - 1 : Nat) : Int) else ((n - 3 : Nat) : Int)) + (shlI .i64 (shrI .i64 (IntKind.wrap .i64 ((d : Int) - 1)) 8) (IntKind.wrap .i64 (8 - f)))) = (vOf low d n : Nat) := by
  have hv := vOf_le (n := n) hf hd hw
  have hd2 : d ≤ 4096 := by
    rcases hf with ⟨rfl, rfl⟩ | ⟨rfl, rfl⟩ | ⟨rfl, rfl⟩ | ⟨rfl, rfl⟩ <;> simp at hw <;> omega
  have e1 : IntKind.wrap .i64 ((d : Int) - 1) = ((d - 1 : Nat) : Int) := by rw [i64w (by omega)]; omega
  have e2 : shrI .i64 ((d - 1 : Nat) : Int) 8 = (((d - 1) / 256 : Nat) : Int) := by
    have := shr_div (x := ((d - 1 : Nat) : Int)) 8 (by omega)
    refine this.trans ?_
    norm_cast
  have hs := shl_k ((d - 1) / 256) (by omega)
  rw [e1, e2]
  unfold vOf at hv ⊢
  rcases hf with ⟨rfl, rfl⟩ | ⟨rfl, rfl⟩ | ⟨rfl, rfl⟩ | ⟨rfl, rfl⟩
  · rw [show IntKind.wrap .i64 (8 - 1) = 7 by decide, hs.1, i64w (by split <;> omega)]; split <;> omega
  · rw [show IntKind.wrap .i64 (8 - 2) = 6 by decide, hs.2.1, i64w (by split <;> omega)]; split <;> omega
  · rw [show IntKind.wrap .i64 (8 - 3) = 5 by decide, hs.2.2.1, i64w (by split <;> omega)]; split <;> omega
  · rw [show IntKind.wrap .i64 (8 - 4) = 4 by decide, hs.2.2.2, i64w (by split <;> omega)]; split <;> omega
theorem shl_256 {f : Int} {low : Nat} (hf : FL f low) : shlI .i64 256 f = 256 * 2 ^ f.toNat ∧ 256 * 2 ^ f.toNat ≤ (4096 : Int) ∧ 1 ≤ 256 * (2 : Int) ^ f.toNat ∧ IntKind.wrap .i64 (((low - 1 : Nat) : Int) + 258) = ((low - 1 + 258 : Nat) : Int) ∧ low ≤ 128 ∧ 16 ≤ low := by
  rcases hf with ⟨rfl, rfl⟩ | ⟨rfl, rfl⟩ | ⟨rfl, rfl⟩ | ⟨rfl, rfl⟩ <;> decide
theorem enc_loop {f : Int} {low : Nat} (hf : FL f low) {b y : Sl} {bs : List Int} {T : List Tok} (hb : bs.length ≤ 1000000000) {R : Nat} (hR : bs.length < R) :
    ∀ (ts : List Tok) (i k n : Nat) (h : GH) (out : Sl) (os : List Int), T.drop k = ts → k ≤ T.length → Til bs 3 ((low - 1 + 258 : Nat) : Int) (256 * 2 ^ f.toNat) ts i → ts.length < n → Row h y 3 (tokCs T) → Rd h b bs → Bv h out os → (∀ x ∈ rowsOf out, x ∉ rowsOf b ∧ x ∉ rowsOf y) → os.length ≤ 2 * i → T.length ≤ 1000000000 →
    ∃ h' out', Bv h' out' (os ++ encL low bs ts i) ∧ Keep h h' (rowsOf out) ∧ (∀ k ∈ rowsOf out', k ∈ rowsOf out ∨ h.next ≤ k) ∧ ∀ (β : Type) (K : Sl → GH → Option β),
      F_dle_Encode_l0 (F_dle_right R) (F_dle_mask R) (F_finder_Find R) (F_dle_plain R) R n b f ((low - 1 : Nat) : Int) out (i : Nat) y ((T.length : Nat) : Int) (k : Nat) h K = K out' h'
  | [], i, k, n, h, out, os, hT, hk, ht, hn, ry, rb, v, hs, hm, hTl => by
    obtain ⟨n, rfl⟩ : ∃ n', n = n' + 1 := ⟨n - 1, by omega⟩
    have := drop_nil_len hT hk
    refine ⟨h, out, by simpa [encL] using v, .refl _ _, fun k hk => .inl hk, fun β K => ?_⟩
    rw [F_dle_Encode_l0_succ, decF (by omega), condF]
  | t :: ts, i, k, n, h, out, os, hT, hk, ht, hn, ry, rb, v, hs, hm, hTl => by
    obtain ⟨n, rfl⟩ : ∃ n', n = n' + 1 := ⟨n - 1, by omega⟩
    have hkl : k < T.length := by
      rcases Nat.lt_or_ge k T.length with q | q
      · exact q
      · rw [List.drop_eq_nil_of_le q] at hT; cases hT
    rw [List.drop_eq_getElem_cons hkl] at hT
    obtain ⟨ht0, hT2⟩ := List.cons.inj hT
    subst ht0
    obtain ⟨gt, h2, k2, ct, e2⟩ := tmp_tokI h T[k]
    have v2 := v.keep k2 (by simp)
    have ry2 := ry.keep k2 (by simp)
    have rb2 := rb.keep k2 (by simp)
    have hbn := rb.n
    have hcap := rb.cap
    have h256 := shl_256 hf
    have f14 : 1 ≤ f ∧ f ≤ 4 := by rcases hf with ⟨rfl, rfl⟩ | ⟨rfl, rfl⟩ | ⟨rfl, rfl⟩ | ⟨rfl, rfl⟩ <;> decide
    have w8 : ¬ IntKind.wrap .i64 (8 - f) < 0 := by rw [i64w (by omega)]; omega
    have wk : IntKind.wrap .i64 ((k : Int) + 1) = ((k + 1 : Nat) : Int) := by rw [i64w (by omega)]; omega
    obtain ⟨hi, hcase⟩ := ht
    -- what goes on behind the news
    have goOn : ∀ (ns : List Int) (st : Nat) (h3 : GH) (o3 : Sl), Bv h3 o3 (os ++ ns) → Keep h h3 (rowsOf out) → (∀ x ∈ rowsOf o3, x ∈ rowsOf out ∨ h.next ≤ x) → ns.length ≤ 2 * st → Til bs 3 ((low - 1 + 258 : Nat) : Int) (256 * 2 ^ f.toNat) ts (i + st) →
        ∃ h' out', Bv h' out' (os ++ (ns ++ encL low bs ts (i + st))) ∧ Keep h h' (rowsOf out) ∧ (∀ k ∈ rowsOf out', k ∈ rowsOf out ∨ h.next ≤ k) ∧ ∀ (β : Type) (K : Sl → GH → Option β),
          F_dle_Encode_l0 (F_dle_right R) (F_dle_mask R) (F_finder_Find R) (F_dle_plain R) R n b f ((low - 1 : Nat) : Int) o3 ((i + st : Nat) : Int) y ((T.length : Nat) : Int) ((k + 1 : Nat) : Int) h3 K = K out' h' := by
      intro ns st h3 o3 v3 k3 n3 hl hT3
      obtain ⟨h4, o4, v4, k4, n4, e4⟩ := enc_loop hf hb hR ts (i + st) (k + 1) n h3 o3 (os ++ ns) hT2 (by omega) hT3 (by simp only [List.length_cons] at hn; omega)
        (ry.keep k3 (fun x hx hy => (hs x hy).2 hx)) (rb.keep k3 (fun x hx hy => (hs x hy).1 hx)) v3 (fun x hx => (n3 x hx).elim (hs x) fun q => ⟨fun hy => by have := rb.lt x hy; omega, fun hy => by have := ry.lt x hy; omega⟩) (by simp; omega) hTl
      refine ⟨h4, o4, by simpa using v4, k3.trans k4 (fun x hx => n3 x hx), fun x hx => ?_, e4⟩
      rcases n4 x hx with q | q
      · exact n3 x q
      · exact .inr (by have := k3.1; omega)
    -- a piece told as it is
    have asIs : ∀ st : Nat, 1 ≤ st → i + st ≤ bs.length → Til bs 3 ((low - 1 + 258 : Nat) : Int) (256 * 2 ^ f.toNat) ts (i + st) → ∃ h' out', Bv h' out' (os ++ (plainS ((bs.drop i).take st) ++ encL low bs ts (i + st))) ∧ Keep h h' (rowsOf out) ∧ (∀ k ∈ rowsOf out', k ∈ rowsOf out ∨ h.next ≤ k) ∧ ∀ (β : Type) (K : Sl → GH → Option β),
        (bnd (IntKind.wrap .i64 (((i : Nat) : Int) + ((st : Nat) : Int))) b.c fun m30 => bnd ((i : Nat) : Int) m30 fun m31 => F_dle_plain R out ⟨addO b.a (m31 * 1), m30 - m31, b.c - m31⟩ h2 fun r32 h33 => F_dle_Encode_l0 (F_dle_right R) (F_dle_mask R) (F_finder_Find R) (F_dle_plain R) R n b f ((low - 1 : Nat) : Int) r32 (IntKind.wrap .i64 (((i : Nat) : Int) + ((st : Nat) : Int))) y ((T.length : Nat) : Int) ((k + 1 : Nat) : Int) h33 K) = K out' h' := by
      intro st hst his hT3
      have rc := rb2.cut (lo := i) (hi := i + st) (mx := b.c) (by omega) (by omega) (by omega) (Nat.le_refl _)
      have hsub : ∀ x ∈ rowsOf (⟨addO b.a (i * 1), i + st - i, b.c - i⟩ : Sl), x ∉ rowsOf out := by
        intro x hx hy
        refine (hs x hy).1 ?_
        cases ha : b.a with
        | none => rw [ha] at hx; simp [rowsOf, addO] at hx
        | some a => rw [ha] at hx; simpa [rowsOf, addO, ha] using hx
      rw [show i + st - i = st by omega] at rc hsub
      obtain ⟨h3, o3, v3, k3, n3, e3⟩ := plain_eq (by simp; omega) v2 rc hsub (by omega) (R := R) (by simp; omega)
      obtain ⟨h4, o4, v4, k4, n4, e4⟩ := goOn _ st h3 o3 v3 ((k2.mono (by simp)).trans k3 (fun x hx => .inl hx)) (fun x hx => (n3 x hx).imp id fun q => by have := k2.1; omega) (by have := plainS_len ((bs.drop i).take st); simp at this; omega) hT3
      refine ⟨h4, o4, v4, k4, n4, fun β K => ?_⟩
      have w := i64w (x := ((i : Int) + (st : Int))) (by omega)
      rw [w, bnd_t (by omega) (by omega), bnd_t (by omega) (by omega)]
      simp only [show ((i : Nat) : Int).toNat = i by omega, show ((i : Int) + (st : Int)).toNat = i + st by omega, show i + st - i = st by omega]
      rw [e3, show (i : Int) + (st : Int) = ((i + st : Nat) : Int) by omega, e4]
    rcases hcase with ⟨e0, hT3⟩ | ⟨d, m, e0, hm3, hmx, hd1, hdi, hdw, him, hsame, hT3⟩
    · obtain ⟨h4, o4, v4, k4, n4, e4⟩ := asIs 1 (Nat.le_refl _) (by omega) hT3
      refine ⟨h4, o4, ?_, k4, n4, fun β K => ?_⟩
      · rw [encL, encT]
        unfold Fd.stepT
        rw [e0]
        simp only [if_true]
        exact v4
      · rw [F_dle_Encode_l0_succ, decT (by omega), condT]
        refine (tok_at ry hkl _).trans ?_
        rw [e2]
        simp only [ct, Nat.zero_add, nth_s, nth_0, exI_s]
        rw [decF w8, condF, wk]
        have e4' := e4 β K
        simp only [e0, Int.natCast_one] at e4' ⊢
        rw [beq_self_eq_true, condT, if_pos (by decide : (1 : Int) > 0)]
        exact e4'
    · have h256b := h256.2.1
      have hm4 : m ≤ 1000 := by omega
      have hm3' : 3 ≤ m := by omega
      have hv := v_eq hf (n := m) hd1 hdw hm3' hm4
      have hvle := vOf_le (n := m) hf hd1 hdw
      have hN : (if (1 : Int) > (m : Int) then 1 else (m : Int)) = (m : Int) := if_neg (by omega)
      have w3 : IntKind.wrap .i64 ((m : Int) - 3) = ((m - 3 : Nat) : Int) := by rw [i64w (by omega)]; omega
      have u1 : IntKind.wrap .u8 ((vOf low d m : Nat) : Int) = (vOf low d m : Nat) := IntWalk.u8_in _ (by omega)
      have u2 : IntKind.wrap .u8 (IntKind.wrap .i64 ((d : Int) - 1)) = (((d - 1) % 256 : Nat) : Int) := by rw [i64w (by omega), IntKind.wrap_u8]; omega
      have hwi : IntKind.wrap .i64 ((i : Int) + (m : Int)) = ((i + m : Nat) : Int) := by rw [i64w (by omega)]; omega
      by_cases hv0 : vOf low d m = 0
      · obtain ⟨h4, o4, v4, k4, n4, e4⟩ := asIs m (by omega) him hT3
        refine ⟨h4, o4, ?_, k4, n4, fun β K => ?_⟩
        · rw [encL, encT]
          unfold Fd.stepT
          rw [e0]
          simp only [Int.toNat_natCast]
          rw [if_neg (by omega), if_pos hv0, if_neg (by omega)]
          exact v4
        · rw [F_dle_Encode_l0_succ, decT (by omega), condT]
          refine (tok_at ry hkl _).trans ?_
          rw [e2]
          simp only [ct, Nat.zero_add, nth_s, nth_0, exI_s]
          rw [decF w8, condF, wk]
          have e4' := e4 β K
          simp only [e0, hN, w3] at e4' ⊢
          rw [beq_int, decF (by omega), condF, hv, hv0, beq_int, decT (by simp), condT]
          exact e4'
      · by_cases hfull : low - 1 ≤ m - 3
        · obtain ⟨h3, o3, e3, v3, k3, n3⟩ := app_u8s v2 [144, (vOf low d m : Nat), ((m - 3 - (low - 1) : Nat) : Int), (((d - 1) % 256 : Nat) : Int)] (by simp; omega)
          obtain ⟨h4, o4, v4, k4, n4, e4⟩ := goOn _ m h3 o3 v3 ((k2.mono (by simp)).trans k3 (fun x hx => .inl hx)) (fun x hx => (n3 x hx).imp id fun q => by have := k2.1; omega) (by simp; omega) hT3
          refine ⟨h4, o4, ?_, k4, n4, fun β K => ?_⟩
          · rw [encL, encT]
            unfold Fd.stepT
            rw [e0]
            simp only [Int.toNat_natCast]
            rw [if_neg (by omega), if_neg hv0, if_neg (by omega), encC, if_pos hfull]
            exact v4
          · have hmin : (if ((low - 1 : Nat) : Int) < ((m - 3 : Nat) : Int) then ((low - 1 : Nat) : Int) else ((m - 3 : Nat) : Int)) = ((low - 1 : Nat) : Int) := by split <;> omega
            have w4 : IntKind.wrap .i64 (((m - 3 : Nat) : Int) - ((low - 1 : Nat) : Int)) = ((m - 3 - (low - 1) : Nat) : Int) := by rw [i64w (by omega)]; omega
            have u4 : IntKind.wrap .u8 ((m - 3 - (low - 1) : Nat) : Int) = ((m - 3 - (low - 1) : Nat) : Int) := IntWalk.u8_in _ (by omega)
            rw [F_dle_Encode_l0_succ, decT (by omega), condT]
            refine (tok_at ry hkl _).trans ?_
            rw [e2]
            simp only [ct, Nat.zero_add, nth_s, nth_0, exI_s]
            rw [decF w8, condF, wk]
            simp only [e0, hN, w3]
            rw [beq_int, decF (by omega), condF, hv, beq_int, decF (by omega), condF, hmin, beq_int, decT rfl, condT, u1, u2, w4, u4]
            refine (e3 β _).trans ?_
            rw [hwi, e4]
        · obtain ⟨h3, o3, e3, v3, k3, n3⟩ := app_u8s v2 [144, (vOf low d m : Nat), (((d - 1) % 256 : Nat) : Int)] (by simp; omega)
          obtain ⟨h4, o4, v4, k4, n4, e4⟩ := goOn _ m h3 o3 v3 ((k2.mono (by simp)).trans k3 (fun x hx => .inl hx)) (fun x hx => (n3 x hx).imp id fun q => by have := k2.1; omega) (by simp; omega) hT3
          refine ⟨h4, o4, ?_, k4, n4, fun β K => ?_⟩
          · rw [encL, encT]
            unfold Fd.stepT
            rw [e0]
            simp only [Int.toNat_natCast]
            rw [if_neg (by omega), if_neg hv0, if_neg (by omega), encC, if_neg hfull]
            exact v4
          · have hmin : (if ((low - 1 : Nat) : Int) < ((m - 3 : Nat) : Int) then ((low - 1 : Nat) : Int) else ((m - 3 : Nat) : Int)) = ((m - 3 : Nat) : Int) := if_neg (by omega)
            rw [F_dle_Encode_l0_succ, decT (by omega), condT]
            refine (tok_at ry hkl _).trans ?_
            rw [e2]
            simp only [ct, Nat.zero_add, nth_s, nth_0, exI_s]
            rw [decF w8, condF, wk]
            simp only [e0, hN, w3]
            rw [beq_int, decF (by omega), condF, hv, beq_int, decF (by omega), condF, hmin, beq_int, decF (by omega), condF, u1, u2]
            refine (e3 β _).trans ?_
            rw [hwi, e4]
theorem right_eq {f : Int} (h1 : 1 ≤ f) (h4 : f ≤ 4) (h : GH) (R : Nat) {β : Type} (K : Bool → GH → Option β) : F_dle_right R f h K = K true h := by
  unfold F_dle_right
  rw [F_dle_right_gen, decT (by omega), condT, decT (by omega)]
theorem mask_eq {f : Int} {low : Nat} (hf : FL f low) (h : GH) (R : Nat) {β : Type} (K : Int → GH → Option β) : F_dle_mask R f h K = K ((low - 1 : Nat) : Int) h := by
  unfold F_dle_mask
  rw [F_dle_mask_gen]
  rcases hf with ⟨rfl, rfl⟩ | ⟨rfl, rfl⟩ | ⟨rfl, rfl⟩ | ⟨rfl, rfl⟩ <;> rw [decF (by decide), condF] <;> congr 1
theorem encode_eq {h : GH} {b : Sl} {bs : List Int} (r : Rd h b bs) {f : Int} {low : Nat} (hf : FL f low) (hb : bs.length ≤ 1000000000) {R : Nat} (hR : bs.length < R) :
    ∃ h' out, Bv h' out (encL low bs (toks f low bs) 0) ∧ Keep h h' [] ∧ (∀ x ∈ rowsOf out, h.next ≤ x) ∧ ∀ (β : Type) (K : Sl → Int → GH → Option β), F_dle_Encode R b f h K = K out 0 h' := by
  have h256 := shl_256 hf
  have f14 : 1 ≤ f ∧ f ≤ 4 := by rcases hf with ⟨rfl, rfl⟩ | ⟨rfl, rfl⟩ | ⟨rfl, rfl⟩ | ⟨rfl, rfl⟩ <;> decide
  have hz : ShOk ⟨256 * 2 ^ f.toNat, 3, ((low - 1 + 258 : Nat) : Int), 64, true⟩ := ⟨.inr rfl, ⟨h256.2.2.1, by have := h256.2.1; simp only; omega⟩, ⟨by simp only; omega, by have := h256.2.2.2.2.1; simp only; omega⟩, ⟨by simp, by simp⟩⟩
  obtain ⟨h1, y, v1, k1, n1, e1⟩ := find_eq r hz hb hR
  replace v1 : Vec h1 y 3 (tokCs (toks f low bs)) := v1
  replace e1 : ∀ (β : Type) (K : Sl → Int → GH → Option β), F_finder_Find R b (256 * 2 ^ f.toNat) 3 ((low - 1 + 258 : Nat) : Int) 64 true h K = K y 0 h1 := e1
  have htil : Til bs 3 ((low - 1 + 258 : Nat) : Int) (256 * 2 ^ f.toNat) (toks f low bs) 0 := findSpec_til (.inr rfl) (by omega)
  have htl := til_len _ _ htil
  have hyn : y.n = (toks f low bs).length := by have := v1.len; rw [tokCs_len] at this; omega
  obtain ⟨h2, out, v2, k2, n2, e2⟩ := enc_loop hf hb hR (toks f low bs) 0 0 R h1 ⟨none, 0, 0⟩ [] (List.drop_zero) (Nat.zero_le _) htil (by omega) v1.row (r.keep k1 (by simp)) Vec.nil (by simp [rowsOf]) (by simp) (by omega)
  refine ⟨h2, out, by simpa using v2, k1.trans (o1 := []) (k2.mono (by simp [rowsOf])) (by simp), fun x hx => ?_, fun β K => ?_⟩
  · rcases n2 x hx with q | q
    · simp [rowsOf] at q
    · have := k1.1; omega
  · unfold F_dle_Encode
    rw [F_dle_Encode_gen, right_eq f14.1 f14.2, notT, condF, mask_eq hf, decF (by omega), condF, h256.1, h256.2.2.2.1]
    refine (e1 β _).trans ?_
    rw [bne_self_eq_false, condF, hyn]
    exact e2 β _
end Go.Proofs.Ytdmemmpkkibckaa.Gx

