/- The document's encoder, walked: two, Encode. No condition. -/
import Derived.Test.YtdmemmpkkibckaaRf9
import Derived.Test.YtdmemmpkkibckaaFndC
namespace Go.Proofs.Ytdmemmpkkibckaa.Gx
open Go Go.RowKit Fd
set_option linter.unusedVariables false
set_option linter.unusedSimpArgs false
theorem two_loop (a : Nat) (ha : a ≤ 10) (R : Nat) (h : GH) {β : Type} (K : Int → GH → Option β) : ∀ (d c n : Nat), c + d = a → d < n → F_ref13_two_l0 R n ((a : Nat) : Int) ((2 ^ c : Nat) : Int) ((c : Nat) : Int) h K = K ((2 ^ a : Nat) : Int) h
  | 0, c, n, h1, h2 => by
    obtain ⟨n, rfl⟩ : ∃ n', n = n' + 1 := ⟨n - 1, by omega⟩
    rw [F_ref13_two_l0_succ, decF (by omega), condF, show c = a by omega]
  | d + 1, c, n, h1, h2 => by
    obtain ⟨n, rfl⟩ : ∃ n', n = n' + 1 := ⟨n - 1, by omega⟩
    have hp : 2 ^ c ≤ 2 ^ 10 := Nat.pow_le_pow_right (by omega) (by omega)
    rw [show (2 : Nat) ^ 10 = 1024 by decide] at hp
    have ih := two_loop a ha R h K d (c + 1) n (by omega) (by omega)
    rw [Nat.pow_succ] at ih
    generalize 2 ^ c = P at *
    rw [F_ref13_two_l0_succ, decT (by omega), condT, i64w (by omega), i64w (by omega), show ((P : Nat) : Int) * 2 = ((P * 2 : Nat) : Int) by omega, show ((c : Nat) : Int) + 1 = ((c + 1 : Nat) : Int) by omega]
    exact ih
theorem two_eq {a : Int} (h0 : 0 ≤ a) (ha : a ≤ 10) {R : Nat} (hR : 100 ≤ R) (h : GH) {β : Type} (K : Int → GH → Option β) : F_ref13_two R a h K = K (2 ^ a.toNat) h := by
  obtain ⟨n, rfl⟩ : ∃ n : Nat, a = n := ⟨a.toNat, by omega⟩
  unfold F_ref13_two
  rw [F_ref13_two_gen]
  have := two_loop n (by omega) R h (fun w6 h7 => K w6 h7) n 0 R (by omega) (by omega)
  rw [Nat.pow_zero, show ((1 : Nat) : Int) = 1 from rfl, show ((0 : Nat) : Int) = 0 from rfl] at this
  rw [this, Int.toNat_natCast]
  congr 1
/-- a piece of bytes told as they are -/
theorem piece_loop {b y : Sl} {bs : List Int} (hb : bs.length ≤ 1000000) (low kk at_ st : Nat) (hst : at_ + st ≤ bs.length) {R : Nat} :
    ∀ (d k n : Nat) (h : GH) (out : Sl) (os : List Int), k + d = at_ + st → d < n → Bv h out os → Rd h b bs → (∀ x ∈ rowsOf out, x ∉ rowsOf b) → os.length + 2 * d ≤ 100000000 →
    ∃ h' out', Bv h' out' (os ++ plainS ((bs.drop k).take d)) ∧ Keep h h' (rowsOf out) ∧ (∀ x ∈ rowsOf out', x ∈ rowsOf out ∨ h.next ≤ x) ∧ ∀ (β : Type) (F1 : Int → GH → (Int → GH → Option β) → Option β) (F2 : Sl → Int → Int → Int → Int → Bool → GH → (Sl → Int → GH → Option β) → Option β) (K : Sl → Int → Sl → Sl → Int → Int → Int → GH → Option β),
      F_ref13_Encode_l1 F1 F2 R n b (low : Nat) y out (at_ : Nat) (kk : Nat) (st : Nat) (k : Nat) h K = K b (low : Nat) y out' (at_ : Nat) (kk : Nat) (st : Nat) h'
  | 0, k, n, h, out, os, hd, hn, v, r, hs, hm => by
    obtain ⟨n, rfl⟩ : ∃ n', n = n' + 1 := ⟨n - 1, by omega⟩
    refine ⟨h, out, by simpa [plainS] using v, .refl _ _, fun x hx => .inl hx, fun β F1 F2 K => ?_⟩
    rw [F_ref13_Encode_l1_succ, i64w (x := ((at_ : Nat) : Int) + ((st : Nat) : Int)) (by omega), decF (by omega), condF]
  | d + 1, k, n, h, out, os, hd, hn, v, r, hs, hm => by
    obtain ⟨n, rfl⟩ : ∃ n', n = n' + 1 := ⟨n - 1, by omega⟩
    have hc : bs.drop k = bs.getD k 0 :: bs.drop (k + 1) := by
      rw [List.drop_eq_getElem_cons (by omega), List.getD_eq_getElem?_getD, List.getElem?_eq_getElem (by omega), Option.getD_some]
    have hw : IntKind.wrap .i64 ((k : Int) + 1) = ((k + 1 : Nat) : Int) := by rw [i64w (by omega)]; omega
    have hw2 : IntKind.wrap .i64 (((at_ : Nat) : Int) + ((st : Nat) : Int)) = ((at_ : Nat) : Int) + ((st : Nat) : Int) := i64w (by omega)
    obtain ⟨h1, o1, e1, v1, k1, n1⟩ := app_u8s v [bs.getD k 0] (by simp; omega)
    have hs1 : ∀ x ∈ rowsOf o1, x ∉ rowsOf b := fun x hx hy => (n1 x hx).elim (fun q => hs x q hy) fun q => by have := r.lt x hy; omega
    have r1 := r.keep k1 (fun x hx hy => hs x hy hx)
    have q1 := fun β K => r.byte (β := β) (i := ((k : Nat) : Int)) (by omega) (by omega) K
    have q2 := fun β K => r1.byte (β := β) (i := ((k : Nat) : Int)) (by omega) (by omega) K
    by_cases c : bs.getD k 0 = 144
    · obtain ⟨h2, o2, e2, v2, k2, n2⟩ := app_u8s v1 [0] (by simp; omega)
      have hs2 : ∀ x ∈ rowsOf o2, x ∉ rowsOf b := fun x hx hy => (n2 x hx).elim (fun q => hs1 x q hy) fun q => by have := r1.lt x hy; omega
      obtain ⟨h3, o3, v3, k3, n3, e3⟩ := piece_loop hb low kk at_ st hst (y := y) (R := R) d (k + 1) n h2 o2 (os ++ [bs.getD k 0] ++ [0]) (by omega) (by omega) v2 (r1.keep k2 (fun x hx hy => hs1 x hy hx)) hs2 (by simp; omega)
      refine ⟨h3, o3, ?_, (k1.trans k2 fun x hx => n1 x hx).trans k3 fun x hx => ?_, fun x hx => ?_, fun β F1 F2 K => ?_⟩
      · rw [hc, List.take_succ_cons, show plainS (bs.getD k 0 :: (bs.drop (k + 1)).take d) = [bs.getD k 0] ++ [0] ++ plainS ((bs.drop (k + 1)).take d) by
          show plainB (bs.getD k 0) ++ plainS ((bs.drop (k + 1)).take d) = _
          rw [plainB, if_pos c]; rfl]
        simpa using v3
      · rcases n2 x hx with q | q
        · exact n1 x q
        · exact .inr (by have := k1.1; omega)
      · rcases n3 x hx with q | q
        · rcases n2 x q with q | q
          · exact n1 x q
          · exact .inr (by have := k1.1; omega)
        · exact .inr (by have := k1.1; have := k2.1; omega)
      · rw [F_ref13_Encode_l1_succ, hw2, decT (by omega), condT, q1, Int.toNat_natCast]
        refine (e1 β _).trans ?_
        refine (q2 β _).trans ?_
        rw [Int.toNat_natCast, beq_int, decT c, condT]
        refine (e2 β _).trans ?_
        rw [hw]
        exact e3 β F1 F2 K
    · obtain ⟨h3, o3, v3, k3, n3, e3⟩ := piece_loop hb low kk at_ st hst (y := y) (R := R) d (k + 1) n h1 o1 (os ++ [bs.getD k 0]) (by omega) (by omega) v1 r1 hs1 (by simp; omega)
      refine ⟨h3, o3, ?_, k1.trans k3 fun x hx => n1 x hx, fun x hx => ?_, fun β F1 F2 K => ?_⟩
      · rw [hc, List.take_succ_cons, show plainS (bs.getD k 0 :: (bs.drop (k + 1)).take d) = [bs.getD k 0] ++ plainS ((bs.drop (k + 1)).take d) by
          show plainB (bs.getD k 0) ++ plainS ((bs.drop (k + 1)).take d) = _
          rw [plainB, if_neg c]]
        simpa using v3
      · rcases n3 x hx with q | q
        · exact n1 x q
        · exact .inr (by have := k1.1; omega)
      · rw [F_ref13_Encode_l1_succ, hw2, decT (by omega), condT, q1, Int.toNat_natCast]
        refine (e1 β _).trans ?_
        refine (q2 β _).trans ?_
        rw [Int.toNat_natCast, beq_int, decF c, condF, hw]
        exact e3 β F1 F2 K
/-- one number of a token read -/
theorem tok_dist {h : GH} {y : Sl} {l : List Tok} (r : Row h y 3 (tokCs l)) {k : Nat} (hk : k < l.length) {β : Type} (K : Int → Option β) :
    (exA y.a fun g o => within (k : Nat) y.n (exI .i64 (h.cell ⟨g, o + ((k : Nat) : Int).toNat * 3 + 1, none⟩) K)) = K l[k].dist := by
  have hn : y.n = l.length := by have := r.len; rw [tokCs_len] at this; omega
  obtain ⟨g, o, ha, hc⟩ := r.cell (by omega) (by omega)
  obtain ⟨q1, q2, q3⟩ := tokCs_get l k hk
  have hl := tokCs_len l
  rw [ha]
  simp only [exA_s]
  rw [within_t (by omega) (by omega), Int.toNat_natCast, Nat.add_assoc o, hc _ (by omega), q2, exI_s]
theorem tok_len {h : GH} {y : Sl} {l : List Tok} (r : Row h y 3 (tokCs l)) {k : Nat} (hk : k < l.length) {β : Type} (K : Int → Option β) :
    (exA y.a fun g o => within (k : Nat) y.n (exI .i64 (h.cell ⟨g, o + ((k : Nat) : Int).toNat * 3 + 2, none⟩) K)) = K l[k].len := by
  have hn : y.n = l.length := by have := r.len; rw [tokCs_len] at this; omega
  obtain ⟨g, o, ha, hc⟩ := r.cell (by omega) (by omega)
  obtain ⟨q1, q2, q3⟩ := tokCs_get l k hk
  have hl := tokCs_len l
  rw [ha]
  simp only [exA_s]
  rw [within_t (by omega) (by omega), Int.toNat_natCast, Nat.add_assoc o, hc _ (by omega), q3, exI_s]
theorem vR_eq {f : Int} {low : Nat} (hf : FL f low) {d n : Nat} (hd : 1 ≤ d) (hw : (d : Int) ≤ 256 * 2 ^ f.toNat) (hn : 3 ≤ n) (hn2 : n ≤ 1000) :
    IntKind.wrap .i64 ((if ((low : Nat) : Int) - 1 < ((n : Nat) : Int) - 3 then ((low : Nat) : Int) - 1 else ((n : Nat) : Int) - 3) + IntKind.wrap .i64 (((low : Nat) : Int) * IntKind.wrap .i64 (Int.tdiv (IntKind.wrap .i64 (((d : Nat) : Int) - 1)) 256))) = (vOf low d n : Nat) := by
  have hv := vOf_le (n := n) hf hd hw
  have hl := FL_pow hf
  have hd2 : d ≤ 4096 := by
    rcases hf with ⟨rfl, rfl⟩ | ⟨rfl, rfl⟩ | ⟨rfl, rfl⟩ | ⟨rfl, rfl⟩ <;> simp at hw <;> omega
  have e1 : IntKind.wrap .i64 ((d : Int) - 1) = ((d - 1 : Nat) : Int) := by rw [i64w (by omega)]; omega
  have hq : (d - 1) / 256 ≤ 15 := by omega
  have e3 : ((low : Nat) : Int) * (((d - 1) / 256 : Nat) : Int) = (((d - 1) / 256 * low : Nat) : Int) := by rw [Int.natCast_mul]; exact Int.mul_comm _ _
  have hm : (d - 1) / 256 * low ≤ 15 * 128 := Nat.mul_le_mul hq (by omega)
  rw [e1, show Int.tdiv ((d - 1 : Nat) : Int) 256 = (((d - 1) / 256 : Nat) : Int) from rfl, i64w (x := (((d - 1) / 256 : Nat) : Int)) (by omega), e3, i64w (x := (((d - 1) / 256 * low : Nat) : Int)) (by omega)]
  unfold vOf at hv ⊢
  rw [i64w (by split <;> omega)]
  split <;> omega
theorem encR_loop {f : Int} {low : Nat} (hf : FL f low) {b y : Sl} {bs : List Int} {T : List Tok} (hb : bs.length ≤ 1000000) {R : Nat} (hR : bs.length < R) :
    ∀ (ts : List Tok) (i k n : Nat) (h : GH) (out : Sl) (os : List Int), T.drop k = ts → k ≤ T.length → Til bs 3 ((low - 1 + 258 : Nat) : Int) (256 * 2 ^ f.toNat) ts i → ts.length < n → Row h y 3 (tokCs T) → Rd h b bs → Bv h out os → (∀ x ∈ rowsOf out, x ∉ rowsOf b ∧ x ∉ rowsOf y) → os.length ≤ 2 * i → T.length ≤ 1000000 →
    ∃ h' out', Bv h' out' (os ++ encL low bs ts i) ∧ Keep h h' (rowsOf out) ∧ (∀ k ∈ rowsOf out', k ∈ rowsOf out ∨ h.next ≤ k) ∧ ∀ (β : Type) (K : Sl → GH → Option β),
      F_ref13_Encode_l0 (F_ref13_two R) (F_ref09_Find R) R n b (low : Nat) y out (i : Nat) (k : Nat) h K = K out' h'
  | [], i, k, n, h, out, os, hT, hk, ht, hn, ry, rb, v, hs, hm, hTl => by
    obtain ⟨n, rfl⟩ : ∃ n', n = n' + 1 := ⟨n - 1, by omega⟩
    have := drop_nil_len hT hk
    have hyn : y.n = T.length := by have := ry.len; rw [tokCs_len] at this; omega
    refine ⟨h, out, by simpa [encL] using v, .refl _ _, fun k hk => .inl hk, fun β K => ?_⟩
    rw [F_ref13_Encode_l0_succ, decF (by omega), condF]
  | t :: ts, i, k, n, h, out, os, hT, hk, ht, hn, ry, rb, v, hs, hm, hTl => by
    obtain ⟨n, rfl⟩ : ∃ n', n = n' + 1 := ⟨n - 1, by omega⟩
    have hkl : k < T.length := by
      rcases Nat.lt_or_ge k T.length with q | q
      · exact q
      · rw [List.drop_eq_nil_of_le q] at hT; cases hT
    rw [List.drop_eq_getElem_cons hkl] at hT
    obtain ⟨ht0, hT2⟩ := List.cons.inj hT
    subst ht0
    have hyn : y.n = T.length := by have := ry.len; rw [tokCs_len] at this; omega
    have hbn := rb.n
    have h256 := shl_256 hf
    have f14 : 1 ≤ f ∧ f ≤ 4 := by rcases hf with ⟨rfl, rfl⟩ | ⟨rfl, rfl⟩ | ⟨rfl, rfl⟩ | ⟨rfl, rfl⟩ <;> decide
    have wk : IntKind.wrap .i64 ((k : Int) + 1) = ((k + 1 : Nat) : Int) := by rw [i64w (by omega)]; omega
    have wlow : IntKind.wrap .i64 (((low : Nat) : Int) - 1) = ((low : Nat) : Int) - 1 := i64w (by omega)
    obtain ⟨hi, hcase⟩ := ht
    have tl := fun β K => tok_len (β := β) ry hkl K
    -- what goes on behind the news
    have goOn : ∀ (ns : List Int) (st : Nat) (h3 : GH) (o3 : Sl), Bv h3 o3 (os ++ ns) → Keep h h3 (rowsOf out) → (∀ x ∈ rowsOf o3, x ∈ rowsOf out ∨ h.next ≤ x) → ns.length ≤ 2 * st → Til bs 3 ((low - 1 + 258 : Nat) : Int) (256 * 2 ^ f.toNat) ts (i + st) →
        ∃ h' out', Bv h' out' (os ++ (ns ++ encL low bs ts (i + st))) ∧ Keep h h' (rowsOf out) ∧ (∀ k ∈ rowsOf out', k ∈ rowsOf out ∨ h.next ≤ k) ∧ ∀ (β : Type) (K : Sl → GH → Option β),
          F_ref13_Encode_l0 (F_ref13_two R) (F_ref09_Find R) R n b (low : Nat) y o3 ((i + st : Nat) : Int) ((k + 1 : Nat) : Int) h3 K = K out' h' := by
      intro ns st h3 o3 v3 k3 n3 hl hT3
      obtain ⟨h4, o4, v4, k4, n4, e4⟩ := encR_loop hf hb hR ts (i + st) (k + 1) n h3 o3 (os ++ ns) hT2 (by omega) hT3 (by simp only [List.length_cons] at hn; omega)
        (ry.keep k3 (fun x hx hy => (hs x hy).2 hx)) (rb.keep k3 (fun x hx hy => (hs x hy).1 hx)) v3 (fun x hx => (n3 x hx).elim (hs x) fun q => ⟨fun hy => by have := rb.lt x hy; omega, fun hy => by have := ry.lt x hy; omega⟩) (by simp; omega) hTl
      refine ⟨h4, o4, by simpa using v4, k3.trans k4 (fun x hx => n3 x hx), fun x hx => ?_, e4⟩
      rcases n4 x hx with q | q
      · exact n3 x q
      · exact .inr (by have := k3.1; omega)
    -- a piece told as it is
    have asIs : ∀ st : Nat, 1 ≤ st → i + st ≤ bs.length → Til bs 3 ((low - 1 + 258 : Nat) : Int) (256 * 2 ^ f.toNat) ts (i + st) → ∃ h' out', Bv h' out' (os ++ (plainS ((bs.drop i).take st) ++ encL low bs ts (i + st))) ∧ Keep h h' (rowsOf out) ∧ (∀ k ∈ rowsOf out', k ∈ rowsOf out ∨ h.next ≤ k) ∧ ∀ (β : Type) (K : Sl → GH → Option β),
        F_ref13_Encode_l1 (F_ref13_two R) (F_ref09_Find R) R R b (low : Nat) y out (i : Nat) (k : Nat) (st : Nat) (i : Nat) h (fun w52 w53 w54 w55 w56 w57 w58 h59 => F_ref13_Encode_l0 (F_ref13_two R) (F_ref09_Find R) R n w52 w53 w54 w55 (IntKind.wrap .i64 (w56 + w58)) (IntKind.wrap .i64 (w57 + 1)) h59 K) = K out' h' := by
      intro st hst his hT3
      obtain ⟨h3, o3, v3, k3, n3, e3⟩ := piece_loop hb low k i st his (b := b) (y := y) (R := R) st i R h out os rfl (by omega) v rb (fun x hx => (hs x hx).1) (by omega)
      obtain ⟨h4, o4, v4, k4, n4, e4⟩ := goOn _ st h3 o3 v3 k3 n3 (by have := plainS_len ((bs.drop i).take st); simp at this; omega) hT3
      refine ⟨h4, o4, v4, k4, n4, fun β K => ?_⟩
      refine (e3 β _ _ _).trans ?_
      rw [wk, i64w (by omega), show (i : Int) + (st : Int) = ((i + st : Nat) : Int) by omega, e4]
    rcases hcase with ⟨e0, hT3⟩ | ⟨d, m, e0, hm3, hmx, hd1, hdi, hdw, him, hsame, hT3⟩
    · obtain ⟨h4, o4, v4, k4, n4, e4⟩ := asIs 1 (Nat.le_refl _) (by omega) hT3
      refine ⟨h4, o4, ?_, k4, n4, fun β K => ?_⟩
      · rw [encL, encT]
        unfold Fd.stepT
        rw [e0]
        simp only [if_true]
        exact v4
      · rw [F_ref13_Encode_l0_succ, decT (by omega), condT]
        refine (tl β _).trans ?_
        rw [e0]
        simp only
        rw [decF (by omega), condF, beq_self_eq_true, condT, condT]
        exact e4 β K
    · have h256b := h256.2.1
      have hm4 : m ≤ 1000 := by omega
      have hm3' : 3 ≤ m := by omega
      have hv := vR_eq hf (n := m) hd1 hdw hm3' hm4
      have hvle := vOf_le (n := m) hf hd1 hdw
      have td := fun β (h3 : GH) (q : Row h3 y 3 (tokCs T)) K => tok_dist (β := β) q hkl K
      have w3 : IntKind.wrap .i64 ((m : Int) - 3) = ((m : Nat) : Int) - 3 := i64w (by omega)
      have u1 : IntKind.wrap .u8 ((vOf low d m : Nat) : Int) = (vOf low d m : Nat) := IntWalk.u8_in _ (by omega)
      have u2 : IntKind.wrap .u8 (Int.tmod (IntKind.wrap .i64 ((d : Int) - 1)) 256) = (((d - 1) % 256 : Nat) : Int) := by
        rw [i64w (by omega), show ((d : Int) - 1) = ((d - 1 : Nat) : Int) by omega, show Int.tmod ((d - 1 : Nat) : Int) 256 = (((d - 1) % 256 : Nat) : Int) from rfl, IntWalk.u8_in _ (by omega)]
      have hwi : IntKind.wrap .i64 ((i : Int) + (m : Int)) = ((i + m : Nat) : Int) := by rw [i64w (by omega)]; omega
      -- the way to the kind of the token
      have start : ∀ (β : Type) (K : Sl → GH → Option β), F_ref13_Encode_l0 (F_ref13_two R) (F_ref09_Find R) R (n + 1) b (low : Nat) y out (i : Nat) (k : Nat) h K = (bif ((vOf low d m : Nat) : Int) == 0 then F_ref13_Encode_l1 (F_ref13_two R) (F_ref09_Find R) R R b (low : Nat) y out (i : Nat) (k : Nat) (m : Nat) (i : Nat) h (fun w52 w53 w54 w55 w56 w57 w58 h59 => F_ref13_Encode_l0 (F_ref13_two R) (F_ref09_Find R) R n w52 w53 w54 w55 (IntKind.wrap .i64 (w56 + w58)) (IntKind.wrap .i64 (w57 + 1)) h59 K) else gnew [Value.int .u8 144, Value.int .u8 (vOf low d m : Nat)] 1 h fun g90 h91 => gappS 1 1 out ⟨(some ⟨g90, 0, none⟩), 2, 2⟩ h91 fun s92 h93 => (bif decide (((m : Nat) : Int) - 3 ≥ ((low : Nat) : Int) - 1) then gnew [Value.int .u8 (IntKind.wrap .u8 (IntKind.wrap .i64 ((((m : Nat) : Int) - 3) - (((low : Nat) : Int) - 1))))] 1 h93 fun g94 h95 => gappS 1 1 s92 ⟨(some ⟨g94, 0, none⟩), 1, 1⟩ h95 fun s96 h97 => exA y.a fun g98 o99 => within (k : Nat) y.n (exI .i64 (h97.cell ⟨g98, o99 + ((k : Nat) : Int).toNat * 3 + 1, none⟩) fun x100 => gnew [Value.int .u8 (IntKind.wrap .u8 (Int.tmod (IntKind.wrap .i64 (x100 - 1)) 256))] 1 h97 fun g101 h102 => gappS 1 1 s96 ⟨(some ⟨g101, 0, none⟩), 1, 1⟩ h102 fun s103 h104 => F_ref13_Encode_l0 (F_ref13_two R) (F_ref09_Find R) R n b (low : Nat) y s103 ((i + m : Nat) : Int) ((k + 1 : Nat) : Int) h104 K) else exA y.a fun g105 o106 => within (k : Nat) y.n (exI .i64 (h93.cell ⟨g105, o106 + ((k : Nat) : Int).toNat * 3 + 1, none⟩) fun x107 => gnew [Value.int .u8 (IntKind.wrap .u8 (Int.tmod (IntKind.wrap .i64 (x107 - 1)) 256))] 1 h93 fun g108 h109 => gappS 1 1 s92 ⟨(some ⟨g108, 0, none⟩), 1, 1⟩ h109 fun s110 h111 => F_ref13_Encode_l0 (F_ref13_two R) (F_ref09_Find R) R n b (low : Nat) y s110 ((i + m : Nat) : Int) ((k + 1 : Nat) : Int) h111 K))) := by
        intro β K
        rw [F_ref13_Encode_l0_succ, decT (by omega), condT]
        refine (tl β _).trans ?_
        rw [e0]
        simp only [w3, wlow, wk, hwi]
        rw [decT (by omega), condT]
        by_cases cm : ((low : Nat) : Int) - 1 < ((m : Nat) : Int) - 3
        · rw [if_pos cm] at hv
          rw [decT (by omega), condT]
          refine (td β h ry _).trans ?_
          rw [e0]
          simp only [hv, u1]
          rw [beq_eq_false_iff_ne.2 (by omega : ((m : Nat) : Int) ≠ 0), condF]
        · rw [if_neg cm] at hv
          rw [decF (by omega), condF]
          refine (td β h ry _).trans ?_
          rw [e0]
          simp only [hv, u1]
          rw [beq_eq_false_iff_ne.2 (by omega : ((m : Nat) : Int) ≠ 0), condF]
      by_cases hv0 : vOf low d m = 0
      · obtain ⟨h4, o4, v4, k4, n4, e4⟩ := asIs m (by omega) him hT3
        refine ⟨h4, o4, ?_, k4, n4, fun β K => ?_⟩
        · rw [encL, encT]
          unfold Fd.stepT
          rw [e0]
          simp only [Int.toNat_natCast]
          rw [if_neg (by omega), if_pos hv0, if_neg (by omega)]
          exact v4
        · rw [start, beq_int, decT (by omega), condT]
          exact e4 β K
      · obtain ⟨h1, o1, e1, v1, k1, n1⟩ := app_u8s v [144, ((vOf low d m : Nat) : Int)] (by simp; omega)
        have ry1 := ry.keep k1 (fun x hx hy => (hs x hy).2 hx)
        have hs1 : ∀ x ∈ rowsOf o1, x ∉ rowsOf y := fun x hx hy => (n1 x hx).elim (fun q => (hs x q).2 hy) (fun q => by have := ry.lt x hy; omega)
        by_cases hfull : low - 1 ≤ m - 3
        · obtain ⟨h2, o2, e2, v2, k2, n2⟩ := app_u8s v1 [((m - 3 - (low - 1) : Nat) : Int)] (by simp; omega)
          have ry2 := ry1.keep k2 (fun x hx hy => hs1 x hy hx)
          obtain ⟨h3, o3, e3, v3, k3, n3⟩ := app_u8s v2 [(((d - 1) % 256 : Nat) : Int)] (by simp; omega)
          have b1 := k1.1
          have b2 := k2.1
          have n12 : ∀ x ∈ rowsOf o2, x ∈ rowsOf out ∨ h.next ≤ x := fun x hx => (n2 x hx).elim (fun q => n1 x q) (fun q => .inr (by omega))
          obtain ⟨h4, o4, v4, k4, n4, e4⟩ := goOn [144, ((vOf low d m : Nat) : Int), ((m - 3 - (low - 1) : Nat) : Int), (((d - 1) % 256 : Nat) : Int)] m h3 o3 (by simpa using v3) ((k1.trans k2 n1).trans k3 n12) (fun x hx => (n3 x hx).elim (fun q => n12 x q) (fun q => .inr (by omega))) (by simp; omega) hT3
          refine ⟨h4, o4, ?_, k4, n4, fun β K => ?_⟩
          · rw [encL, encT]
            unfold Fd.stepT
            rw [e0]
            simp only [Int.toNat_natCast]
            rw [if_neg (by omega), if_neg hv0, if_neg (by omega), encC, if_pos hfull]
            exact v4
          · rw [start, beq_int, decF (by omega), condF]
            refine (e1 β _).trans ?_
            rw [decT (by omega), condT, i64w (by omega), show ((m : Nat) : Int) - 3 - (((low : Nat) : Int) - 1) = ((m - 3 - (low - 1) : Nat) : Int) by omega, IntWalk.u8_in _ (by omega)]
            refine (e2 β _).trans ?_
            refine (td β h2 ry2 _).trans ?_
            rw [e0]
            simp only [u2]
            refine (e3 β _).trans ?_
            exact e4 β K
        · obtain ⟨h3, o3, e3, v3, k3, n3⟩ := app_u8s v1 [(((d - 1) % 256 : Nat) : Int)] (by simp; omega)
          have b1 := k1.1
          obtain ⟨h4, o4, v4, k4, n4, e4⟩ := goOn [144, ((vOf low d m : Nat) : Int), (((d - 1) % 256 : Nat) : Int)] m h3 o3 (by simpa using v3) (k1.trans k3 n1) (fun x hx => (n3 x hx).elim (fun q => n1 x q) (fun q => .inr (by omega))) (by simp; omega) hT3
          refine ⟨h4, o4, ?_, k4, n4, fun β K => ?_⟩
          · rw [encL, encT]
            unfold Fd.stepT
            rw [e0]
            simp only [Int.toNat_natCast]
            rw [if_neg (by omega), if_neg hv0, if_neg (by omega), encC, if_neg hfull]
            exact v4
          · rw [start, beq_int, decF (by omega), condF]
            refine (e1 β _).trans ?_
            rw [decF (by omega), condF]
            refine (td β h1 ry1 _).trans ?_
            rw [e0]
            simp only [u2]
            refine (e3 β _).trans ?_
            exact e4 β K
theorem encodeR_eq {h : GH} {b : Sl} {bs : List Int} (r : Rd h b bs) {f : Int} {low : Nat} (hf : FL f low) (hb : bs.length ≤ 1000000) {R : Nat} (hR : bs.length < R) (hR8 : 100 ≤ R) :
    ∃ h' out, Bv h' out (encL low bs (toks f low bs) 0) ∧ Keep h h' [] ∧ (∀ x ∈ rowsOf out, h.next ≤ x) ∧ ∀ (β : Type) (K : Sl → Int → GH → Option β), F_ref13_Encode R b f h K = K out 0 h' := by
  have h256 := shl_256 hf
  have f14 : 1 ≤ f ∧ f ≤ 4 := by rcases hf with ⟨rfl, rfl⟩ | ⟨rfl, rfl⟩ | ⟨rfl, rfl⟩ | ⟨rfl, rfl⟩ <;> decide
  have hz : ShOk ⟨256 * 2 ^ f.toNat, 3, ((low - 1 + 258 : Nat) : Int), 64, true⟩ := ⟨.inr rfl, ⟨h256.2.2.1, by have := h256.2.1; simp only; omega⟩, ⟨by simp only; omega, by have := h256.2.2.2.2.1; simp only; omega⟩, ⟨by simp, by simp⟩⟩
  obtain ⟨h1, y, v1, k1, n1, e1⟩ := rfind_eq r hz rfl (by omega) hR
  replace v1 : Vec h1 y 3 (tokCs (toks f low bs)) := v1
  replace e1 : ∀ (β : Type) (K : Sl → Int → GH → Option β), F_ref09_Find R b (256 * 2 ^ f.toNat) 3 ((low - 1 + 258 : Nat) : Int) 64 true h K = K y 0 h1 := e1
  have htil : Til bs 3 ((low - 1 + 258 : Nat) : Int) (256 * 2 ^ f.toNat) (toks f low bs) 0 := findSpec_til (.inr rfl) (by omega)
  have htl := til_len _ _ htil
  obtain ⟨h2, out, v2, k2, n2, e2⟩ := encR_loop hf hb hR (toks f low bs) 0 0 R h1 ⟨none, 0, 0⟩ [] (List.drop_zero) (Nat.zero_le _) htil (by omega) v1.row (r.keep k1 (by simp)) Vec.nil (by simp [rowsOf]) (by simp) (by omega)
  refine ⟨h2, out, by simpa using v2, k1.trans (o1 := []) (k2.mono (by simp [rowsOf])) (by simp), fun x hx => ?_, fun β K => ?_⟩
  · rcases n2 x hx with q | q
    · simp [rowsOf] at q
    · have := k1.1; omega
  · unfold F_ref13_Encode
    rw [F_ref13_Encode_gen, decF (by omega), condF, decF (by omega), condF, i64w (x := 8 - f) (by omega), two_eq (by omega) (by omega) hR8, two_eq (by omega) (by omega) hR8, (FL_pow hf).1, i64w (x := 256 * 2 ^ f.toNat) (by omega), i64w (x := ((low : Nat) : Int) + 257) (by omega), show ((low : Nat) : Int) + 257 = ((low - 1 + 258 : Nat) : Int) by omega]
    refine (e1 β _).trans ?_
    exact e2 β _
end Go.Proofs.Ytdmemmpkkibckaa.Gx

