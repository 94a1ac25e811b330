/- The finder's walk: Check, Find. No condition. -/
import Derived.Test.YtdmemmpkkibckaaFndA
namespace Go.Proofs.Ytdmemmpkkibckaa.Gx
open Go Go.RowKit Fd
set_option linter.unusedVariables false
set_option linter.unusedSimpArgs false
def shC (z : Shp) : List Value := [.int .i64 z.win, .int .i64 z.mn, .int .i64 z.mx, .int .i64 z.ch, .bool z.lz]
theorem check_eq (h : GH) {z : Shp} (hz : ShOk z) (R : Nat) : ∃ h', Keep h h' [] ∧ ∀ (β : Type) (K : Int → GH → Option β), F_finder_Check R z.win z.mn z.mx z.ch z.lz h K = K 0 h' := by
  refine ⟨h.push (.row ⟨shC z, 0, false⟩), keep_push _ _ _, fun β K => ?_⟩
  have c := fun i => cell_of (look_push_new (h := h) (o := .row ⟨shC z, 0, false⟩)) i
  have h1 := hz.mn
  have h2 := hz.win
  have h3 := hz.mx
  have h4 := hz.ch
  unfold F_finder_Check
  rw [F_finder_Check_gen, gnew_eq rfl]
  have c' : ∀ i, (h.push (.row ⟨[.int .i64 z.win, .int .i64 z.mn, .int .i64 z.mx, .int .i64 z.ch, .bool z.lz], 0, false⟩)).cell ⟨h.next, i, none⟩ = nth [.int .i64 z.win, .int .i64 z.mn, .int .i64 z.mx, .int .i64 z.ch, .bool z.lz] i := c
  simp only [c', Nat.zero_add, nth_s, nth_0, exI_s]
  rw [decF (by omega), condF, decF (by omega), condF, decF (by omega), condF, decF (by omega), condF, decF (by omega), condF, decF (by omega), condF, decF (by omega), condF, decF (by omega), condF]
  rfl
theorem tmp_tok (h : GH) (a : Int) (d : Nat × Nat) : ∃ g h', Keep h h' [] ∧ h.next ≤ g ∧ h'.look g = some (tr a d) ∧ ∀ (β : Type) (K : Nat → GH → Option β),
    (gnew [Value.int .u8 0, Value.int .i64 0, Value.int .i64 0] 0 h fun g h1 => gput g (0) [Value.int .u8 a, Value.int .i64 (d.1 : Nat), Value.int .i64 (d.2 : Nat)] h1 fun h2 => K g h2) = K g h' := by
  refine ⟨h.next, (h.push (tr 0 (0, 0))).put h.next (some (tr a d)), (keep_push h (tr 0 (0, 0)) []).trans (keep_put _ _ _) (fun x hx => .inr (by simp at hx; omega)), Nat.le_refl _, look_put_same (by simp [next_push]), fun β K => ?_⟩
  rw [gnew_eq rfl, gput_eq look_push_new rfl (by simp)]
  rfl
structure Lst (h : GH) (g m p gs : Nat) (b : Sl) (bs : List Int) (z : Shp) (q : Nat) (y : Sl) (l : List Tok) : Prop where
  st : FSt h g m p b bs z q
  sh : h.look gs = some (.row ⟨shC z, 0, false⟩)
  vec : Vec h y 3 (tokCs l)
  ne : gs ≠ g ∧ gs ≠ m ∧ gs ≠ p
  sep : ∀ x ∈ rowsOf y, x ≠ g ∧ x ≠ m ∧ x ≠ p ∧ x ≠ gs ∧ x ∉ rowsOf b
theorem Lst.keep0 {h h' : GH} {g m p gs : Nat} {b : Sl} {bs : List Int} {z : Shp} {q : Nat} {y : Sl} {l : List Tok} (s : Lst h g m p gs b bs z q y l) (k : Keep h h' []) : Lst h' g m p gs b bs z q y l :=
  ⟨s.st.keep0 k, k.look s.sh (by simp), s.vec.keep k (by simp), s.ne, s.sep⟩
theorem Lst.lt {h : GH} {g m p gs : Nat} {b : Sl} {bs : List Int} {z : Shp} {q : Nat} {y : Sl} {l : List Tok} (s : Lst h g m p gs b bs z q y l) : g < h.next ∧ m < h.next ∧ p < h.next ∧ gs < h.next ∧ ∀ x ∈ rowsOf b, x < h.next :=
  ⟨look_lt s.st.fin, by obtain ⟨es, e, _⟩ := s.st.mp; exact look_lt e, look_lt s.st.pv, look_lt s.sh, s.st.rb.lt⟩
theorem Lst.at_ {h : GH} {g m p gs : Nat} {b : Sl} {bs : List Int} {z : Shp} {q : Nat} {y : Sl} {l : List Tok} (s : Lst h g m p gs b bs z q y l) (hz : ShOk z) {i : Nat} (hq : q ≤ i) (hi : i ≤ bs.length) (hb : bs.length ≤ 1000000000) {R : Nat} (hR : bs.length < R) :
    ∃ h', Lst h' g m p gs b bs z i y l ∧ Keep h h' [g, m, p] ∧ ∀ (β : Type) (K : Int → Int → Int → GH → Option β), F_finder_finder_at R (some ⟨g, 0, none⟩) (i : Nat) h K = K 0 (atSpec bs z.mn z.mx z.win z.ch i).1 (atSpec bs z.mn z.mx z.win z.ch i).2 h' := by
  obtain ⟨h', s', k', e'⟩ := fat_eq s.st hz hq hi hb hR
  exact ⟨h', ⟨s', k'.look s.sh (by simp; exact s.ne), s.vec.keep k' (fun x hx => by have := s.sep x hx; simp; exact ⟨this.1, this.2.1, this.2.2.1⟩), s.ne, s.sep⟩, k', e'⟩
theorem Lst.app {h : GH} {g m p gs : Nat} {b : Sl} {bs : List Int} {z : Shp} {q : Nat} {y : Sl} {l : List Tok} (s : Lst h g m p gs b bs z q y l) (t : Tok) (hl : l.length ≤ 1000000000) :
    ∃ h' y', Lst h' g m p gs b bs z q y' (l ++ [t]) ∧ Keep h h' (rowsOf y) ∧ (∀ x ∈ rowsOf y', x ∈ rowsOf y ∨ h.next ≤ x) ∧ ∀ (β : Type) (K : Sl → GH → Option β),
      (gnew [Value.int .u8 t.lit, Value.int .i64 t.dist, Value.int .i64 t.len] 3 h fun g h1 => gappS 3 24 y ⟨(some ⟨g, 0, none⟩), 1, 1⟩ h1 K) = K y' h' := by
  have hn : y.n = l.length := by have := s.vec.len; rw [tokCs_len] at this; omega
  obtain ⟨h', y', e, v, k, n, _⟩ := app_one' (by_ := 24) s.vec [Value.int .u8 t.lit, Value.int .i64 t.dist, Value.int .i64 t.len] rfl (by omega) rfl (by rw [hn]; simp only [most]; omega)
  have hlt := s.lt
  refine ⟨h', y', ⟨s.st.keep k (fun hx => (s.sep _ hx).1 rfl) (fun hx => (s.sep _ hx).2.1 rfl) (fun hx => (s.sep _ hx).2.2.1 rfl) (fun x hx hy => (s.sep _ hy).2.2.2.2 hx), k.look s.sh (fun hx => (s.sep _ hx).2.2.2.1 rfl), ?_, s.ne, fun x hx => ?_⟩, k, n, fun β K => e β K⟩
  · rw [tokCs_snoc]; exact v
  · rcases n x hx with h1 | h1
    · exact s.sep x h1
    · exact ⟨by omega, by omega, by omega, by omega, fun hb => by have := hlt.2.2.2.2 x hb; omega⟩
theorem find_loop {g m p gs : Nat} {b : Sl} {bs : List Int} {z : Shp} (hz : ShOk z) (hb : bs.length ≤ 1000000000) {R : Nat} (hR : bs.length < R) :
    ∀ (f i q n : Nat) (h : GH) (y : Sl) (l : List Tok), bs.length ≤ i + f → i ≤ bs.length → f < n → q ≤ i → l.length ≤ i → Lst h g m p gs b bs z q y l →
    ∃ h' y', Vec h' y' 3 (tokCs (l ++ findLoop bs z.mn z.mx z.win z.ch z.lz f i)) ∧ Keep h h' (g :: m :: p :: rowsOf y) ∧ (∀ x ∈ rowsOf y', x ∈ rowsOf y ∨ h.next ≤ x) ∧ ∀ (β : Type) (K : Sl → GH → Option β),
      F_finder_Find_l0 (F_finder_Check R) (F_finder_finder_at R) R n b (some ⟨gs, 0, none⟩) (some ⟨g, 0, none⟩) y (i : Nat) h K = K y' h'
  | f, i, q, n, h, y, l, hf, hi, hn, hq, hl, s => by
    obtain ⟨n, rfl⟩ : ∃ n', n = n' + 1 := ⟨n - 1, by omega⟩
    have hbn := s.st.rb.n
    by_cases c : i < bs.length
    · match f, hf, hn with
      | 0, hf, hn => exact absurd c (by omega)
      | f + 1, hf, hn =>
        have hgood := atSpec_good bs z.mn z.mx z.win z.ch i hi
        rw [findLoop, if_pos c]
        obtain ⟨h1, s1, k1, e1⟩ := s.at_ hz hq hi hb hR
        obtain ⟨gt, h2, k2, n2, lt, e2⟩ := tmp_tok h1 0 (atSpec bs z.mn z.mx z.win z.ch i)
        have s2 := s1.keep0 k2
        have k02 := k1.trans k2 (by simp)
        have ct : ∀ h' : GH, h'.look gt = some (tr 0 (atSpec bs z.mn z.mx z.win z.ch i)) → ∀ j, h'.cell ⟨gt, j, none⟩ = nth [.int .u8 0, .int .i64 ((atSpec bs z.mn z.mx z.win z.ch i).1 : Nat), .int .i64 ((atSpec bs z.mn z.mx z.win z.ch i).2 : Nat)] j := fun h' hl j => cell_of hl j
        have gtn : h.next ≤ gt := by have := k1.1; omega
        -- a byte is told
        have lit : ∀ h3 q3, q3 ≤ i + 1 → Keep h h3 [g, m, p] → Lst h3 g m p gs b bs z q3 y l → ∃ h' y', Vec h' y' 3 (tokCs (l ++ (⟨bs.getD i 0, 0, 0⟩ :: findLoop bs z.mn z.mx z.win z.ch z.lz f (i + 1)))) ∧ Keep h h' (g :: m :: p :: rowsOf y) ∧ (∀ x ∈ rowsOf y', x ∈ rowsOf y ∨ h.next ≤ x) ∧ ∀ (β : Type) (K : Sl → GH → Option β),
            (exA b.a fun g43 o44 => within (i : Nat) b.n (exI .u8 (h3.cell ⟨g43, o44 + ((i : Nat) : Int).toNat * 1, none⟩) fun x45 => gnew [Value.int .u8 x45, Value.int .i64 0, Value.int .i64 0] 3 h3 fun g46 h47 => gappS 3 24 y ⟨(some ⟨g46, 0, none⟩), 1, 1⟩ h47 fun s48 h49 => F_finder_Find_l0 (F_finder_Check R) (F_finder_finder_at R) R n b (some ⟨gs, 0, none⟩) (some ⟨g, 0, none⟩) s48 (IntKind.wrap .i64 (((i : Nat) : Int) + 1)) h49 K)) = K y' h' := by
          intro h3 q3 hq3 k3 s3
          obtain ⟨h4, y4, s4, k4, n4, e4⟩ := s3.app ⟨bs.getD i 0, 0, 0⟩ (by omega)
          obtain ⟨h5, y5, v5, k5, n5, e5⟩ := find_loop hz hb hR f (i + 1) q3 n h4 y4 (l ++ [⟨bs.getD i 0, 0, 0⟩]) (by omega) (by omega) (by omega) (by omega) (by simp; omega) s4
          refine ⟨h5, y5, by simpa using v5, ?_, fun x hx => ?_, fun β K => ?_⟩
          · refine ((k3.mono (o1 := g :: m :: p :: rowsOf y) (fun x hx => by simp at hx ⊢; rcases hx with h | h | h <;> simp [h])).trans k4 (fun x hx => .inl (by simp [hx]))).trans k5 (fun x hx => ?_)
            simp only [List.mem_cons] at hx ⊢
            rcases hx with h | h | h | hx
            · simp [h]
            · simp [h]
            · simp [h]
            · rcases n4 x hx with h | h
              · simp [h]
              · exact .inr (by have := k3.1; omega)
          · rcases n5 x hx with h | h
            · exact (n4 x h).imp id fun h => by have := k3.1; omega
            · exact .inr (by have := k3.1; have := k4.1; omega)
          · have r1 := fun K => s3.st.rb.byte (β := β) (i := ((i : Nat) : Int)) (by omega) (by omega) K
            rw [r1, Int.toNat_natCast, e4, show IntKind.wrap .i64 ((i : Int) + 1) = ((i + 1 : Nat) : Int) by rw [i64w (by omega)]; omega, e5]
        -- a piece is told
        have piece : ∀ h3 q3, 0 < (atSpec bs z.mn z.mx z.win z.ch i).2 → q3 ≤ i + 1 → Keep h h3 [g, m, p] → h3.look gt = some (tr 0 (atSpec bs z.mn z.mx z.win z.ch i)) → Lst h3 g m p gs b bs z q3 y l → ∃ h' y', Vec h' y' 3 (tokCs (l ++ (⟨0, (atSpec bs z.mn z.mx z.win z.ch i).1, (atSpec bs z.mn z.mx z.win z.ch i).2⟩ :: findLoop bs z.mn z.mx z.win z.ch z.lz f (i + (atSpec bs z.mn z.mx z.win z.ch i).2)))) ∧ Keep h h' (g :: m :: p :: rowsOf y) ∧ (∀ x ∈ rowsOf y', x ∈ rowsOf y ∨ h.next ≤ x) ∧ ∀ (β : Type) (K : Sl → GH → Option β),
            (exI .u8 (h3.cell ⟨gt, 0, none⟩) fun x77 => exI .i64 (h3.cell ⟨gt, 0 + 1, none⟩) fun x78 => exI .i64 (h3.cell ⟨gt, 0 + 1 + 1, none⟩) fun x79 => gnew [Value.int .u8 x77, Value.int .i64 x78, Value.int .i64 x79] 3 h3 fun g80 h81 => gappS 3 24 y ⟨(some ⟨g80, 0, none⟩), 1, 1⟩ h81 fun s82 h83 => exI .i64 (h83.cell ⟨gt, 0 + 2, none⟩) fun x84 => F_finder_Find_l0 (F_finder_Check R) (F_finder_finder_at R) R n b (some ⟨gs, 0, none⟩) (some ⟨g, 0, none⟩) s82 (IntKind.wrap .i64 (((i : Nat) : Int) + x84)) h83 K) = K y' h' := by
          intro h3 q3 hp hq3 k3 lt3 s3
          obtain ⟨h4, y4, s4, k4, n4, e4⟩ := s3.app ⟨0, (atSpec bs z.mn z.mx z.win z.ch i).1, (atSpec bs z.mn z.mx z.win z.ch i).2⟩ (by omega)
          have hgt : gt ∉ rowsOf y := fun hx => by have := s.vec.lt gt hx; omega
          have lt4 := k4.look lt3 hgt
          obtain ⟨h5, y5, v5, k5, n5, e5⟩ := find_loop hz hb hR f (i + (atSpec bs z.mn z.mx z.win z.ch i).2) q3 n h4 y4 (l ++ [⟨0, (atSpec bs z.mn z.mx z.win z.ch i).1, (atSpec bs z.mn z.mx z.win z.ch i).2⟩]) (by omega) (by omega) (by omega) (by omega) (by simp; omega) s4
          refine ⟨h5, y5, by simpa using v5, ?_, fun x hx => ?_, fun β K => ?_⟩
          · refine ((k3.mono (o1 := g :: m :: p :: rowsOf y) (fun x hx => by simp at hx ⊢; rcases hx with h | h | h <;> simp [h])).trans k4 (fun x hx => .inl (by simp [hx]))).trans k5 (fun x hx => ?_)
            simp only [List.mem_cons] at hx ⊢
            rcases hx with h | h | h | hx
            · simp [h]
            · simp [h]
            · simp [h]
            · rcases n4 x hx with h | h
              · simp [h]
              · exact .inr (by have := k3.1; omega)
          · rcases n5 x hx with h | h
            · exact (n4 x h).imp id fun h => by have := k3.1; omega
            · exact .inr (by have := k3.1; have := k4.1; omega)
          · simp only [ct h3 lt3, Nat.zero_add, nth_s, nth_0, exI_s]
            rw [e4]
            simp only [ct h4 lt4, Nat.zero_add, nth_s, nth_0, exI_s]
            rw [show IntKind.wrap .i64 ((i : Int) + ((atSpec bs z.mn z.mx z.win z.ch i).2 : Nat)) = ((i + (atSpec bs z.mn z.mx z.win z.ch i).2 : Nat) : Int) by rw [i64w (by omega)]; omega, e5]
        have hc : (((0 : Int) == 0) && ((((atSpec bs z.mn z.mx z.win z.ch i).1 : Nat) : Int) == 0 && ((((atSpec bs z.mn z.mx z.win z.ch i).2 : Nat) : Int) == 0 && true))) = decide (atSpec bs z.mn z.mx z.win z.ch i = (0, 0)) := by
          generalize atSpec bs z.mn z.mx z.win z.ch i = v
          obtain ⟨a, c⟩ := v
          simp
          by_cases h1 : a = 0 <;> by_cases h2 : c = 0 <;> simp [h1, h2]
        by_cases w0 : atSpec bs z.mn z.mx z.win z.ch i = (0, 0)
        · rw [if_pos (by simp [Fd.waits, w0])]
          obtain ⟨h', y', v', k', n', e'⟩ := lit h2 i (by omega) k02 s2
          refine ⟨h', y', v', k', n', fun β K => ?_⟩
          · (rw [F_finder_Find_l0_succ, decT (by omega), condT, e1, e2]; simp only [exA_s, ct h2 lt, Nat.zero_add, nth_s, nth_0, exI_s, cell_of s2.sh, shC, exB_s]; rw [hc])
            rw [decT w0, condT, e']
        · have hpos : 0 < (atSpec bs z.mn z.mx z.win z.ch i).2 := hgood.1.resolve_left w0
          cases hlz : z.lz with
          | false =>
            rw [if_neg (by simp [Fd.waits, w0, hlz])]
            rw [hlz] at piece
            obtain ⟨h', y', v', k', n', e'⟩ := piece h2 i hpos (by omega) k02 lt s2
            refine ⟨h', y', v', k', n', fun β K => ?_⟩
            (rw [F_finder_Find_l0_succ, decT (by omega), condT, e1, e2]; simp only [exA_s, ct h2 lt, Nat.zero_add, nth_s, nth_0, exI_s, cell_of s2.sh, shC, exB_s]; rw [hc])
            rw [decF w0, condF, hlz, condF]
            have := e' β K
            simp only [ct h2 lt, Nat.zero_add, nth_s, nth_0, exI_s] at this
            exact this
          | true =>
            by_cases wm : (((atSpec bs z.mn z.mx z.win z.ch i).2 : Nat) : Int) < z.mx
            · obtain ⟨h3, s3, k3, e3⟩ := s2.at_ hz (i := i + 1) (by omega) (by omega) hb hR
              have k03 : Keep h h3 [g, m, p] := k02.trans k3 (fun x hx => .inl hx)
              have hlt := s.lt
              have lt3 := k3.look lt (by simp; omega)
              have hsa : sameAt gt (0 + 2) 1 h2 h3 = true := by
                rw [sameAt_1, ct h2 lt, ct h3 lt3]
                simp only [Nat.zero_add, nth_s, nth_0, veqO_i]
              have hw1 : IntKind.wrap .i64 ((i : Int) + 1) = ((i + 1 : Nat) : Int) := by rw [i64w (by omega)]; omega
              by_cases w2 : (atSpec bs z.mn z.mx z.win z.ch i).2 < (atSpec bs z.mn z.mx z.win z.ch (i + 1)).2
              · rw [if_pos (by simp [Fd.waits, hlz, wm, w2])]
                rw [hlz] at lit
                obtain ⟨h', y', v', k', n', e'⟩ := lit h3 (i + 1) (by omega) k03 s3
                refine ⟨h', y', v', k', n', fun β K => ?_⟩
                (rw [F_finder_Find_l0_succ, decT (by omega), condT, e1, e2]; simp only [exA_s, ct h2 lt, Nat.zero_add, nth_s, nth_0, exI_s, cell_of s2.sh, shC, exB_s]; rw [hc])
                rw [decF w0, condF, hlz, condT, decT wm, condT, hw1, e3]
                simp only [Nat.zero_add] at hsa
                simp only [ct h3 lt3, hsa, condT, nth_s, nth_0, exI_s]
                rw [decT (by omega), condT]
                have := e' β K
                rw [hw1] at this
                exact this
              · rw [if_neg (by simp [Fd.waits, w0, w2])]
                rw [hlz] at piece
                obtain ⟨h', y', v', k', n', e'⟩ := piece h3 (i + 1) hpos (by omega) k03 lt3 s3
                refine ⟨h', y', v', k', n', fun β K => ?_⟩
                (rw [F_finder_Find_l0_succ, decT (by omega), condT, e1, e2]; simp only [exA_s, ct h2 lt, Nat.zero_add, nth_s, nth_0, exI_s, cell_of s2.sh, shC, exB_s]; rw [hc])
                rw [decF w0, condF, hlz, condT, decT wm, condT, hw1, e3]
                simp only [Nat.zero_add] at hsa
                simp only [ct h3 lt3, hsa, condT, nth_s, nth_0, exI_s]
                rw [decF (by omega), condF]
                have := e' β K
                simp only [ct h3 lt3, Nat.zero_add, nth_s, nth_0, exI_s] at this
                exact this
            · rw [if_neg (by simp [Fd.waits, w0, hlz, wm])]
              rw [hlz] at piece
              obtain ⟨h', y', v', k', n', e'⟩ := piece h2 i hpos (by omega) k02 lt s2
              refine ⟨h', y', v', k', n', fun β K => ?_⟩
              (rw [F_finder_Find_l0_succ, decT (by omega), condT, e1, e2]; simp only [exA_s, ct h2 lt, Nat.zero_add, nth_s, nth_0, exI_s, cell_of s2.sh, shC, exB_s]; rw [hc])
              rw [decF w0, condF, hlz, condT, decF wm, condF]
              have := e' β K
              simp only [ct h2 lt, Nat.zero_add, nth_s, nth_0, exI_s] at this
              exact this
    · refine ⟨h, y, ?_, .refl _ _, fun x hx => .inl hx, fun β K => ?_⟩
      · have : findLoop bs z.mn z.mx z.win z.ch z.lz f i = [] := by
          cases f with
          | zero => rfl
          | succ f => rw [findLoop, if_neg c]
        rw [this, List.append_nil]; exact s.vec
      · rw [F_finder_Find_l0_succ, decF (by omega), condF]
theorem reps_i64 : ∀ n, reps n (vcells (Value.int .i64 0)) = i64s (List.replicate n 0)
  | 0 => rfl
  | n + 1 => by rw [reps, reps_i64 n, List.replicate_succ]; rfl
theorem find_eq {h : GH} {b : Sl} {bs : List Int} (r : Rd h b bs) {z : Shp} (hz : ShOk z) (hb : bs.length ≤ 1000000000) {R : Nat} (hR : bs.length < R) :
    ∃ h' y, Vec h' y 3 (tokCs (findSpec bs z.mn z.mx z.win z.ch z.lz)) ∧ Keep h h' [] ∧ (∀ x ∈ rowsOf y, h.next ≤ x) ∧ ∀ (β : Type) (K : Sl → Int → GH → Option β), F_finder_Find R b z.win z.mn z.mx z.ch z.lz h K = K y 0 h' := by
  have hn := r.n
  have bl := r.lt
  have k1 := keep_push h (.row ⟨shC z, 0, false⟩) []
  have l1 : (h.push (.row ⟨shC z, 0, false⟩)).look h.next = some (.row ⟨shC z, 0, false⟩) := look_push_new
  obtain ⟨h2, k2, e2⟩ := check_eq (h.push (.row ⟨shC z, 0, false⟩)) hz R
  have l2 := k2.look l1 (by simp)
  have k02 := k1.trans k2 (by simp)
  have n2 := k2.1
  rw [next_push] at n2
  have k3 := keep_push h2 (.map []) []
  have l3 := k3.look l2 (by simp)
  have k4 := keep_push (h2.push (.map [])) (.row ⟨i64s (prevL bs z.mn 0), 1, false⟩) []
  have k5 := keep_push ((h2.push (.map [])).push (.row ⟨i64s (prevL bs z.mn 0), 1, false⟩)) (.row ⟨finC z b h2.next (h2.next + 1) bs.length 0, 0, false⟩) []
  have k05 := ((k02.trans k3 (by simp)).trans k4 (by simp)).trans k5 (by simp)
  have s5 : Lst (((h2.push (.map [])).push (.row ⟨i64s (prevL bs z.mn 0), 1, false⟩)).push (.row ⟨finC z b h2.next (h2.next + 1) bs.length 0, 0, false⟩)) (h2.next + 2) h2.next (h2.next + 1) h.next b bs z 0 ⟨none, 0, 0⟩ [] := by
    refine ⟨⟨look_push_new, ⟨[], ?_, fun k => rfl⟩, ?_, r.keep k05 (by simp), by omega, by omega, by omega, fun hx => by have := bl _ hx; omega, fun hx => by have := bl _ hx; omega, fun hx => by have := bl _ hx; omega⟩, ?_, Vec.nil, ⟨by omega, by omega, by omega⟩, by simp [rowsOf]⟩
    · rw [look_push_old (by simp [next_push]; omega), look_push_old (by simp [next_push]), look_push_new]; rfl
    · rw [look_push_old (by simp [next_push])]; exact look_push_new
    · exact k5.look (k4.look l3 (by simp)) (by simp)
  obtain ⟨h6, y6, v6, k6, n6, e6⟩ := find_loop hz hb hR bs.length 0 0 R _ _ _ (by omega) (by omega) hR (Nat.le_refl _) (by simp) s5
  refine ⟨h6, y6, by simpa [findSpec] using v6, k05.trans k6 (fun x hx => .inr (by simp [rowsOf] at hx; omega)), fun x hx => ?_, fun β K => ?_⟩
  · rcases n6 x hx with h | h
    · simp [rowsOf] at h
    · have := k05.1; omega
  · have c1 : ∀ i, (h.push (.row ⟨[.int .i64 z.win, .int .i64 z.mn, .int .i64 z.mx, .int .i64 z.ch, .bool z.lz], 0, false⟩)).cell ⟨h.next, i, none⟩ = nth [.int .i64 z.win, .int .i64 z.mn, .int .i64 z.mx, .int .i64 z.ch, .bool z.lz] i := fun i => cell_of l1 i
    have c2 : ∀ i, h2.cell ⟨h.next, i, none⟩ = nth [.int .i64 z.win, .int .i64 z.mn, .int .i64 z.mx, .int .i64 z.ch, .bool z.lz] i := fun i => cell_of l2 i
    have c3 : ∀ i, (h2.push (.map [])).cell ⟨h.next, i, none⟩ = nth [.int .i64 z.win, .int .i64 z.mn, .int .i64 z.mx, .int .i64 z.ch, .bool z.lz] i := fun i => cell_of l3 i
    have e2' : ∀ (K : Int → GH → Option β), F_finder_Check R z.win z.mn z.mx z.ch z.lz (h.push (.row ⟨[.int .i64 z.win, .int .i64 z.mn, .int .i64 z.mx, .int .i64 z.ch, .bool z.lz], 0, false⟩)) K = K 0 h2 := e2 β
    have hsa : sameAt h.next 0 5 h2 (h2.push (.map [])) = true := by
      simp only [sameAt, c2, c3, nth_s, nth_0, veqO_i, veqO_b, Nat.zero_add, Nat.add_zero, Bool.and_true, Bool.true_and]
    unfold F_finder_Find
    rw [F_finder_Find_gen, gnew_eq rfl]
    simp only [c1, Nat.zero_add, nth_s, nth_0, exI_s, exB_s]
    rw [e2', bne_self_eq_false, condF]
    simp only [c2, nth_s, nth_0, exI_s, exB_s, gmkMap]
    rw [gmake, decT (by omega), condT, decT (by omega), condT, decT (by rw [hn]; simp only [most]; omega), condT, Int.toNat_natCast, reps_i64, hn, gnew_eq (allCells_i64s _)]
    simp only [next_push]
    rw [gnew_eq rfl, hsa, condT, ← prevL_zero bs z.mn]
    simp only [next_push]
    have e7 := e6 β (fun w h => K w 0 h)
    unfold finC at e7
    rw [hn] at e7
    exact e7
end Go.Proofs.Ytdmemmpkkibckaa.Gx

