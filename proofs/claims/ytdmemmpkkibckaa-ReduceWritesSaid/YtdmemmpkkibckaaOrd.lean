/- follow.ordered: the bytes that come, those that come more often first. No condition. -/
import Derived.Test.YtdmemmpkkibckaaSbtH
namespace Go.Proofs.Ytdmemmpkkibckaa.Gx
open Go Go.RowKit
set_option linter.unusedVariables false
set_option linter.unusedSimpArgs false
def idxB (n : Nat) : List Int := (List.range n).map (fun k => ((k : Nat) : Int))
theorem idxB_mem {n : Nat} {x : Int} : x ∈ idxB n ↔ 0 ≤ x ∧ x < n := by
  unfold idxB
  rw [List.mem_map]
  constructor
  · rintro ⟨k, hk, rfl⟩; rw [List.mem_range] at hk; omega
  · rintro ⟨h1, h2⟩; exact ⟨x.toNat, by rw [List.mem_range]; omega, by omega⟩
theorem idxB_asc (n : Nat) : (idxB n).Pairwise (· < ·) := by
  unfold idxB
  rw [List.pairwise_map]
  exact List.pairwise_lt_range.imp (fun h => by omega)
theorem idxB_succ (n : Nat) : idxB (n + 1) = idxB n ++ [((n : Nat) : Int)] := by unfold idxB; rw [List.range_succ]; simp
/-- the counts turned round -/
def negL (N : List Int) : List Int := N.map (fun x => -x)
theorem negL_get {N : List Int} {i : Nat} (h : i < N.length) : (negL N).getD i 0 = -(N.getD i 0) := by
  unfold negL
  rw [List.getD_eq_getElem?_getD, List.getElem?_map, List.getElem?_eq_getElem h, List.getD_eq_getElem?_getD, List.getElem?_eq_getElem h]; rfl
theorem negL_negL (N : List Int) : (negL N).map (fun x => -x) = N := by
  induction N with
  | nil => rfl
  | cons x r ih => show (- -x) :: (negL r).map (fun x => -x) = _; rw [ih, Int.neg_neg]
def comes (N : List Int) (x : Int) : Bool := decide (N.getD x.toNat 0 > 0)
/-- the bytes that come, from the least one on -/
def ascB (N : List Int) (k : Nat) : List Int := (idxB k).filter (comes N)
theorem ascB_succ (N : List Int) (k : Nat) : ascB N (k + 1) = ascB N k ++ (if N.getD k 0 > 0 then [((k : Nat) : Int)] else []) := by
  unfold ascB
  rw [idxB_succ, List.filter_append]
  congr 1
  by_cases c : N.getD k 0 > 0
  · rw [if_pos c, List.filter_cons_of_pos (by unfold comes; simpa using c)]; rfl
  · rw [if_neg c, List.filter_cons_of_neg (by unfold comes; simpa using c)]; rfl
theorem ascB_asc (N : List Int) (k : Nat) : (ascB N k).Pairwise (· < ·) := (idxB_asc k).filter _
theorem ascB_mem {N : List Int} {k : Nat} {x : Int} : x ∈ ascB N k ↔ (0 ≤ x ∧ x < k) ∧ N.getD x.toNat 0 > 0 := by
  unfold ascB comes
  rw [List.mem_filter, idxB_mem, decide_eq_true_iff]
theorem ascB_len (N : List Int) (k : Nat) : (ascB N k).length ≤ k := by
  unfold ascB
  exact Nat.le_trans (List.length_filter_le _ _) (by simp [idxB])
/-- those that come more often first -/
def ordZ (N : List Int) : List Int := (ascB N 256).foldl (Sb.insK (negL N)) []
theorem ordZ_spec (N : List Int) : (ordZ N).Perm (ascB N 256) ∧ Sb.Srt (negL N) (ordZ N) := by
  obtain ⟨a1, a2⟩ := Sb.ins_sort (keys := negL N) (ascB N 256) [] (Sb.srt_nil _) (ascB_asc N 256) (by simp)
  exact ⟨by unfold ordZ; simpa using a2, a1⟩
theorem Lx_asymm {keys : List Int} {x y : Int} (h : Sb.Lx keys x y) : ¬ Sb.Lx keys y x := by unfold Sb.Lx at h ⊢; omega
theorem srtB_unique {keys : List Int} : ∀ {A B : List Int}, A.Perm B → Sb.Srt keys A → Sb.Srt keys B → A = B
  | [], B, p, _, _ => (p.nil_eq)
  | x :: A, [], p, _, _ => (p.symm.nil_eq).symm
  | x :: A, y :: B, p, sa, sb => by
    have ha := List.pairwise_cons.1 sa
    have hb := List.pairwise_cons.1 sb
    have e : x = y := by
      rcases List.mem_cons.1 (p.mem_iff.1 (List.mem_cons_self : x ∈ x :: A)) with q | q
      · exact q
      · rcases List.mem_cons.1 (p.mem_iff.2 (List.mem_cons_self : y ∈ y :: B)) with q' | q'
        · exact q'.symm
        · exact absurd (hb.1 x q) (Lx_asymm (ha.1 y q'))
    subst e
    rw [srtB_unique (p.cons_inv) ha.2 hb.2]
/-- sorting nothing -/
theorem sort_none {R : Nat} (hR : 4000000 < R) (p : Option Addr) {β : Type} (h : GH) (K : GH → Option β) : F_slices_SortStableFunc_byte_s1 R ⟨none, 0, 0⟩ p h K = K h := by
  obtain ⟨R, rfl⟩ : ∃ q, R = q + 1 := ⟨R - 1, by omega⟩
  unfold F_slices_SortStableFunc_byte_s1
  rw [F_slices_SortStableFunc_byte_s1_gen]
  show F_slices_stableCmpFunc_byte_s1 (R + 1) ⟨none, 0, 0⟩ 0 p h _ = _
  unfold F_slices_stableCmpFunc_byte_s1
  rw [F_slices_stableCmpFunc_byte_s1_gen, F_slices_stableCmpFunc_byte_s1_l0_succ, decF (by omega), condF]
  unfold F_slices_insertionSortCmpFunc_byte_s1
  rw [F_slices_insertionSortCmpFunc_byte_s1_gen, F_slices_insertionSortCmpFunc_byte_s1_l0_succ, i64w (by omega), decF (by omega), condF, F_slices_stableCmpFunc_byte_s1_l1_succ, decF (by omega), condF]
/-- counts that are read at a place -/
structure Cnt (h : GH) (a : Option Addr) (N : List Int) : Prop where
  row : Rdi h ⟨a, 256, 256⟩ N
  pos : ∀ x ∈ N, 0 ≤ x ∧ x ≤ 1000000
theorem Cnt.len {h : GH} {a : Option Addr} {N : List Int} (c : Cnt h a N) : N.length = 256 := c.row.ni.symm
theorem Cnt.keep {h h' : GH} {a : Option Addr} {N : List Int} {own : List Nat} (c : Cnt h a N) (k : Keep h h' own) (hd : ∀ x ∈ rowsOf ⟨a, 256, 256⟩, x ∉ own) : Cnt h' a N := ⟨c.row.keep k hd, c.pos⟩
theorem Cnt.get {β : Type} {h : GH} {a : Option Addr} {N : List Int} (c : Cnt h a N) {i : Int} (h0 : 0 ≤ i) (h1 : i < 256) (K : Int → Option β) : (exA a fun g o => within i 256 (exI .i64 (h.cell ⟨g, o + i.toNat * 1, none⟩) K)) = K (N.getD i.toNat 0) := c.row.int h0 (by rw [c.len]; exact h1) K
theorem Cnt.getN {β : Type} {h : GH} {a : Option Addr} {N : List Int} (c : Cnt h a N) {i : Nat} (h1 : i < 256) (K : Int → Option β) : (exA a fun g o => within ((i : Nat) : Int) 256 (exI .i64 (h.cell ⟨g, o + i * 1, none⟩) K)) = K (N.getD i 0) := c.get (i := ((i : Nat) : Int)) (by omega) (by omega) K
theorem app_byteB {h : GH} {s : Sl} {bs : List Int} (v : Bv h s bs) (x : Int) (hm : bs.length ≤ 1000000) : ∃ h' s', (∀ (β : Type) (K : Sl → GH → Option β), (gnew [Value.int .u8 x] 1 h fun g h1 => gappS 1 1 s ⟨(some ⟨g, 0, none⟩), 1, 1⟩ h1 K) = K s' h') ∧ Bv h' s' (bs ++ [x]) ∧ Keep h h' (rowsOf s) ∧ (∀ k ∈ rowsOf s', k ∈ rowsOf s ∨ h.next ≤ k) := by
  obtain ⟨h', s', e, v', k, n, _⟩ := app_one' (by_ := 1) v [Value.int .u8 x] rfl Nat.one_pos rfl (by rw [v.n]; simp [most]; omega)
  exact ⟨h', s', e, by unfold Bv; rw [u8s_app]; exact v', k, n⟩
theorem u8i {x : Nat} (h : x < 256) : IntKind.wrap .u8 ((x : Nat) : Int) = (x : Nat) := IntWalk.u8_in _ (by omega)
theorem ord_loop (R : Nat) {a : Option Addr} {N : List Int} (p : Option Addr) : ∀ (f i : Nat) {h : GH} {out : Sl}, i ≤ 256 → 256 < f + i → Cnt h a N → Bv h out (ascB N i) → (∀ x ∈ rowsOf out, x ∉ rowsOf ⟨a, 256, 256⟩) →
    ∃ h' q, Bv h' q (ascB N 256) ∧ Keep h h' (rowsOf out) ∧ (∀ k ∈ rowsOf q, k ∈ rowsOf out ∨ h.next ≤ k) ∧ ∀ (β : Type) (F1 : Sl → Option Addr → GH → (GH → Option β) → Option β) (F2 : Sl → GH → (Sl → GH → Option β) → Option β) (K0 : Option Addr → Sl → GH → Option β), F_follow_counts_ordered_l0 F1 F2 R f p out a ((i : Nat) : Int) h K0 = K0 p q h' := by
  intro f
  induction f with
  | zero => intro i h out h1 h2; omega
  | succ f ih =>
    intro i h out h1 h2 c v hd
    by_cases hi : i < 256
    · by_cases hN : N.getD i 0 > 0
      · obtain ⟨h3, s3, e3, v3, k3, n3⟩ := app_byteB v ((i : Nat) : Int) (by have := ascB_len N i; omega)
        rw [show ascB N i ++ [((i : Nat) : Int)] = ascB N (i + 1) by rw [ascB_succ, if_pos hN]] at v3
        have lt := c.row.lt
        obtain ⟨h4, q, v4, k4, n4, e4⟩ := ih (i + 1) (by omega) (by omega) (c.keep k3 (fun x hx hm => hd x hm hx)) v3 (fun x hx hm => by
          rcases n3 x hx with q1 | q1
          · exact hd x q1 hm
          · have := lt x hm; omega)
        refine ⟨h4, q, v4, k3.trans k4 (fun x hx => n3 x hx), fun x hx => ?_, fun β F1 F2 K0 => ?_⟩
        · rcases n4 x hx with q1 | q1
          · exact n3 x q1
          · have := k3.1; exact .inr (by omega)
        · rw [F_follow_counts_ordered_l0_succ, decT (by omega), condT, c.get (by omega) (by omega), Int.toNat_natCast, decT hN, condT, u8i hi]
          refine Eq.trans (e3 β _) ?_
          rw [i64w (by omega)]
          exact e4 β F1 F2 K0
      · obtain ⟨h4, q, v4, k4, n4, e4⟩ := ih (i + 1) (by omega) (by omega) c (by rw [ascB_succ, if_neg hN, List.append_nil]; exact v) hd
        refine ⟨h4, q, v4, k4, n4, fun β F1 F2 K0 => ?_⟩
        rw [F_follow_counts_ordered_l0_succ, decT (by omega), condT, c.get (by omega) (by omega), Int.toNat_natCast, decF hN, condF, i64w (by omega)]
        exact e4 β F1 F2 K0
    · have : i = 256 := by omega
      subst this
      refine ⟨h, out, v, .refl _ _, fun x hx => .inl hx, fun β F1 F2 K0 => ?_⟩
      rw [F_follow_counts_ordered_l0_succ, decF (by omega), condF]
theorem first_eq {h : GH} {s : Sl} {bs : List Int} (r : Rd h s bs) (R : Nat) : ∃ q, Rd h q (bs.take 32) ∧ (∀ k ∈ rowsOf q, k ∈ rowsOf s) ∧ ∀ (β : Type) (K : Sl → GH → Option β), F_follow_first R s h K = K q h := by
  have hn := r.n
  have hc := r.cap
  have hmin : (if 32 < ((s.n : Nat) : Int) then 32 else ((s.n : Nat) : Int)) = ((min 32 s.n : Nat) : Int) := by
    by_cases c : 32 < s.n
    · rw [if_pos (by omega)]; omega
    · rw [if_neg (by omega)]; omega
  have := r.sub (lo := 0) (hi := min 32 s.n) (mx := s.c) (Nat.zero_le _) (by omega) (by omega) (Nat.le_refl _) (fun ha => by
    rcases r.at_ with ⟨_, _, q⟩ | ⟨g, o, b, q, _⟩
    · exact q
    · rw [ha] at q; cases q)
  refine ⟨⟨addO s.a (0 * 1), min 32 s.n - 0, s.c - 0⟩, ?_, fun k hk => ?_, fun β K => ?_⟩
  · rw [Nat.zero_mul, List.drop_zero, Nat.sub_zero, Nat.mul_one] at this
    unfold Rd
    rw [show u8s (bs.take 32) = (u8s bs).take (min 32 s.n) by
      rw [hn]
      unfold u8s
      rw [← List.map_take]
      congr 1
      by_cases c : 32 ≤ bs.length
      · rw [Nat.min_eq_left c]
      · rw [Nat.min_eq_right (by omega), List.take_of_length_le (by omega), List.take_of_length_le (Nat.le_refl _)], Nat.zero_mul, Nat.sub_zero]
    exact this
  · cases ha : s.a with
    | none => simp [rowsOf, addO, ha] at hk
    | some x => simpa [rowsOf, addO, ha] using hk
  · unfold F_follow_first
    rw [F_follow_first_gen, hmin, bnd_t (by omega) (by omega)]; rfl
theorem ordered_eq {h : GH} {a : Option Addr} {N : List Int} (c : Cnt h a N) {R : Nat} (hR : 4000000 < R) : ∃ h' q, Rd h' q ((ordZ N).take 32) ∧ Keep h h' [] ∧ (∀ k ∈ rowsOf q, h.next ≤ k) ∧ ∀ (β : Type) (K : Sl → GH → Option β), F_follow_counts_ordered R a h K = K q h' := by
  have k0 := keep_push h (.row ⟨[Value.pointer a], 0, false⟩) []
  have c0 := c.keep k0 (by simp)
  have hp : (h.push (.row ⟨[Value.pointer a], 0, false⟩)).cell ⟨h.next, 0, none⟩ = some (.pointer a) := by rw [cell_of look_push_new]; rfl
  have lt := c.row.lt
  obtain ⟨h1, s1, v1, k1, n1, e1⟩ := ord_loop R (some ⟨h.next, 0, none⟩) R 0 (by omega) (by omega) c0 (show Bv _ ⟨none, 0, 0⟩ (ascB N 0) from Vec.nil) (by simp [rowsOf])
  have kk : Keep h h1 [] := k0.trans k1 (by simp [rowsOf])
  have n1' : ∀ k ∈ rowsOf s1, h.next < k := fun k hk => by
    rcases n1 k hk with q | q
    · simp [rowsOf] at q
    · simp [next_push] at q; omega
  have start : ∀ (β : Type) (K : Sl → GH → Option β), F_follow_counts_ordered R a h K = F_slices_SortStableFunc_byte_s1 R s1 (some ⟨h.next, 0, none⟩) h1 fun h21 => F_follow_first R s1 h21 fun r22 h23 => K r22 h23 := fun β K => by
    unfold F_follow_counts_ordered
    rw [F_follow_counts_ordered_gen, gnew_eq rfl, hp, exP_s]
    have e1' := e1 β (F_slices_SortStableFunc_byte_s1 R) (F_follow_first R)
    rw [show ((0 : Nat) : Int) = 0 from rfl] at e1'
    exact e1' _
  obtain ⟨z1, z2⟩ := ordZ_spec N
  rcases v1.at_ with ⟨ha, hn0⟩ | ⟨g, ha, hl⟩
  · have hs : s1 = ⟨none, 0, 0⟩ := by
      cases s1
      have := v1.c
      simp only at ha hn0 this
      subst ha hn0
      rw [this]
    have hnil : ascB N 256 = [] := List.length_eq_zero_iff.1 (by have := v1.n; omega)
    have hz : ordZ N = [] := by rw [hnil] at z1; exact z1.eq_nil
    refine ⟨h1, s1, by rw [hz, hs]; exact Row.nil, kk, fun k hk => by have := n1' k hk; omega, fun β K => ?_⟩
    rw [start, hs, sort_none hR]
    unfold F_follow_first
    rw [F_follow_first_gen]; rfl
  · have hn := v1.n
    have hs : s1 = ⟨some ⟨g, 0, none⟩, (ascB N 256).length, (ascB N 256).length⟩ := by
      cases s1
      have := v1.c
      simp only at ha hn this
      subst ha
      rw [this, hn]
    have hgn := n1' g (by simp [rowsOf, ha])
    have cK := c.keep kk (by simp)
    have hp1 : h1.cell ⟨h.next, 0, none⟩ = some (.pointer a) := by
      have hk := k1.2 h.next (by simp [next_push]) (by simp [rowsOf])
      rw [cell_look] at hp ⊢
      rw [hk]; exact hp
    have keys : Sb.Keys h1 h.next ⟨a, 256, 256⟩ (negL N) := ⟨hp1, by rw [negL_negL]; exact cK.row, by unfold negL; rw [List.length_map]; exact c.len⟩
    have hgl : g ∉ rowsOf ⟨a, 256, 256⟩ := fun q => by have := lt g q; omega
    have hin : Sb.InK (negL N) (ascB N 256) := fun x hx => by
      have := (ascB_mem.1 hx).1
      rw [show (negL N).length = 256 by unfold negL; rw [List.length_map]; exact c.len]
      exact this
    have hwr : Sb.Wr h1 g (ascB N 256) = h1 := by
      have hg := (look_get hl).2
      unfold Sb.Wr GH.put
      congr 1
      funext k
      by_cases hk : k = g
      · subst hk; rw [beq_t]; exact hg.symm
      · rw [beq_f hk]; rfl
    have hz : ∀ (β : Type) (K : GH → Option β), F_slices_SortStableFunc_byte_s1 R s1 (some ⟨h.next, 0, none⟩) h1 K = K (Sb.Wr h1 g (ordZ N)) := fun β K => by
      obtain ⟨Z, y1, y2, e⟩ := Sb.sort_eq (β := β) (look_lt hl) keys (by omega) hgl hR (L := (ascB N 256).length) (by have := ascB_len N 256; omega) (ascB N 256) (ascB_asc N 256) hin rfl K
      rw [hwr] at e
      rw [hs, e, srtB_unique (y1.trans z1.symm) y2 z2]
    have r2 : Rd (Sb.Wr h1 g (ordZ N)) s1 (ordZ N) := by
      rw [hs]
      refine ⟨by rw [u8s_length, z1.length_eq]; simp, Nat.le_refl _, .inr ⟨g, 0, _, rfl, Sb.Wr.look (look_lt hl) (ordZ N), ?_, ?_⟩⟩
      · show 0 + (u8s (ordZ N)).length ≤ (u8s (ordZ N)).length; omega
      · show ((u8s (ordZ N)).drop 0).take (u8s (ordZ N)).length = _; rw [List.drop_zero, List.take_length]
    obtain ⟨q, rq, nq, eq⟩ := first_eq r2 R
    refine ⟨_, q, rq, kk.trans (keep_put h1 g _) (fun x hx => by simp at hx; subst hx; exact .inr (by omega)), fun k hk => by have := n1' k (nq k hk); omega, fun β K => ?_⟩
    rw [start, hz, eq]
end Go.Proofs.Ytdmemmpkkibckaa.Gx

