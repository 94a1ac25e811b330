/- The stable sort: blocks by insertion, then merged by pairs. No condition. -/
import Derived.Test.YtdmemmpkkibckaaSbtG
namespace Go.Proofs.Ytdmemmpkkibckaa.Gx.Sb
open Go Go.RowKit
set_option linter.unusedVariables false
set_option linter.unusedSimpArgs false
theorem bub_sort {keys : List Int} {x : Int} : ∀ r : List Int, r.Pairwise (fun a b => Lx keys b a) → (∀ y ∈ r, y < x) → (bub keys r x).Pairwise (fun a b => Lx keys b a) ∧ (bub keys r x).Perm (x :: r)
  | [], _, _ => ⟨List.pairwise_singleton _ _, .refl _⟩
  | y :: r, hs, ho => by
    have hs' := List.pairwise_cons.1 hs
    unfold bub
    cases hlt : ltK keys x y with
    | true =>
      obtain ⟨a1, a2⟩ := bub_sort r hs'.2 (fun z hz => ho z (List.mem_cons_of_mem _ hz))
      rw [if_pos rfl]
      refine ⟨List.pairwise_cons.2 ⟨fun z hz => ?_, a1⟩, (a2.cons y).trans (.swap x y r)⟩
      rcases List.mem_cons.1 (a2.mem_iff.1 hz) with e | e
      · subst e; exact .inl (ltK_t hlt)
      · exact hs'.1 z e
    | false =>
      rw [if_neg (by simp)]
      refine ⟨List.pairwise_cons.2 ⟨fun z hz => ?_, hs⟩, .refl _⟩
      have h1 := ltK_f hlt
      have h2 := ho z hz
      rcases List.mem_cons.1 hz with e | e
      · subst e; unfold Lx; omega
      · have := (hs'.1 z e).le; unfold Lx; omega
theorem ins_sort {keys : List Int} : ∀ (B A : List Int), Srt keys A → B.Pairwise (· < ·) → (∀ x ∈ A, ∀ y ∈ B, x < y) → Srt keys (B.foldl (insK keys) A) ∧ (B.foldl (insK keys) A).Perm (A ++ B)
  | [], A, hs, hb, ho => ⟨hs, by simp⟩
  | x :: B, A, hs, hb, ho => by
    have hb' := List.pairwise_cons.1 hb
    have h1 := bub_sort (keys := keys) (x := x) A.reverse (List.pairwise_reverse.2 hs) (fun y hy => ho y (List.mem_reverse.1 hy) x (by simp))
    have h2 : Srt keys (insK keys A x) := List.pairwise_reverse.2 h1.1
    have h3 : (insK keys A x).Perm (x :: A) := (List.reverse_perm _).trans (h1.2.trans ((List.reverse_perm A).cons x))
    obtain ⟨a1, a2⟩ := ins_sort B (insK keys A x) h2 hb'.2 (fun z hz y hy => by
      rcases List.mem_cons.1 (h3.mem_iff.1 hz) with e | e
      · subst e; exact hb'.1 y hy
      · exact ho z e y (List.mem_cons_of_mem _ hy))
    refine ⟨a1, a2.trans ((h3.append_right B).trans ?_)⟩
    exact List.perm_middle.symm
/-- sorted blocks, all of s things but the last one -/
structure Blks (keys : List Int) (s : Nat) (Bs : List (List Int)) : Prop where
  srt : ∀ B ∈ Bs, Srt keys B ∧ 0 < B.length ∧ B.length ≤ s
  ord : Bs.Pairwise (fun A B => ∀ x ∈ A, ∀ y ∈ B, x < y)
  full : ∀ B Cs, (∃ As, Bs = As ++ B :: Cs) → Cs ≠ [] → B.length = s
theorem Blks.nil (keys : List Int) (s : Nat) : Blks keys s [] := ⟨by simp, .nil, fun B Cs ⟨As, h⟩ _ => by simp at h⟩
theorem Blks.tail {keys : List Int} {s : Nat} {A : List Int} {Bs : List (List Int)} (b : Blks keys s (A :: Bs)) : Blks keys s Bs :=
  ⟨fun B hB => b.srt B (List.mem_cons_of_mem _ hB), (List.pairwise_cons.1 b.ord).2, fun B Cs ⟨As, h⟩ hc => b.full B Cs ⟨A :: As, by rw [h]; rfl⟩ hc⟩
theorem Blks.cons {keys : List Int} {s : Nat} {A : List Int} {Bs : List (List Int)} (b : Blks keys s Bs) (h1 : Srt keys A) (h2 : 0 < A.length) (h3 : A.length ≤ s) (h4 : Bs ≠ [] → A.length = s) (h5 : ∀ x ∈ A, ∀ y ∈ Bs.flatten, x < y) : Blks keys s (A :: Bs) := by
  refine ⟨fun B hB => ?_, List.pairwise_cons.2 ⟨fun B hB x hx y hy => h5 x hx y (List.mem_flatten.2 ⟨B, hB, hy⟩), b.ord⟩, fun B Cs ⟨As, h⟩ hc => ?_⟩
  · rcases List.mem_cons.1 hB with e | e
    · subst e; exact ⟨h1, h2, h3⟩
    · exact b.srt B e
  · cases As with
    | nil => simp at h; obtain ⟨rfl, rfl⟩ := h; exact h4 hc
    | cons D As => simp at h; exact b.full B Cs ⟨As, h.2⟩ hc
theorem Blks.first {keys : List Int} {s : Nat} {A : List Int} {Bs : List (List Int)} (b : Blks keys s (A :: Bs)) (hb : Bs ≠ []) : A.length = s := b.full A Bs ⟨[], rfl⟩ hb
theorem Blks.ahead {keys : List Int} {s : Nat} {A : List Int} {Bs : List (List Int)} (b : Blks keys s (A :: Bs)) : ∀ x ∈ A, ∀ y ∈ Bs.flatten, x < y := fun x hx y hy => by
  obtain ⟨B, h1, h2⟩ := List.mem_flatten.1 hy
  exact (List.pairwise_cons.1 b.ord).1 B h1 x hx y h2
section
variable {β : Type} {h : GH} {g gp : Nat} (hg : g < h.next) {ls : Sl} {keys : List Int} (k : Keys h gp ls keys) (hgp : gp ≠ g) (hgl : g ∉ rowsOf ls) {R : Nat} (hR : 4000000 < R) {L : Nat} (hm : L ≤ 1000000)
include hg k hgp hgl hR hm
/-- a piece that ascends, sorted by insertion -/
theorem ins_any (P T S : List Int) (hT : T.Pairwise (· < ·)) (hin : InK keys (P ++ T ++ S)) (hL : L = (P ++ T ++ S).length) : ∃ Z, Z.Perm T ∧ Srt keys Z ∧ ∀ {a b : Int}, a = (P.length : Nat) → b = ((P.length + T.length : Nat) : Int) → ∀ K : GH → Option β,
    F_slices_insertionSortCmpFunc_byte_s1 R ⟨some ⟨g, 0, none⟩, L, L⟩ a b (some ⟨gp, 0, none⟩) (Wr h g (P ++ T ++ S)) K = K (Wr h g (P ++ Z ++ S)) := by
  cases T with
  | nil =>
    refine ⟨[], .refl _, srt_nil keys, fun {a b} ea eb K => ?_⟩
    subst ea eb
    obtain ⟨R, rfl⟩ : ∃ q, R = q + 1 := ⟨R - 1, by omega⟩
    have hLn : L = P.length + S.length := by rw [hL]; simp
    unfold F_slices_insertionSortCmpFunc_byte_s1
    rw [F_slices_insertionSortCmpFunc_byte_s1_gen, F_slices_insertionSortCmpFunc_byte_s1_l0_succ, i64w (by omega), decF (by simp; omega), condF]
  | cons x B =>
    have hT' := List.pairwise_cons.1 hT
    obtain ⟨a1, a2⟩ := ins_sort (keys := keys) B [x] (srt_one keys x) hT'.2 (fun z hz y hy => by rw [List.mem_singleton.1 hz]; exact hT'.1 y hy)
    exact ⟨_, a2, a1, fun {a b} ea eb K => insertion_eq hg k hgp hgl hR hm P x B S hL hin ea (by rw [eb]; rfl) K⟩
/-- blocks of 20 -/
theorem st_l0 (F2 : Sl → Int → Int → Int → Option Addr → GH → (GH → Option β) → Option β) (Kx : Sl → Int → Option Addr → Int → GH → Option β) : ∀ (n : Nat) (T P : List Int), T.length < n → T.Pairwise (· < ·) → InK keys (P ++ T) → L = (P ++ T).length →
    ∃ Bs, Bs.flatten.Perm T ∧ Blks keys 20 Bs ∧ F_slices_stableCmpFunc_byte_s1_l0 (F_slices_insertionSortCmpFunc_byte_s1 R) F2 R n ⟨some ⟨g, 0, none⟩, L, L⟩ (L : Nat) (some ⟨gp, 0, none⟩) 20 (P.length : Nat) ((P.length + 20 : Nat) : Int) (Wr h g (P ++ T)) (fun w16 w17 y18 w19 w20 h21 => F_slices_insertionSortCmpFunc_byte_s1 R w16 w20 w17 y18 h21 fun h22 => Kx w16 w17 y18 w19 h22)
      = Kx ⟨some ⟨g, 0, none⟩, L, L⟩ (L : Nat) (some ⟨gp, 0, none⟩) 20 (Wr h g (P ++ Bs.flatten))
  | 0, T, P, h1, _, _, _ => by omega
  | n + 1, T, P, h1, hT, hin, hL => by
    have hLn : L = P.length + T.length := by rw [hL]; simp
    rw [F_slices_stableCmpFunc_byte_s1_l0_succ]
    by_cases c : 20 ≤ T.length
    · obtain ⟨T1, T2, rfl, l1⟩ : ∃ T1 T2, T = T1 ++ T2 ∧ T1.length = 20 := ⟨T.take 20, T.drop 20, (List.take_append_drop 20 T).symm, by rw [List.length_take]; omega⟩
      rw [List.length_append] at h1 hLn
      have hT' := List.pairwise_append.1 hT
      obtain ⟨Z, z1, z2, z3⟩ := ins_any (β := β) hg k hgp hgl hR hm P T1 T2 hT'.1 (by rw [List.append_assoc]; exact hin) (by rw [List.append_assoc]; exact hL)
      have lZ : Z.length = 20 := by rw [z1.length_eq, l1]
      obtain ⟨Bs, b1, b2, b3⟩ := st_l0 F2 Kx n T2 (P ++ Z) (by omega) hT'.2.1 ((hin.l.app (hin.r.l.perm z1)).app hin.r.r) (by simp; omega)
      refine ⟨Z :: Bs, ?_, b2.cons z2 (by omega) (by omega) (fun _ => lZ) (fun x hx y hy => hT'.2.2 x (z1.mem_iff.1 hx) y (b1.mem_iff.1 hy)), ?_⟩
      · rw [List.flatten_cons]; exact z1.append b1
      · rw [decT (by omega), condT, ← List.append_assoc P T1 T2, z3 rfl (by rw [l1])]
        rw [i64w (x := ((P.length + 20 : Nat) : Int) + 20) (by omega)]
        rw [List.length_append, lZ] at b3
        refine Eq.trans b3 ?_
        rw [List.flatten_cons, List.append_assoc]
    · obtain ⟨Z, z1, z2, z3⟩ := ins_any (β := β) hg k hgp hgl hR hm P T [] hT (by rw [List.append_nil]; exact hin) (by rw [List.append_nil]; exact hL)
      simp only [List.append_nil] at z3
      rw [decF (by omega), condF, z3 rfl (by rw [hLn])]
      by_cases hT0 : T.length = 0
      · have : Z = [] := List.length_eq_zero_iff.1 (by rw [z1.length_eq, hT0])
        subst this
        exact ⟨[], z1, Blks.nil _ _, rfl⟩
      · have lZ := z1.length_eq
        exact ⟨[Z], by simpa using z1, (Blks.nil _ _).cons z2 (by omega) (by omega) (by simp) (by simp), by simp⟩
/-- pairs merged -/
theorem st_l2 (F1 : Sl → Int → Int → Option Addr → GH → (GH → Option β) → Option β) (Kx : Sl → Int → Option Addr → Int → GH → Option β) (s : Nat) (hs0 : 0 < s) (hs : s ≤ 1000000) : ∀ (n : Nat) (Bs : List (List Int)) (P : List Int), Bs.length < n → Blks keys s Bs → InK keys (P ++ Bs.flatten) → L = (P ++ Bs.flatten).length →
    ∃ Cs, Cs.flatten.Perm Bs.flatten ∧ Blks keys (2 * s) Cs ∧ F_slices_stableCmpFunc_byte_s1_l2 F1 (F_slices_symMergeCmpFunc_byte_s1 R R) R n ⟨some ⟨g, 0, none⟩, L, L⟩ (L : Nat) (some ⟨gp, 0, none⟩) (s : Nat) (P.length : Nat) ((P.length + 2 * s : Nat) : Int) (Wr h g (P ++ Bs.flatten)) (fun w39 w40 y41 w42 w43 h44 => (bif decide ((IntKind.wrap .i64 (w43 + w42)) < w40) then F_slices_symMergeCmpFunc_byte_s1 R R w39 w43 (IntKind.wrap .i64 (w43 + w42)) w40 y41 h44 fun h45 => Kx w39 w40 y41 w42 h45 else Kx w39 w40 y41 w42 h44))
      = Kx ⟨some ⟨g, 0, none⟩, L, L⟩ (L : Nat) (some ⟨gp, 0, none⟩) (s : Nat) (Wr h g (P ++ Cs.flatten))
  | 0, Bs, P, h1, _, _, _ => by omega
  | n + 1, [], P, h1, hb, hin, hL => by
    have hLn : L = P.length := by rw [hL]; simp
    refine ⟨[], .refl _, Blks.nil _ _, ?_⟩
    rw [F_slices_stableCmpFunc_byte_s1_l2_succ, decF (by omega), condF, i64w (by omega), decF (by omega), condF]
  | n + 1, [A], P, h1, hb, hin, hL => by
    have hA := hb.srt A (by simp)
    have hLn : L = P.length + A.length := by rw [hL]; simp
    refine ⟨[A], .refl _, (Blks.nil _ _).cons hA.1 hA.2.1 (by omega) (by simp) (by simp), ?_⟩
    rw [F_slices_stableCmpFunc_byte_s1_l2_succ, decF (by omega), condF, i64w (by omega), decF (by omega), condF]
  | n + 1, A :: B :: r, P, h1, hb, hin, hL => by
    have hA := hb.srt A (by simp)
    have hB := hb.srt B (by simp)
    have lA := hb.first (by simp)
    have hLn : L = P.length + A.length + B.length + r.flatten.length := by rw [hL]; simp; omega
    have ho : ∀ x ∈ A, ∀ y ∈ B, x < y := fun x hx y hy => hb.ahead x hx y (by simp [hy])
    have er : P ++ (A :: B :: r).flatten = P ++ A ++ B ++ r.flatten := by simp
    rw [er] at hin hL ⊢
    obtain ⟨Z, z1, z2, z3⟩ := symMerge_eq (β := β) hg k hgp hgl hR hm R P A B r.flatten hA.2.1 hB.2.1 (by omega) hA.1 hB.1 ho hin hL
    have lZ : Z.length = A.length + B.length := by rw [z1.length_eq]; simp
    have hin' : InK keys (P ++ Z ++ r.flatten) := (hin.l.l.l.app ((hin.l.l.r.app hin.l.r).perm z1)).app hin.r
    rw [F_slices_stableCmpFunc_byte_s1_l2_succ]
    have e1 : IntKind.wrap .i64 (((P.length : Nat) : Int) + ((s : Nat) : Int)) = ((P.length + A.length : Nat) : Int) := by rw [i64w (by omega)]; omega
    by_cases lB : B.length = s
    · obtain ⟨Cs, c1, c2, c3⟩ := st_l2 F1 Kx s hs0 hs n r (P ++ Z) (by simp at h1; omega) hb.tail.tail hin' (by rw [List.length_append, List.length_append]; omega)
      refine ⟨Z :: Cs, ?_, c2.cons z2 (by omega) (by omega) (fun _ => by omega) (fun x hx y hy => ?_), ?_⟩
      · rw [List.flatten_cons, List.flatten_cons, List.flatten_cons, ← List.append_assoc]; exact z1.append c1
      · have hy := c1.mem_iff.1 hy
        rcases List.mem_append.1 (z1.mem_iff.1 hx) with e | e
        · exact hb.ahead x e y (by simp at hy ⊢; exact .inr hy)
        · exact hb.tail.ahead x e y hy
      · rw [decT (by omega), condT, e1, show ((P.length + 2 * s : Nat) : Int) = ((P.length + A.length + B.length : Nat) : Int) by omega, z3]
        rw [List.length_append, lZ] at c3
        rw [i64w (x := 2 * ((s : Nat) : Int)) (by omega), i64w (x := ((P.length + A.length + B.length : Nat) : Int) + 2 * ((s : Nat) : Int)) (by omega), show ((P.length + A.length + B.length : Nat) : Int) + 2 * ((s : Nat) : Int) = ((P.length + (A.length + B.length) + 2 * s : Nat) : Int) by omega, show P.length + A.length + B.length = P.length + (A.length + B.length) by omega]
        refine Eq.trans c3 ?_
        rw [List.flatten_cons, List.append_assoc]
    · have hr : r = [] := by
        cases r with
        | nil => rfl
        | cons C r => exact absurd (hb.tail.first (by simp)) lB
      subst hr
      refine ⟨[Z], by simpa using z1, (Blks.nil _ _).cons z2 (by omega) (by omega) (by simp) (by simp), ?_⟩
      simp only [List.flatten_nil, List.append_nil, List.length_nil, Nat.add_zero] at z3 hLn ⊢
      rw [decF (by omega), condF, e1, decT (by omega), condT, show ((L : Nat) : Int) = ((P.length + A.length + B.length : Nat) : Int) by omega, z3]
      simp
/-- blocks doubled until there is one -/
theorem st_l1 (K : GH → Option β) : ∀ (n s : Nat) (Bs : List (List Int)), L < n + s → 20 ≤ s → Blks keys s Bs → InK keys Bs.flatten → L = Bs.flatten.length →
    ∃ Z, Z.Perm Bs.flatten ∧ Srt keys Z ∧ F_slices_stableCmpFunc_byte_s1_l1 (F_slices_insertionSortCmpFunc_byte_s1 R) (F_slices_symMergeCmpFunc_byte_s1 R R) R (n + 1) ⟨some ⟨g, 0, none⟩, L, L⟩ (L : Nat) (some ⟨gp, 0, none⟩) (s : Nat) (Wr h g Bs.flatten) K = K (Wr h g Z) := by
  intro n
  induction n with
  | zero =>
    intro s Bs h1 h2 hb hin hL
    rw [F_slices_stableCmpFunc_byte_s1_l1_succ, decF (by omega), condF]
    refine ⟨Bs.flatten, .refl _, ?_, rfl⟩
    match Bs, hb, hL with
    | [], _, _ => exact srt_nil keys
    | [A], hb, _ => simpa using (hb.srt A (by simp)).1
    | A :: B :: r, hb, hL => have := hb.first (by simp); simp at hL; omega
  | succ n ih =>
    intro s Bs h1 h2 hb hin hL
    rw [F_slices_stableCmpFunc_byte_s1_l1_succ]
    by_cases c : s < L
    · have hBl : ∀ Cs : List (List Int), (∀ B ∈ Cs, 0 < B.length) → Cs.length ≤ Cs.flatten.length := by
        intro Cs
        induction Cs with
        | nil => intro _; simp
        | cons C Cs ihc =>
          intro hc
          have := hc C (by simp)
          have := ihc (fun B hB => hc B (by simp [hB]))
          simp only [List.flatten_cons, List.length_append, List.length_cons]; omega
      have := hBl Bs (fun B hB => (hb.srt B hB).2.1)
      obtain ⟨Cs, c1, c2, c3⟩ := st_l2 (β := β) hg k hgp hgl hR hm (F_slices_insertionSortCmpFunc_byte_s1 R) (fun w39 w40 y41 w42 h45 => F_slices_stableCmpFunc_byte_s1_l1 (F_slices_insertionSortCmpFunc_byte_s1 R) (F_slices_symMergeCmpFunc_byte_s1 R R) R (n + 1) w39 w40 y41 (IntKind.wrap .i64 (w42 * 2)) h45 K) s (by omega) (by omega) R Bs [] (by omega) hb (by simpa using hin) (by simpa using hL)
      obtain ⟨Z, z1, z2, z3⟩ := ih (2 * s) Cs (by omega) (by omega) c2 (hin.perm c1) (by rw [hL, c1.length_eq])
      refine ⟨Z, z1.trans c1, z2, ?_⟩
      rw [decT (by omega), condT]
      simp only [List.nil_append, List.length_nil, Nat.zero_add] at c3
      rw [i64w (x := 2 * ((s : Nat) : Int)) (by omega)]
      refine Eq.trans c3 ?_
      show F_slices_stableCmpFunc_byte_s1_l1 _ _ R (n + 1) _ _ _ (IntKind.wrap .i64 (((s : Nat) : Int) * 2)) _ K = _
      rw [i64w (x := ((s : Nat) : Int) * 2) (by omega), show ((s : Nat) : Int) * 2 = ((2 * s : Nat) : Int) by omega]
      exact z3
    · rw [decF (by omega), condF]
      refine ⟨Bs.flatten, .refl _, ?_, rfl⟩
      match Bs, hb, hL with
      | [], _, _ => exact srt_nil keys
      | [A], hb, _ => simpa using (hb.srt A (by simp)).1
      | A :: B :: r, hb, hL =>
        have := hb.first (by simp)
        have := (hb.srt B (by simp)).2.1
        simp at hL; omega
theorem sort_eq (T : List Int) (hT : T.Pairwise (· < ·)) (hin : InK keys T) (hL : L = T.length) (K : GH → Option β) :
    ∃ Z, Z.Perm T ∧ Srt keys Z ∧ F_slices_SortStableFunc_byte_s1 R ⟨some ⟨g, 0, none⟩, L, L⟩ (some ⟨gp, 0, none⟩) (Wr h g T) K = K (Wr h g Z) := by
  obtain ⟨n, rfl⟩ : ∃ q, R = q + 1 := ⟨R - 1, by omega⟩
  obtain ⟨Bs, b1, b2, b3⟩ := st_l0 (β := β) hg k hgp hgl hR hm (F_slices_symMergeCmpFunc_byte_s1 (n + 1) (n + 1)) (fun w16 w17 y18 w19 h22 => F_slices_stableCmpFunc_byte_s1_l1 (F_slices_insertionSortCmpFunc_byte_s1 (n + 1)) (F_slices_symMergeCmpFunc_byte_s1 (n + 1) (n + 1)) (n + 1) (n + 1) w16 w17 y18 w19 h22 (fun h46 => K h46)) (n + 1) T [] (by omega) hT (by simpa using hin) (by simpa using hL)
  obtain ⟨Z, z1, z2, z3⟩ := st_l1 (β := β) hg k hgp hgl hR hm K n 20 Bs (by omega) (by omega) b2 (hin.perm b1) (by rw [hL, b1.length_eq])
  refine ⟨Z, z1.trans b1, z2, ?_⟩
  unfold F_slices_SortStableFunc_byte_s1
  rw [F_slices_SortStableFunc_byte_s1_gen]
  unfold F_slices_stableCmpFunc_byte_s1
  rw [F_slices_stableCmpFunc_byte_s1_gen]
  refine Eq.trans b3 ?_
  exact z3
end
end Go.Proofs.Ytdmemmpkkibckaa.Gx.Sb

