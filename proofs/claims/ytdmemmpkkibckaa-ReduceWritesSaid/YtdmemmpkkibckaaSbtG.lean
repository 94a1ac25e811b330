/- The merge of two sorted pieces in place: the whole function. No condition. -/
import Derived.Test.YtdmemmpkkibckaaSbtF
namespace Go.Proofs.Ytdmemmpkkibckaa.Gx.Sb
open Go Go.RowKit
set_option linter.unusedVariables false
set_option linter.unusedSimpArgs false
section
variable {β : Type} {h : GH} {g gp : Nat} (hg : g < h.next) {ls : Sl} {keys : List Int} (k : Keys h gp ls keys) (hgp : gp ≠ g) (hgl : g ∉ rowsOf ls) {R : Nat} (hR : 4000000 < R) {L : Nat} (hm : L ≤ 1000000)
theorem may_step (F : Sl → Int → Int → Int → Option Addr → GH → (GH → Option β) → Option β) {p : Option Addr} {P A B S : List Int} (sA : Srt keys A) (sB : Srt keys B)
    (ih : 0 < A.length → 0 < B.length → ∃ Z, Z.Perm (A ++ B) ∧ Srt keys Z ∧ ∀ K, F ⟨some ⟨g, 0, none⟩, L, L⟩ (P.length : Nat) ((P.length + A.length : Nat) : Int) ((P.length + A.length + B.length : Nat) : Int) p (Wr h g (P ++ A ++ B ++ S)) K = K (Wr h g (P ++ Z ++ S))) :
    ∃ Z, Z.Perm (A ++ B) ∧ Srt keys Z ∧ ∀ {a m b : Int}, a = (P.length : Nat) → m = ((P.length + A.length : Nat) : Int) → b = ((P.length + A.length + B.length : Nat) : Int) → ∀ K, smMay F ⟨some ⟨g, 0, none⟩, L, L⟩ a m b p (Wr h g (P ++ A ++ B ++ S)) K = K (Wr h g (P ++ Z ++ S)) := by
  by_cases c1 : 0 < A.length
  · by_cases c2 : 0 < B.length
    · obtain ⟨Z, z1, z2, z3⟩ := ih c1 c2
      refine ⟨Z, z1, z2, fun {a m b} ea em eb K => ?_⟩
      subst ea em eb
      rw [smMay, decT (by omega), condT, decT (by omega), condT]
      exact z3 K
    · have : B = [] := List.length_eq_zero_iff.1 (by omega)
      subst this
      refine ⟨A, by rw [List.append_nil], sA, fun {a m b} ea em eb K => ?_⟩
      subst ea em eb
      rw [smMay, decT (by omega), condT, decF (by simp), condF, List.append_nil]
  · have : A = [] := List.length_eq_zero_iff.1 (by omega)
    subst this
    refine ⟨B, by rw [List.nil_append], sB, fun {a m b} ea em eb K => ?_⟩
    subst ea em eb
    rw [smMay, decF (by simp), condF, List.append_nil]
include hg hR hm
theorem may_rot {p : Option Addr} {P A B S : List Int} (hL : L = (P ++ A ++ B ++ S).length) {a m b : Int} (ea : a = (P.length : Nat)) (em : m = ((P.length + A.length : Nat) : Int)) (eb : b = ((P.length + A.length + B.length : Nat) : Int)) (K : GH → Option β) : smMay (F_slices_rotateCmpFunc_byte_s1 R) ⟨some ⟨g, 0, none⟩, L, L⟩ a m b p (Wr h g (P ++ A ++ B ++ S)) K = K (Wr h g (P ++ B ++ A ++ S)) := by
  by_cases c1 : 0 < A.length
  · by_cases c2 : 0 < B.length
    · rw [smMay, decT (by omega), condT, decT (by omega), condT]
      exact rotate_eq hg hR p P A B S hL hm c1 c2 ea em eb K
    · have : B = [] := List.length_eq_zero_iff.1 (by omega)
      subst this
      rw [smMay, decT (by omega), condT, decF (by subst ea em eb; simp), condF]; simp
  · have : A = [] := List.length_eq_zero_iff.1 (by omega)
    subst this
    rw [smMay, decF (by subst ea em eb; simp), condF]; simp
theorem sm_tail (Sm : Sl → Int → Int → Int → Option Addr → GH → (GH → Option β) → Option β) (N : Nat)
    (ih : ∀ (P A B S : List Int), 0 < A.length → 0 < B.length → A.length + B.length < N → Srt keys A → Srt keys B → (∀ x ∈ A, ∀ y ∈ B, x < y) → InK keys (P ++ A ++ B ++ S) → L = (P ++ A ++ B ++ S).length →
      ∃ Z, Z.Perm (A ++ B) ∧ Srt keys Z ∧ ∀ K, Sm ⟨some ⟨g, 0, none⟩, L, L⟩ (P.length : Nat) ((P.length + A.length : Nat) : Int) ((P.length + A.length + B.length : Nat) : Int) (some ⟨gp, 0, none⟩) (Wr h g (P ++ A ++ B ++ S)) K = K (Wr h g (P ++ Z ++ S)))
    (P A B S : List Int) (hN : A.length + B.length ≤ N) (sA : Srt keys A) (sB : Srt keys B) (ho : ∀ x ∈ A, ∀ y ∈ B, x < y) (hin : InK keys (P ++ A ++ B ++ S)) (hL : L = (P ++ A ++ B ++ S).length)
    {q r : Nat} (hq : q ≤ A.length) (hr : r ≤ B.length) (hs1 : 0 < q + r) (hs2 : q + r < A.length + B.length)
    (c1 : q = A.length ∨ r = 0 ∨ ltK keys (B.getD (r - 1) 0) (A.getD q 0) = true) (c2 : q = 0 ∨ r = B.length ∨ ltK keys (B.getD r 0) (A.getD (q - 1) 0) = false) :
    ∃ Z, Z.Perm (A ++ B) ∧ Srt keys Z ∧ ∀ {a m b mid n st : Int}, a = (P.length : Nat) → m = ((P.length + A.length : Nat) : Int) → b = ((P.length + A.length + B.length : Nat) : Int) → mid = ((P.length + q + r : Nat) : Int) → st = ((P.length + q : Nat) : Int) → n - st = ((P.length + A.length + r : Nat) : Int) → ∀ K, smTail (F_slices_rotateCmpFunc_byte_s1 R) Sm ⟨some ⟨g, 0, none⟩, L, L⟩ a m b (some ⟨gp, 0, none⟩) mid n st (Wr h g (P ++ A ++ B ++ S)) K = K (Wr h g (P ++ Z ++ S)) := by
  have d1 := cut_lt sA sB hq hr c1
  have d2 := cut_ge sA sB ho hq hr c2
  obtain ⟨A1, A2, rfl, hA1, hA2⟩ : ∃ A1 A2, A = A1 ++ A2 ∧ A1 = A.take q ∧ A2 = A.drop q := ⟨_, _, (List.take_append_drop q A).symm, rfl, rfl⟩
  obtain ⟨B1, B2, rfl, hB1, hB2⟩ : ∃ B1 B2, B = B1 ++ B2 ∧ B1 = B.take r ∧ B2 = B.drop r := ⟨_, _, (List.take_append_drop r B).symm, rfl, rfl⟩
  have lA : A1.length = q := by rw [hA1, List.length_take]; omega
  have lB : B1.length = r := by rw [hB1, List.length_take]; omega
  rw [← hA2, ← hB1] at d1
  rw [← hA1, ← hB2] at d2
  have tA := List.pairwise_append.1 sA
  have tB := List.pairwise_append.1 sB
  simp only [List.length_append] at hN hq hr hs1 hs2
  have hLn : L = P.length + (A1.length + A2.length) + (B1.length + B2.length) + S.length := by rw [hL]; simp; omega
  have iP := hin.l.l.l
  have iA := hin.l.l.r
  have iB := hin.l.r
  have iS := hin.r
  have e1 : P ++ (A1 ++ A2) ++ (B1 ++ B2) ++ S = (P ++ A1) ++ A2 ++ B1 ++ (B2 ++ S) := by simp
  have e2 : (P ++ A1) ++ B1 ++ A2 ++ (B2 ++ S) = P ++ A1 ++ B1 ++ (A2 ++ B2 ++ S) := by simp
  obtain ⟨Z1, p1, s1, f1⟩ := may_step (h := h) (g := g) (L := L) Sm (p := some ⟨gp, 0, none⟩) (P := P) (A := A1) (B := B1) (S := A2 ++ B2 ++ S) tA.1 tB.1 (fun z1 z2 => ih P A1 B1 _ z1 z2 (by omega) tA.1 tB.1 (fun x hx y hy => ho x (List.mem_append_left _ hx) y (List.mem_append_left _ hy)) (((iP.app iA.l).app iB.l).app ((iA.r.app iB.r).app iS)) (by rw [hLn]; simp; omega))
  have lZ : Z1.length = q + r := by rw [p1.length_eq]; simp; omega
  have iZ : InK keys Z1 := (iA.l.app iB.l).perm p1
  obtain ⟨Z2, p2, s2, f2⟩ := may_step (h := h) (g := g) (L := L) Sm (p := some ⟨gp, 0, none⟩) (P := P ++ Z1) (A := A2) (B := B2) (S := S) tA.2.1 tB.2.1 (fun z1 z2 => ih (P ++ Z1) A2 B2 _ z1 z2 (by omega) tA.2.1 tB.2.1 (fun x hx y hy => ho x (List.mem_append_right _ hx) y (List.mem_append_right _ hy)) ((((iP.app iZ).app iA.r).app iB.r).app iS) (by rw [hLn]; simp; omega))
  obtain ⟨pp, ss⟩ := srt_two p1 p2 s1 s2 sA sB d1 d2
  refine ⟨Z1 ++ Z2, pp, ss, fun {a m b mid n st} ea em eb emid est en K => ?_⟩
  rw [List.length_append] at em eb en
  rw [List.length_append] at eb
  have we : IntKind.wrap .i64 (n - st) = ((P.length + (A1.length + A2.length) + r : Nat) : Int) := by rw [en, i64w (by omega)]
  rw [smTail, we, e1, may_rot hg hR hm (by rw [hLn]; simp; omega) (by rw [est, List.length_append, lA]) (by rw [em, List.length_append]; omega) (by rw [List.length_append]; omega), e2,
    f1 ea (by rw [est, lA]) (by rw [emid]; omega), show P ++ Z1 ++ (A2 ++ B2 ++ S) = P ++ Z1 ++ A2 ++ B2 ++ S by simp,
    f2 (by rw [emid, List.length_append]; omega) (by rw [List.length_append]; omega) (by rw [eb, List.length_append]; omega)]
  simp
include k hgp hgl
theorem symMerge_eq : ∀ (N : Nat) (P A B S : List Int), 0 < A.length → 0 < B.length → A.length + B.length < N → Srt keys A → Srt keys B → (∀ x ∈ A, ∀ y ∈ B, x < y) → InK keys (P ++ A ++ B ++ S) → L = (P ++ A ++ B ++ S).length →
      ∃ Z, Z.Perm (A ++ B) ∧ Srt keys Z ∧ ∀ K : GH → Option β, F_slices_symMergeCmpFunc_byte_s1 R N ⟨some ⟨g, 0, none⟩, L, L⟩ (P.length : Nat) ((P.length + A.length : Nat) : Int) ((P.length + A.length + B.length : Nat) : Int) (some ⟨gp, 0, none⟩) (Wr h g (P ++ A ++ B ++ S)) K = K (Wr h g (P ++ Z ++ S)) := by
  intro N
  induction N with
  | zero => intro P A B S _ _ h3; omega
  | succ N ih =>
    intro P A B S h1 h2 h3 sA sB ho hin hL
    have hLn : L = P.length + A.length + B.length + S.length := by rw [hL]; simp; omega
    have gA : ∀ i, i < A.length → (P ++ A ++ B ++ S).getD (P.length + i) 0 = A.getD i 0 := fun i hi => by
      have := getD_A P A (B ++ S) hi; rwa [← List.append_assoc, ← List.append_assoc] at this
    have gB : ∀ i, i < B.length → (P ++ A ++ B ++ S).getD (P.length + A.length + i) 0 = B.getD i 0 := fun i hi => by
      have := getD_A (P ++ A) B S hi; rwa [← List.append_assoc, List.length_append] at this
    have hu : ∀ K : GH → Option β, F_slices_symMergeCmpFunc_byte_s1 R (N + 1) ⟨some ⟨g, 0, none⟩, L, L⟩ (P.length : Nat) ((P.length + A.length : Nat) : Int) ((P.length + A.length + B.length : Nat) : Int) (some ⟨gp, 0, none⟩) (Wr h g (P ++ A ++ B ++ S)) K
      = G_slices_symMergeCmpFunc_byte_s1 (F_follow_counts_ordered_1_s1 R) (F_slices_rotateCmpFunc_byte_s1 R) (F_slices_symMergeCmpFunc_byte_s1 R N) R ⟨some ⟨g, 0, none⟩, L, L⟩ (P.length : Nat) ((P.length + A.length : Nat) : Int) ((P.length + A.length + B.length : Nat) : Int) (some ⟨gp, 0, none⟩) (Wr h g (P ++ A ++ B ++ S)) K := fun K => rfl
    by_cases cA : A.length = 1
    · obtain ⟨x, rfl⟩ := List.length_eq_one_iff.1 cA
      rw [List.length_singleton] at *
      obtain ⟨b1, b2, b3, b4⟩ := bsr_spec (fun c => ltK keys ((P ++ [x] ++ B ++ S).getD c 0) ((P ++ [x] ++ B ++ S).getD P.length 0)) R (P.length + 1) (P.length + 1 + B.length) (by omega) (by omega)
      generalize hw : bsr (fun c => ltK keys ((P ++ [x] ++ B ++ S).getD c 0) ((P ++ [x] ++ B ++ S).getD P.length 0)) R (P.length + 1) (P.length + 1 + B.length) = w at b1 b2 b3 b4
      have gx := gA 0 (by omega)
      rw [Nat.add_zero] at gx
      obtain ⟨r, rfl⟩ : ∃ r, w = P.length + 1 + r := ⟨w - (P.length + 1), by omega⟩
      have d1 := cut_lt (A := [x]) (B := B) (q := 0) (r := r) (srt_one keys x) sB (by simp) (by omega) (by
        rcases b3 with e | e
        · right; left; omega
        · by_cases hr : r = 0
          · exact .inr (.inl hr)
          · right; right
            have := gB (r - 1) (by omega)
            rw [show P.length + 1 + r - 1 = P.length + 1 + (r - 1) by omega] at e
            rw [← this, ← gx]; exact e)
      have d2 := cut_ge (A := [x]) (B := B) (q := 1) (r := r) (srt_one keys x) sB ho (by simp) (by omega) (by
        rcases b4 with e | e
        · right; left; omega
        · by_cases hr : r = B.length
          · exact .inr (.inl hr)
          · right; right
            have := gB r (by omega)
            rw [← this, ← gx]; exact e)
      refine ⟨B.take r ++ [x] ++ B.drop r, ?_, ?_, fun K => ?_⟩
      · conv => rhs; rw [← List.take_append_drop r B]
        rw [← List.append_assoc]
        exact List.Perm.append_right _ List.perm_append_comm
      · have sB' := sB
        rw [← List.take_append_drop r B] at sB'
        have tB := List.pairwise_append.1 sB'
        refine List.pairwise_append.2 ⟨List.pairwise_append.2 ⟨tB.1, srt_one keys x, fun y hy z hz => d1 y hy z (by simpa using hz)⟩, tB.2.1, fun y hy z hz => ?_⟩
        rcases List.mem_append.1 hy with hy | hy
        · exact tB.2.2 y hy z hz
        · exact d2 y (by simpa using hy) z hz
      · rw [hu, F_slices_symMergeCmpFunc_byte_s1_gen, beq_int, decT (by rw [i64w (by omega)]; omega), condT]
        have e0 := sm_l0 hg k hgp hgl (R := R) (zs := P ++ [x] ++ B ++ S) (by omega) hin (F_slices_rotateCmpFunc_byte_s1 R) (F_slices_symMergeCmpFunc_byte_s1 R N) (a := P.length) (by omega) (β := β)
        rw [← hL] at e0
        rw [e0 _ R (P.length + 1) (P.length + 1 + B.length) (by omega) (by omega) (by omega), hw]
        have e1 := sm_l1 hg hm (R := R) (F_follow_counts_ordered_1_s1 R) (F_slices_rotateCmpFunc_byte_s1 R) (F_slices_symMergeCmpFunc_byte_s1 R N) x (B.drop r ++ S) K (B.take r) P R (by simp; omega) (by rw [hLn]; simp; omega)
        rw [List.length_take, Nat.min_eq_left (by omega)] at e1
        have z1 : P ++ [x] ++ B ++ S = P ++ [x] ++ B.take r ++ (B.drop r ++ S) := by simp [← List.append_assoc (B.take r) (B.drop r)]
        rw [z1]
        refine Eq.trans e1 ?_
        simp
    · by_cases cB : B.length = 1
      · obtain ⟨y, rfl⟩ := List.length_eq_one_iff.1 cB
        rw [List.length_singleton] at *
        obtain ⟨b1, b2, b3, b4⟩ := bsr_spec (fun c => !ltK keys ((P ++ A ++ [y] ++ S).getD (P.length + A.length) 0) ((P ++ A ++ [y] ++ S).getD c 0)) R P.length (P.length + A.length) (by omega) (by omega)
        generalize hw : bsr (fun c => !ltK keys ((P ++ A ++ [y] ++ S).getD (P.length + A.length) 0) ((P ++ A ++ [y] ++ S).getD c 0)) R P.length (P.length + A.length) = w at b1 b2 b3 b4
        have gx := gB 0 (by omega)
        rw [Nat.add_zero] at gx
        obtain ⟨r, rfl⟩ : ∃ r, w = P.length + r := ⟨w - P.length, by omega⟩
        have d1 := cut_lt (A := A) (B := [y]) (q := r) (r := 1) sA (srt_one keys y) (by omega) (by simp) (by
          rcases b4 with e | e
          · left; omega
          · by_cases hr : r = A.length
            · exact .inl hr
            · right; right
              have := gA r (by omega)
              simp only [Bool.not_eq_false'] at e
              rw [← this, Nat.sub_self, ← gx]; exact e)
        have d2 := cut_ge (A := A) (B := [y]) (q := r) (r := 0) sA (srt_one keys y) ho (by omega) (by simp) (by
          rcases b3 with e | e
          · left; omega
          · by_cases hr : r = 0
            · exact .inl hr
            · right; right
              have := gA (r - 1) (by omega)
              rw [show P.length + r - 1 = P.length + (r - 1) by omega] at e
              simp only [Bool.not_eq_true'] at e
              rw [← this, ← gx]; exact e)
        refine ⟨A.take r ++ [y] ++ A.drop r, ?_, ?_, fun K => ?_⟩
        · conv => rhs; rw [← List.take_append_drop r A]
          rw [List.append_assoc, List.append_assoc]
          exact List.Perm.append_left _ List.perm_append_comm
        · have sA' := sA
          rw [← List.take_append_drop r A] at sA'
          have tA := List.pairwise_append.1 sA'
          refine List.pairwise_append.2 ⟨List.pairwise_append.2 ⟨tA.1, srt_one keys y, fun x hx z hz => d2 x hx z (by simpa using hz)⟩, tA.2.1, fun x hx z hz => ?_⟩
          rcases List.mem_append.1 hx with hx | hx
          · exact tA.2.2 x hx z hz
          · exact d1 x (by simpa using hx) z hz
        · rw [hu, F_slices_symMergeCmpFunc_byte_s1_gen, beq_int, decF (by rw [i64w (by omega)]; omega), condF, beq_int, decT (by rw [i64w (by omega)]; omega), condT]
          have e0 := sm_l2 hg k hgp hgl (R := R) (zs := P ++ A ++ [y] ++ S) (by omega) hin (F_slices_rotateCmpFunc_byte_s1 R) (F_slices_symMergeCmpFunc_byte_s1 R N) (a := P.length + A.length) (by omega) (β := β)
          rw [← hL] at e0
          rw [e0 _ R P.length (P.length + A.length) (by omega) (by omega) (by omega), hw]
          have e1 := sm_l3 hg hm (R := R) (F_follow_counts_ordered_1_s1 R) (F_slices_rotateCmpFunc_byte_s1 R) (F_slices_symMergeCmpFunc_byte_s1 R N) y (P ++ A.take r) K (A.drop r).reverse S R (by simp; omega) (by rw [hLn]; simp; omega)
          rw [List.reverse_reverse, List.length_reverse, List.length_append, List.length_take, List.length_drop, Nat.min_eq_left (by omega), show P.length + r + (A.length - r) = P.length + A.length by omega] at e1
          have z1 : P ++ A ++ [y] ++ S = P ++ A.take r ++ A.drop r ++ [y] ++ S := by rw [List.append_assoc P (A.take r), List.take_append_drop]
          rw [z1]
          refine Eq.trans e1 ?_
          simp
      · have hmid := half_eq P.length (P.length + A.length + B.length) (by omega)
        obtain ⟨mid, hmd⟩ : ∃ mid, mid = (P.length + (P.length + A.length + B.length)) / 2 := ⟨_, rfl⟩
        rw [← hmd] at hmid
        have hn : IntKind.wrap .i64 (((mid : Nat) : Int) + ((P.length + A.length : Nat) : Int)) = ((mid + (P.length + A.length) : Nat) : Int) := by rw [i64w (by omega)]; omega
        have key : ∀ lo hi : Nat, (lo = P.length ∧ hi = P.length + A.length ∧ P.length + A.length ≤ mid ∨ lo = mid + (P.length + A.length) - (P.length + A.length + B.length) ∧ hi = mid ∧ mid < P.length + A.length) →
            ∃ Z, Z.Perm (A ++ B) ∧ Srt keys Z ∧ ∀ K : GH → Option β, F_slices_symMergeCmpFunc_byte_s1_l4 (F_follow_counts_ordered_1_s1 R) (F_slices_rotateCmpFunc_byte_s1 R) (F_slices_symMergeCmpFunc_byte_s1 R N) R R ⟨some ⟨g, 0, none⟩, L, L⟩ (P.length : Nat) ((P.length + A.length : Nat) : Int) ((P.length + A.length + B.length : Nat) : Int) (some ⟨gp, 0, none⟩) (mid : Nat) ((mid + (P.length + A.length) : Nat) : Int) (lo : Nat) (hi : Nat) ((mid + (P.length + A.length) - 1 : Nat) : Int) (Wr h g (P ++ A ++ B ++ S)) (fun s a m b p mid n st h => smTail (F_slices_rotateCmpFunc_byte_s1 R) (F_slices_symMergeCmpFunc_byte_s1 R N) s a m b p mid n st h K) = K (Wr h g (P ++ Z ++ S)) := by
          intro lo hi hc
          obtain ⟨b1, b2, b3, b4⟩ := bsr_spec (fun c => !ltK keys ((P ++ A ++ B ++ S).getD (mid + (P.length + A.length) - 1 - c) 0) ((P ++ A ++ B ++ S).getD c 0)) R lo hi (by omega) (by omega)
          generalize hw : bsr (fun c => !ltK keys ((P ++ A ++ B ++ S).getD (mid + (P.length + A.length) - 1 - c) 0) ((P ++ A ++ B ++ S).getD c 0)) R lo hi = w at b1 b2 b3 b4
          obtain ⟨q, rfl⟩ : ∃ q, w = P.length + q := ⟨w - P.length, by omega⟩
          obtain ⟨r, hr⟩ : ∃ r, P.length + q + r = mid := ⟨mid - (P.length + q), by omega⟩
          obtain ⟨Z, z1, z2, z3⟩ := sm_tail hg hR hm (F_slices_symMergeCmpFunc_byte_s1 R N) N ih P A B S (by omega) sA sB ho hin hL (q := q) (r := r) (by omega) (by omega) (by omega) (by omega)
            (by
              by_cases q1 : q = A.length
              · exact .inl q1
              · by_cases q2 : r = 0
                · exact .inr (.inl q2)
                · right; right
                  rcases b4 with e | e
                  · omega
                  · have t1 := gA q (by omega)
                    have t2 := gB (r - 1) (by omega)
                    simp only [Bool.not_eq_false'] at e
                    rw [show mid + (P.length + A.length) - 1 - (P.length + q) = P.length + A.length + (r - 1) by omega] at e
                    rw [← t1, ← t2]; exact e)
            (by
              by_cases q1 : q = 0
              · exact .inl q1
              · by_cases q2 : r = B.length
                · exact .inr (.inl q2)
                · right; right
                  rcases b3 with e | e
                  · omega
                  · have t1 := gA (q - 1) (by omega)
                    have t2 := gB r (by omega)
                    simp only [Bool.not_eq_true'] at e
                    rw [show mid + (P.length + A.length) - 1 - (P.length + q - 1) = P.length + A.length + r by omega, show P.length + q - 1 = P.length + (q - 1) by omega] at e
                    rw [← t1, ← t2]; exact e)
          refine ⟨Z, z1, z2, fun K => ?_⟩
          have e0 := sm_l4 hg k hgp hgl (R := R) (zs := P ++ A ++ B ++ S) (by omega) hin (F_slices_rotateCmpFunc_byte_s1 R) (F_slices_symMergeCmpFunc_byte_s1 R N) (p := mid + (P.length + A.length) - 1) (by omega) (P.length : Nat) ((P.length + A.length : Nat) : Int) ((P.length + A.length + B.length : Nat) : Int) (mid : Nat) ((mid + (P.length + A.length) : Nat) : Int) (fun s a m b p mid n st h => smTail (F_slices_rotateCmpFunc_byte_s1 R) (F_slices_symMergeCmpFunc_byte_s1 R N) s a m b p mid n st h K) R lo hi (by omega) (by omega) (by omega) (by omega) (by omega)
          rw [← hL, hw] at e0
          rw [e0]
          exact z3 rfl rfl rfl (by rw [hr]) rfl (by omega) K
        by_cases cm : mid < P.length + A.length
        · obtain ⟨Z, z1, z2, z3⟩ := key _ _ (.inr ⟨rfl, rfl, cm⟩)
          refine ⟨Z, z1, z2, fun K => ?_⟩
          rw [hu, sm_unfold (by rw [i64w (by omega)]; omega) (by rw [i64w (by omega)]; omega) hmid hn, if_pos (by omega), ← z3 K]
          rw [i64w (x := ((mid + (P.length + A.length) : Nat) : Int) - ((P.length + A.length + B.length : Nat) : Int)) (by omega), i64w (x := ((mid + (P.length + A.length) : Nat) : Int) - 1) (by omega), show ((mid + (P.length + A.length) : Nat) : Int) - ((P.length + A.length + B.length : Nat) : Int) = ((mid + (P.length + A.length) - (P.length + A.length + B.length) : Nat) : Int) by omega, show ((mid + (P.length + A.length) : Nat) : Int) - 1 = ((mid + (P.length + A.length) - 1 : Nat) : Int) by omega]
        · obtain ⟨Z, z1, z2, z3⟩ := key _ _ (.inl ⟨rfl, rfl, by omega⟩)
          refine ⟨Z, z1, z2, fun K => ?_⟩
          rw [hu, sm_unfold (by rw [i64w (by omega)]; omega) (by rw [i64w (by omega)]; omega) hmid hn, if_neg (by omega), ← z3 K]
          rw [i64w (x := ((mid + (P.length + A.length) : Nat) : Int) - 1) (by omega), show ((mid + (P.length + A.length) : Nat) : Int) - 1 = ((mid + (P.length + A.length) - 1 : Nat) : Int) by omega]
end
end Go.Proofs.Ytdmemmpkkibckaa.Gx.Sb

