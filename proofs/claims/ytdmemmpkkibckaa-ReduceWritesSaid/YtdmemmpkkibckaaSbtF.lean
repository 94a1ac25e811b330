/- The merge of two sorted pieces in place. No condition. -/
import Derived.Test.YtdmemmpkkibckaaSbtE
namespace Go.Proofs.Ytdmemmpkkibckaa.Gx.Sb
open Go Go.RowKit
set_option linter.unusedVariables false
set_option linter.unusedSimpArgs false
/-- the key of a thing -/
def kyK (keys : List Int) (x : Int) : Int := keys.getD x.toNat 0
/-- x ahead of y: by key, then by number -/
def Lx (keys : List Int) (x y : Int) : Prop := kyK keys x < kyK keys y ∨ (kyK keys x = kyK keys y ∧ x < y)
def Srt (keys : List Int) (l : List Int) : Prop := l.Pairwise (Lx keys)
theorem ltK_t {keys : List Int} {x y : Int} (h : ltK keys x y = true) : kyK keys x < kyK keys y := of_decide_eq_true h
theorem ltK_f {keys : List Int} {x y : Int} (h : ltK keys x y = false) : kyK keys y ≤ kyK keys x := by have := of_decide_eq_false h; unfold kyK; omega
theorem Lx.le {keys : List Int} {x y : Int} (h : Lx keys x y) : kyK keys x ≤ kyK keys y := by rcases h with h | ⟨h, _⟩ <;> omega
theorem InK.app {keys a b : List Int} (ha : InK keys a) (hb : InK keys b) : InK keys (a ++ b) := fun x hx => by
  rcases List.mem_append.1 hx with h | h
  · exact ha x h
  · exact hb x h
theorem InK.l {keys a b : List Int} (h : InK keys (a ++ b)) : InK keys a := fun x hx => h x (List.mem_append_left _ hx)
theorem InK.r {keys a b : List Int} (h : InK keys (a ++ b)) : InK keys b := fun x hx => h x (List.mem_append_right _ hx)
theorem InK.perm {keys a b : List Int} (h : InK keys a) (p : b.Perm a) : InK keys b := fun x hx => h x (p.mem_iff.1 hx)
theorem Srt.key {keys : List Int} {l : List Int} (h : Srt keys l) {i j : Nat} (hij : i ≤ j) (hj : j < l.length) : kyK keys (l.getD i 0) ≤ kyK keys (l.getD j 0) := by
  rcases Nat.lt_or_ge i j with c | c
  · have := (List.pairwise_iff_getElem.1 h) i j (by omega) hj c
    rw [List.getD_eq_getElem?_getD, List.getD_eq_getElem?_getD, List.getElem?_eq_getElem (by omega), List.getElem?_eq_getElem hj]
    exact this.le
  · have : i = j := by omega
    subst this; exact Int.le_refl _
theorem mem_take_ix {l : List Int} {q : Nat} {x : Int} (h : x ∈ l.take q) : ∃ i, i < q ∧ i < l.length ∧ x = l.getD i 0 := by
  obtain ⟨i, hi, e⟩ := List.getElem_of_mem h
  rw [List.length_take] at hi
  exact ⟨i, by omega, by omega, by rw [← e, List.getElem_take, List.getD_eq_getElem?_getD, List.getElem?_eq_getElem (by omega)]; rfl⟩
theorem mem_drop_ix {l : List Int} {q : Nat} {x : Int} (h : x ∈ l.drop q) : ∃ i, q ≤ i ∧ i < l.length ∧ x = l.getD i 0 := by
  obtain ⟨i, hi, e⟩ := List.getElem_of_mem h
  simp at hi
  exact ⟨q + i, by omega, by omega, by rw [← e, List.getElem_drop, List.getD_eq_getElem?_getD, List.getElem?_eq_getElem (by omega)]; rfl⟩
theorem getD_mem {l : List Int} {i : Nat} (h : i < l.length) : l.getD i 0 ∈ l := by
  rw [List.getD_eq_getElem?_getD, List.getElem?_eq_getElem h]; exact List.getElem_mem h
theorem getD_A (P A S : List Int) {i : Nat} (h : i < A.length) : (P ++ (A ++ S)).getD (P.length + i) 0 = A.getD i 0 := by
  rw [List.getD_eq_getElem?_getD, List.getElem?_append_right (by omega), show P.length + i - P.length = i by omega, List.getElem?_append_left h, List.getD_eq_getElem?_getD]
theorem srt_two {keys Z1 Z2 A1 A2 B1 B2 : List Int} (p1 : Z1.Perm (A1 ++ B1)) (p2 : Z2.Perm (A2 ++ B2)) (s1 : Srt keys Z1) (s2 : Srt keys Z2) (sA : Srt keys (A1 ++ A2)) (sB : Srt keys (B1 ++ B2))
    (c1 : ∀ y ∈ B1, ∀ x ∈ A2, Lx keys y x) (c2 : ∀ x ∈ A1, ∀ y ∈ B2, Lx keys x y) : (Z1 ++ Z2).Perm ((A1 ++ A2) ++ (B1 ++ B2)) ∧ Srt keys (Z1 ++ Z2) := by
  constructor
  · refine (p1.append p2).trans ?_
    rw [List.append_assoc, List.append_assoc]
    refine List.Perm.append_left A1 ?_
    rw [← List.append_assoc, ← List.append_assoc]
    exact List.Perm.append_right B2 List.perm_append_comm
  · refine List.pairwise_append.2 ⟨s1, s2, fun x hx y hy => ?_⟩
    have hx := List.mem_append.1 (p1.mem_iff.1 hx)
    have hy := List.mem_append.1 (p2.mem_iff.1 hy)
    rcases hx with hx | hx
    · rcases hy with hy | hy
      · exact (List.pairwise_append.1 sA).2.2 x hx y hy
      · exact c2 x hx y hy
    · rcases hy with hy | hy
      · exact c1 x hx y hy
      · exact (List.pairwise_append.1 sB).2.2 x hx y hy
theorem srt_nil (keys : List Int) : Srt keys [] := List.Pairwise.nil
theorem srt_one (keys : List Int) (x : Int) : Srt keys [x] := List.pairwise_singleton _ _
/-- where the cut of two sorted pieces stands, all of one side is ahead of all of the other -/
theorem cut_lt {keys A B : List Int} (sA : Srt keys A) (sB : Srt keys B) {q r : Nat} (hq : q ≤ A.length) (hr : r ≤ B.length) (c : q = A.length ∨ r = 0 ∨ ltK keys (B.getD (r - 1) 0) (A.getD q 0) = true) : ∀ y ∈ B.take r, ∀ x ∈ A.drop q, Lx keys y x := by
  intro y hy x hx
  obtain ⟨i, i1, i2, rfl⟩ := mem_take_ix hy
  obtain ⟨j, j1, j2, rfl⟩ := mem_drop_ix hx
  rcases c with c | c | c
  · omega
  · omega
  · have := ltK_t c
    have h1 := sB.key (i := i) (j := r - 1) (by omega) (by omega)
    have h2 := sA.key (i := q) (j := j) (by omega) (by omega)
    exact .inl (by omega)
theorem cut_ge {keys A B : List Int} (sA : Srt keys A) (sB : Srt keys B) (ho : ∀ x ∈ A, ∀ y ∈ B, x < y) {q r : Nat} (hq : q ≤ A.length) (hr : r ≤ B.length) (c : q = 0 ∨ r = B.length ∨ ltK keys (B.getD r 0) (A.getD (q - 1) 0) = false) : ∀ x ∈ A.take q, ∀ y ∈ B.drop r, Lx keys x y := by
  intro x hx y hy
  obtain ⟨i, i1, i2, rfl⟩ := mem_take_ix hx
  obtain ⟨j, j1, j2, rfl⟩ := mem_drop_ix hy
  rcases c with c | c | c
  · omega
  · omega
  · have := ltK_f c
    have h1 := sA.key (i := i) (j := q - 1) (by omega) (by omega)
    have h2 := sB.key (i := r) (j := j) (by omega) (by omega)
    have h3 := ho _ (getD_mem i2) _ (getD_mem j2)
    unfold Lx; omega
section
variable {β : Type}
def smMay (Sm : Sl → Int → Int → Int → Option Addr → GH → (GH → Option β) → Option β) (s : Sl) (a m b : Int) (p : Option Addr) (h : GH) (K : GH → Option β) : Option β :=
  bif decide (a < m) then (bif decide (m < b) then Sm s a m b p h fun h' => K h' else K h) else K h
def smTail (Ro Sm : Sl → Int → Int → Int → Option Addr → GH → (GH → Option β) → Option β) (s : Sl) (a m b : Int) (p : Option Addr) (mid n st : Int) (h : GH) (K : GH → Option β) : Option β :=
  smMay Ro s st m (IntKind.wrap .i64 (n - st)) p h fun h => smMay Sm s a st mid p h fun h => smMay Sm s mid (IntKind.wrap .i64 (n - st)) b p h K
end
theorem sm_unfold {β : Type} {R : Nat} {F1 : Int → Int → Option Addr → GH → (Int → GH → Option β) → Option β} {F2 F3 : Sl → Int → Int → Int → Option Addr → GH → (GH → Option β) → Option β} {s : Sl} {a m b mid n : Int} {p : Option Addr} {h : GH} {K : GH → Option β}
    (h1 : IntKind.wrap .i64 (m - a) ≠ 1) (h2 : IntKind.wrap .i64 (b - m) ≠ 1) (hmid : IntKind.wrap .i64 (shrI .u64 (IntKind.wrap .u64 (IntKind.wrap .i64 (a + b))) 1) = mid) (hn : IntKind.wrap .i64 (mid + m) = n) :
    G_slices_symMergeCmpFunc_byte_s1 F1 F2 F3 R s a m b p h K = if mid < m
      then F_slices_symMergeCmpFunc_byte_s1_l4 F1 F2 F3 R R s a m b p mid n (IntKind.wrap .i64 (n - b)) mid (IntKind.wrap .i64 (n - 1)) h (fun s a m b p mid n st h => smTail F2 F3 s a m b p mid n st h K)
      else F_slices_symMergeCmpFunc_byte_s1_l4 F1 F2 F3 R R s a m b p mid n a m (IntKind.wrap .i64 (n - 1)) h (fun s a m b p mid n st h => smTail F2 F3 s a m b p mid n st h K) := by
  rw [F_slices_symMergeCmpFunc_byte_s1_gen, beq_int, beq_int, decF h1, decF h2, condF, condF, cond_dec]
  subst hmid hn
  rfl
end Go.Proofs.Ytdmemmpkkibckaa.Gx.Sb

