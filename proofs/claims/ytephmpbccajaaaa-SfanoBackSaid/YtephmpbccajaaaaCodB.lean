/- Memory with blocks pushed behind it; a loop over slices.Backward, in general. No condition. -/
import Derived.Test.YtephmpbccajaaaaCodA
namespace Go.Proofs.Ytephmpbccajaaaa.Gx
open Go Go.RowKit
set_option linter.unusedVariables false
set_option linter.unusedSimpArgs false
theorem put_push_same {h : GH} {o : GObj} {k : Nat} (hk : k = h.next) (o' : GObj) : (h.push o).put k (some o') = h.push o' := by
  subst hk
  unfold GH.put GH.push
  congr 1
  funext j
  show (bif Nat.beq j h.next then some o' else (bif Nat.beq j h.next then some o else h.get j)) = (bif Nat.beq j h.next then some o' else h.get j)
  cases Nat.beq j h.next <;> rfl
theorem put_push_ne {h : GH} {o : GObj} {k : Nat} (hk : k ≠ h.next) (o' : Option GObj) : (h.push o).put k o' = (h.put k o').push o := by
  unfold GH.put GH.push
  congr 1
  funext j
  show (bif Nat.beq j k then o' else (bif Nat.beq j h.next then some o else h.get j)) = (bif Nat.beq j h.next then some o else (bif Nat.beq j k then o' else h.get j))
  by_cases h1 : j = k
  · subst h1; rw [beq_t, beq_f hk]; rfl
  · by_cases h2 : j = h.next
    · subst h2; rw [beq_t, beq_f h1]; rfl
    · rw [beq_f h1, beq_f h2]; rfl
theorem sameAt_row {g e : Nat} {r : Bool} {h h' : GH} {zs : List Int} (h1 : h.look g = some (.row ⟨i64s zs, e, r⟩)) (h2 : h'.look g = some (.row ⟨i64s zs, e, r⟩)) : ∀ n o, o + n ≤ zs.length → sameAt g o n h h' = true
  | 0, o, _ => rfl
  | n + 1, o, hn => by
    rw [sameAt, sameAt_row h1 h2 n (o + 1) (by omega), cell_of h1, cell_of h2, nth_i64s (by omega), veqO_i]; rfl
/-- a loop over slices.Backward whose state is told by what it has behind it -/
theorem gback_list {β : Type} {Z : List Int} {s : Sl} {g gB oB e : Nat} {ro : Bool} {Mst : List Int → GH} (hs : s.a = some ⟨g, 0, none⟩) (hsn : s.n = Z.length)
    (hrow : ∀ A D, Z = A ++ D → (Mst D).look g = some (.row ⟨i64s Z, e, ro⟩)) {a : Option Addr} {an ac : Nat} (hbox : ∀ A D, Z = A ++ D → (Mst D).cell ⟨gB, oB, none⟩ = some (.slice a an ac))
    {rnd : Int → Int → GH → (GH → Option β) → Option β} (hr : ∀ A x D, Z = A ++ x :: D → ∀ K, rnd ((A.length : Nat) : Int) x (Mst D) K = K (Mst (x :: D))) (K : GH → Option β) :
    ∀ (n : Nat) (A D : List Int), A.length = n → Z = A ++ D → gback s gB oB rnd n (Mst D) K = K (Mst Z) := by
  intro n
  induction n with
  | zero =>
    intro A D h1 h2
    have : A = [] := List.length_eq_zero_iff.1 h1
    subst this
    rw [List.nil_append] at h2
    subst h2; rfl
  | succ n ih =>
    intro A D h1 h2
    obtain ⟨A', x, rfl⟩ : ∃ A' x, A = A' ++ [x] := ⟨A.dropLast, A.getLast (by intro q; subst q; simp at h1), (List.dropLast_concat_getLast _).symm⟩
    have h3 : Z = A' ++ x :: D := by rw [h2]; simp
    have hn : A'.length = n := by simp at h1; exact h1
    have hlt : n < Z.length := by rw [h3]; simp; omega
    have hx : Z[n]'hlt = x := by
      have : Z[n]? = some x := by rw [h3, List.getElem?_append_right (by omega), hn, Nat.sub_self]; rfl
      rw [List.getElem?_eq_getElem hlt] at this; exact Option.some.inj this
    rw [gback, hs]
    simp only [exA_s, cell_of (hrow _ _ h2), Nat.zero_add, nth_i64s hlt, hx, exI_s]
    rw [← hn, hr A' x D h3]
    rw [sameAt_1, hbox _ _ h2, hbox _ _ h3, veqO_s, hsn, sameAt_row (hrow _ _ h2) (hrow _ _ h3) _ _ (by omega), Bool.and_true, condT, hn]
    exact ih A' (x :: D) hn h3
theorem codesV_put : ∀ (outs : List (Int × Int)) (z : Nat), z < outs.length → ∀ b l : Int, nlay (codesV outs) (0 + z * 2) [Value.int .u32 b, Value.int .i64 l] = codesV (outs.set z (b, l))
  | [], z, h, b, l => by simp at h
  | c :: cs, 0, h, b, l => by rw [nlay_eq]; rfl
  | c :: cs, z + 1, h, b, l => by
    have ih := codesV_put cs z (by simp at h; omega) b l
    rw [nlay_eq, Nat.zero_add] at ih
    rw [nlay_eq, Nat.zero_add, show (z + 1) * 2 = z * 2 + 1 + 1 by omega, List.set_cons_succ, show codesV (c :: cs.set z (b, l)) = Value.int .u32 c.1 :: Value.int .i64 c.2 :: codesV (cs.set z (b, l)) from rfl, ← ih, show codesV (c :: cs) = Value.int .u32 c.1 :: Value.int .i64 c.2 :: codesV cs from rfl]
    rw [List.take_succ_cons, List.take_succ_cons]
    show _ :: _ :: _ = _
    congr 2
theorem codesV_reps : ∀ n, reps n [Value.int .u32 0, Value.int .i64 0] = codesV (List.replicate n (0, 0))
  | 0 => rfl
  | n + 1 => by rw [reps, codesV_reps n, List.replicate_succ]; rfl
theorem i64s_reps : ∀ n, reps n [Value.int .i64 0] = i64s (List.replicate n 0)
  | 0 => rfl
  | n + 1 => by rw [reps, i64s_reps n, List.replicate_succ]; rfl
/-- the blocks that Codes has behind its order -/
def MC (h : GH) (sO sA : Sl) (outs : List (Int × Int)) (w st la : Int) : GH := (((((h.push (.row ⟨codesV outs, 2, false⟩)).push (.row ⟨[.slice sO.a sO.n sO.c], 0, false⟩)).push (.row ⟨[.int .u32 w], 0, false⟩)).push (.row ⟨[.int .u32 st], 0, false⟩)).push (.row ⟨[.int .i64 la], 0, false⟩)).push (.row ⟨[.slice sA.a sA.n sA.c], 0, false⟩)
section
variable {h : GH} {sO sA : Sl} {outs : List (Int × Int)} {w st la : Int}
theorem MC.look_if (k : Nat) : (MC h sO sA outs w st la).look k = if k = h.next + 5 then some (.row ⟨[.slice sA.a sA.n sA.c], 0, false⟩) else if k = h.next + 4 then some (.row ⟨[.int .i64 la], 0, false⟩) else if k = h.next + 3 then some (.row ⟨[.int .u32 st], 0, false⟩) else if k = h.next + 2 then some (.row ⟨[.int .u32 w], 0, false⟩) else if k = h.next + 1 then some (.row ⟨[.slice sO.a sO.n sO.c], 0, false⟩) else if k = h.next then some (.row ⟨codesV outs, 2, false⟩) else h.look k := by
  unfold MC; simp only [look_push_if, next_push]
theorem MC.low {k : Nat} (hk : k < h.next) : (MC h sO sA outs w st la).look k = h.look k := by
  rw [MC.look_if, if_neg (by omega), if_neg (by omega), if_neg (by omega), if_neg (by omega), if_neg (by omega), if_neg (by omega)]
theorem MC.l5 : (MC h sO sA outs w st la).look (h.next + 5) = some (.row ⟨[.slice sA.a sA.n sA.c], 0, false⟩) := by rw [MC.look_if, if_pos rfl]
theorem MC.l4 : (MC h sO sA outs w st la).look (h.next + 4) = some (.row ⟨[.int .i64 la], 0, false⟩) := by rw [MC.look_if, if_neg (by omega), if_pos rfl]
theorem MC.l3 : (MC h sO sA outs w st la).look (h.next + 3) = some (.row ⟨[.int .u32 st], 0, false⟩) := by rw [MC.look_if, if_neg (by omega), if_neg (by omega), if_pos rfl]
theorem MC.l2 : (MC h sO sA outs w st la).look (h.next + 2) = some (.row ⟨[.int .u32 w], 0, false⟩) := by rw [MC.look_if, if_neg (by omega), if_neg (by omega), if_neg (by omega), if_pos rfl]
theorem MC.l1 : (MC h sO sA outs w st la).look (h.next + 1) = some (.row ⟨[.slice sO.a sO.n sO.c], 0, false⟩) := by rw [MC.look_if, if_neg (by omega), if_neg (by omega), if_neg (by omega), if_neg (by omega), if_pos rfl]
theorem MC.l0 : (MC h sO sA outs w st la).look h.next = some (.row ⟨codesV outs, 2, false⟩) := by rw [MC.look_if, if_neg (by omega), if_neg (by omega), if_neg (by omega), if_neg (by omega), if_neg (by omega), if_pos rfl]
theorem MC.next : (MC h sO sA outs w st la).next = h.next + 6 := rfl
theorem MC.p4 {β : Type} (x : Int) (K : GH → Option β) : gput (h.next + 4) 0 [Value.int .i64 x] (MC h sO sA outs w st la) K = K (MC h sO sA outs w st x) := by
  rw [gput_eq MC.l4 rfl (by simp)]
  unfold MC
  rw [put_push_ne (by simp only [next_push]; omega), put_push_same (by simp only [next_push])]; rfl
theorem MC.p3 {β : Type} (x : Int) (K : GH → Option β) : gput (h.next + 3) 0 [Value.int .u32 x] (MC h sO sA outs w st la) K = K (MC h sO sA outs w x la) := by
  rw [gput_eq MC.l3 rfl (by simp)]
  unfold MC
  rw [put_push_ne (by simp only [next_push]; omega), put_push_ne (by simp only [next_push]; omega), put_push_same (by simp only [next_push])]; rfl
theorem MC.p2 {β : Type} (x : Int) (K : GH → Option β) : gput (h.next + 2) 0 [Value.int .u32 x] (MC h sO sA outs w st la) K = K (MC h sO sA outs x st la) := by
  rw [gput_eq MC.l2 rfl (by simp)]
  unfold MC
  rw [put_push_ne (by simp only [next_push]; omega), put_push_ne (by simp only [next_push]; omega), put_push_ne (by simp only [next_push]; omega), put_push_same (by simp only [next_push])]; rfl
theorem MC.p0 {β : Type} {z : Nat} (hz : z < outs.length) (b l : Int) (K : GH → Option β) : gput h.next (0 + z * 2) [Value.int .u32 b, Value.int .i64 l] (MC h sO sA outs w st la) K = K (MC h sO sA (outs.set z (b, l)) w st la) := by
  rw [gput_eq MC.l0 rfl (by rw [codesV_length]; simp; omega), codesV_put outs z hz]
  unfold MC
  rw [put_push_ne (by simp only [next_push]; omega), put_push_ne (by simp only [next_push]; omega), put_push_ne (by simp only [next_push]; omega), put_push_ne (by simp only [next_push]; omega), put_push_ne (by simp only [next_push]; omega), put_push_same (by simp only [next_push])]
end
theorem wr_self {h : GH} {g : Nat} {zs : List Int} (hl : h.look g = some (.row ⟨i64s zs, 1, false⟩)) : Wr h g zs = h := by
  have hg := (look_get hl).2
  unfold Wr GH.put
  congr 1
  funext k
  by_cases hk : k = g
  · subst hk; rw [beq_t]; exact hg.symm
  · rw [beq_f hk]; rfl
end Go.Proofs.Ytephmpbccajaaaa.Gx

