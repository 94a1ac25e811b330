/- The comparing function of sfano.Codes: the lengths of two symbols compared. No condition. -/
import Derived.Test.YtephmpbccajaaaaSrtB
namespace Go.Proofs.Ytephmpbccajaaaa.Gx
open Go Go.RowKit
set_option linter.unusedVariables false
set_option linter.unusedSimpArgs false
def cmpI (a b : Int) : Int := if a < b then -1 else if a > b then 1 else 0
theorem compare_eq (R : Nat) (a b : Int) {β : Type} (h : GH) (K : Int → GH → Option β) : F_cmp_Compare_int R a b h K = K (cmpI a b) h := by
  have hn : ∀ (x : Int) (h : GH) (K : Bool → GH → Option β), F_cmp_isNaN_int R x h K = K false h := fun x h K => by
    unfold F_cmp_isNaN_int; rw [F_cmp_isNaN_int_gen, bne_self_eq_false]
  unfold F_cmp_Compare_int; rw [F_cmp_Compare_int_gen, hn, hn]
  simp only [condF, cond_dec, cmpI]
  by_cases c1 : a < b
  · rw [if_pos c1, if_pos c1]
  · by_cases c2 : a > b
    · rw [if_neg c1, if_neg c1, if_pos c2, if_pos c2]
    · rw [if_neg c1, if_neg c1, if_neg c2, if_neg c2]
/-- the lengths, by a pointer to their slice -/
structure Keys (h : GH) (gp : Nat) (ls : Sl) (keys : List Int) : Prop where
  ptr : h.cell ⟨gp, 0, none⟩ = some (.slice ls.a ls.n ls.c)
  row : Rdi h ls keys
theorem less_eq {h : GH} {gp : Nat} {ls : Sl} {keys : List Int} (k : Keys h gp ls keys) (R : Nat) {i j : Int} (hi : 0 ≤ i ∧ i < keys.length) (hj : 0 ≤ j ∧ j < keys.length) {β : Type} (K : Int → GH → Option β) :
    F_sfano_Codes_1_s1 R i j (some ⟨gp, 0, none⟩) h K = K (cmpI (keys.getD i.toNat 0) (keys.getD j.toNat 0)) h := by
  unfold F_sfano_Codes_1_s1; rw [F_sfano_Codes_1_s1_gen]
  simp only [exA_s, k.ptr, exS_s']
  rw [k.row.int hi.1 hi.2, k.row.int hj.1 hj.2, compare_eq]
theorem Keys.wr {h : GH} {gp : Nat} {ls : Sl} {keys : List Int} (k : Keys h gp ls keys) {g : Nat} (h1 : gp ≠ g) (h2 : g ∉ rowsOf ls) (zs : List Int) : Keys (Wr h g zs) gp ls keys := by
  refine ⟨?_, k.row.keep (keep_put h g _) fun x hx hm => ?_⟩
  · have := k.ptr
    rw [cell_look] at this ⊢
    rw [Wr.other h1]; exact this
  · rw [List.mem_singleton] at hm; subst hm; exact h2 hx
end Go.Proofs.Ytephmpbccajaaaa.Gx

