/- The comparing function of follow's ordered: how often two bytes come. No condition. -/
import Derived.Test.YtdmemmpkkibckaaSbtB
namespace Go.Proofs.Ytdmemmpkkibckaa.Gx.Sb
open Go Go.RowKit
set_option linter.unusedVariables false
set_option linter.unusedSimpArgs false
def cmpI (a b : Int) : Int := if a < b then -1 else if a > b then 1 else 0
theorem compare_eq (R : Nat) (a b : Int) {β : Type} (h : GH) (K : Int → GH → Option β) : F_cmp_Compare_int R a b h K = K (cmpI a b) h := by
  have hn : ∀ (x : Int) (h : GH) (K : Bool → GH → Option β), F_cmp_isNaN_int R x h K = K false h := fun x h K => by
    unfold F_cmp_isNaN_int; rw [F_cmp_isNaN_int_gen, bne_self_eq_false]
  unfold F_cmp_Compare_int; rw [F_cmp_Compare_int_gen, hn, hn]
  simp only [condF, cond_dec, cmpI]
  by_cases c1 : a < b
  · rw [if_pos c1, if_pos c1]
  · by_cases c2 : a > b
    · rw [if_neg c1, if_neg c1, if_pos c2, if_pos c2]
    · rw [if_neg c1, if_neg c1, if_neg c2, if_neg c2]
/-- how often each byte comes, turned round, by a pointer to the counts -/
structure Keys (h : GH) (gp : Nat) (ls : Sl) (keys : List Int) : Prop where
  ptr : h.cell ⟨gp, 0, none⟩ = some (.pointer ls.a)
  row : Rdi h ls (keys.map (fun x => -x))
  n256 : keys.length = 256
theorem less_eq {h : GH} {gp : Nat} {ls : Sl} {keys : List Int} (k : Keys h gp ls keys) (R : Nat) {i j : Int} (hi : 0 ≤ i ∧ i < keys.length) (hj : 0 ≤ j ∧ j < keys.length) {β : Type} (K : Int → GH → Option β) :
    F_follow_counts_ordered_1_s1 R i j (some ⟨gp, 0, none⟩) h K = K (cmpI (keys.getD i.toNat 0) (keys.getD j.toNat 0)) h := by
  have hn := k.row.ni
  rw [List.length_map, k.n256] at hn
  have gx : ∀ {x : Int}, 0 ≤ x ∧ x < keys.length → ∀ K : Int → Option β, (exA ls.a fun g o => within x 256 (exI .i64 (h.cell ⟨g, o + x.toNat * 1, none⟩) K)) = K (-(keys.getD x.toNat 0)) := fun {x} hx K => by
    have := k.row.int (i := x) hx.1 (by rw [List.length_map]; exact hx.2) K
    rw [hn] at this
    rw [this, List.getD_eq_getElem?_getD, List.getElem?_map, List.getElem?_eq_getElem (by omega), List.getD_eq_getElem?_getD, List.getElem?_eq_getElem (by omega)]; rfl
  unfold F_follow_counts_ordered_1_s1; rw [F_follow_counts_ordered_1_s1_gen]
  simp only [exA_s, k.ptr, exP_s]
  rw [gx hj, gx hi, compare_eq]
  congr 1
  unfold cmpI
  by_cases c1 : keys.getD i.toNat 0 < keys.getD j.toNat 0
  · rw [if_pos c1, if_pos (by omega)]
  · by_cases c2 : keys.getD i.toNat 0 > keys.getD j.toNat 0
    · rw [if_neg c1, if_neg (by omega), if_pos c2, if_pos (by omega)]
    · rw [if_neg c1, if_neg (by omega), if_neg c2, if_neg (by omega)]
theorem Keys.wr {h : GH} {gp : Nat} {ls : Sl} {keys : List Int} (k : Keys h gp ls keys) {g : Nat} (h1 : gp ≠ g) (h2 : g ∉ rowsOf ls) (zs : List Int) : Keys (Wr h g zs) gp ls keys := by
  refine ⟨?_, k.row.keep (keep_put h g _) fun x hx hm => ?_, k.n256⟩
  · have := k.ptr
    rw [cell_look] at this ⊢
    rw [Wr.other h1]; exact this
  · rw [List.mem_singleton] at hm; subst hm; exact h2 hx
end Go.Proofs.Ytdmemmpkkibckaa.Gx.Sb

