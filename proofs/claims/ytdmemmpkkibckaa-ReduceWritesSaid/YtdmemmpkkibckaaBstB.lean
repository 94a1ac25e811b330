/- The best followers of all bytes: the program's and the document's. No condition. -/
import Derived.Test.YtdmemmpkkibckaaBstI
namespace Go.Proofs.Ytdmemmpkkibckaa.Gx
open Go Go.RowKit
set_option linter.unusedVariables false
set_option linter.unusedSimpArgs false
/-! ### how often bytes come behind others -/
def lastB (b : List Int) (i : Nat) : Int := if i = 0 then 0 else b.getD (i - 1) 0
def behF (b : List Int) : Nat → Int → Int → Nat
  | 0, c, x => 0
  | i + 1, c, x => behF b i c x + (if lastB b i = c ∧ b.getD i 0 = x then 1 else 0)
def behL (b : List Int) (i : Nat) (c : Int) : List Int := (List.range 256).map (fun (x : Nat) => ((behF b i c ((x : Nat) : Int) : Nat) : Int))
theorem behF_le (b : List Int) : ∀ i c x, behF b i c x ≤ i
  | 0, c, x => Nat.le_refl _
  | i + 1, c, x => by have := behF_le b i c x; unfold behF; split <;> omega
theorem behL_length (b : List Int) (i : Nat) (c : Int) : (behL b i c).length = 256 := by unfold behL; rw [List.length_map, List.length_range]
theorem behL_get (b : List Int) (i : Nat) (c : Int) {x : Nat} (hx : x < 256) : (behL b i c)[x]? = some ((behF b i c ((x : Nat) : Int) : Nat) : Int) := by
  unfold behL; rw [List.getElem?_map, List.getElem?_range hx]; rfl
theorem behL_getD (b : List Int) (i : Nat) (c : Int) {x : Nat} (hx : x < 256) : (behL b i c).getD x 0 = ((behF b i c ((x : Nat) : Int) : Nat) : Int) := by
  rw [List.getD_eq_getElem?_getD, behL_get b i c hx]; rfl
theorem behL_pos (b : List Int) {i : Nat} (hi : i ≤ 1000000) (c : Int) : ∀ x ∈ behL b i c, 0 ≤ x ∧ x ≤ 1000000 := fun x hx => by
  unfold behL at hx
  obtain ⟨k, _, rfl⟩ := List.mem_map.1 hx
  have := behF_le b i c ((k : Nat) : Int); omega
theorem behL_0 (b : List Int) (c : Int) : behL b 0 c = List.replicate 256 0 := by
  apply List.ext_getElem?
  intro k
  by_cases hk : k < 256
  · rw [behL_get b 0 c hk, List.getElem?_replicate, if_pos hk]; rfl
  · rw [List.getElem?_eq_none (by rw [behL_length]; omega), List.getElem?_eq_none (by rw [List.length_replicate]; omega)]
theorem behL_step (b : List Int) (hb : B8 b) (i : Nat) (hi : i < b.length) (c : Int) : behL b (i + 1) c = if lastB b i = c then (behL b i c).set (b.getD i 0).toNat ((behL b i c).getD (b.getD i 0).toNat 0 + 1) else behL b i c := by
  have hx : 0 ≤ b.getD i 0 ∧ b.getD i 0 ≤ 255 := by rw [List.getD_eq_getElem?_getD, List.getElem?_eq_getElem hi]; exact hb _ (List.getElem_mem hi)
  apply List.ext_getElem?
  intro k
  by_cases hk : k < 256
  · rw [behL_get b (i + 1) c hk, behF]
    by_cases c1 : lastB b i = c
    · rw [if_pos c1, List.getElem?_set, behL_length, behL_getD b i c (by omega)]
      by_cases c2 : (b.getD i 0).toNat = k
      · rw [if_pos c2, if_pos (c := (b.getD i 0).toNat < 256) (by omega), if_pos (c := lastB b i = c ∧ b.getD i 0 = ((k : Nat) : Int)) ⟨c1, by omega⟩, c2]; congr 1
      · rw [if_neg c2, if_neg (fun q => c2 (by omega)), behL_get b i c hk]; congr 1
    · rw [if_neg c1, if_neg (fun q => c1 q.1), behL_get b i c hk]; congr 1
  · rw [List.getElem?_eq_none (by rw [behL_length]; omega)]
    split
    · rw [List.getElem?_eq_none (by rw [List.length_set, behL_length]; omega)]
    · rw [List.getElem?_eq_none (by rw [behL_length]; omega)]
theorem lastB_succ (b : List Int) (i : Nat) : lastB b (i + 1) = b.getD i 0 := by unfold lastB; rw [if_neg (by omega), Nat.add_sub_cancel]
theorem lastB_byte (b : List Int) (hb : B8 b) {i : Nat} (hi : i ≤ b.length) : 0 ≤ lastB b i ∧ lastB b i ≤ 255 := by
  unfold lastB
  by_cases c : i = 0
  · rw [if_pos c]; omega
  · rw [if_neg c, List.getD_eq_getElem?_getD, List.getElem?_eq_getElem (by omega)]; exact hb _ (List.getElem_mem _)
/-- all of them in one row -/
def tabL (b : List Int) (i : Nat) : List Int := (List.range 65536).map (fun (k : Nat) => ((behF b i ((k / 256 : Nat) : Int) ((k % 256 : Nat) : Int) : Nat) : Int))
theorem tabL_length (b : List Int) (i : Nat) : (tabL b i).length = 65536 := by unfold tabL; rw [List.length_map, List.length_range]
theorem tabL_get (b : List Int) (i : Nat) {k : Nat} (hk : k < 65536) : (tabL b i)[k]? = some ((behF b i ((k / 256 : Nat) : Int) ((k % 256 : Nat) : Int) : Nat) : Int) := by
  unfold tabL; rw [List.getElem?_map, List.getElem?_range hk]; rfl
theorem tabL_getD (b : List Int) (i : Nat) {c x : Nat} (hc : c < 256) (hx : x < 256) : (tabL b i).getD (c * 256 + x) 0 = ((behF b i ((c : Nat) : Int) ((x : Nat) : Int) : Nat) : Int) := by
  rw [List.getD_eq_getElem?_getD, tabL_get b i (by omega), show (c * 256 + x) / 256 = c by omega, show (c * 256 + x) % 256 = x by omega]; rfl
theorem tabL_0 (b : List Int) : tabL b 0 = List.replicate 65536 0 := by
  apply List.ext_getElem?
  intro k
  by_cases hk : k < 65536
  · rw [tabL_get b 0 hk, List.getElem?_replicate, if_pos hk]; rfl
  · rw [List.getElem?_eq_none (by rw [tabL_length]; omega), List.getElem?_eq_none (by rw [List.length_replicate]; omega)]
theorem tabL_step (b : List Int) {i c x : Nat} (hc : lastB b i = ((c : Nat) : Int)) (hx : b.getD i 0 = ((x : Nat) : Int)) (hc2 : c < 256) (hx2 : x < 256) : (tabL b i).set (c * 256 + x) ((behF b i ((c : Nat) : Int) ((x : Nat) : Int) : Nat) + 1 : Int) = tabL b (i + 1) := by
  apply List.ext_getElem?
  intro k
  by_cases hk : k < 65536
  · rw [tabL_get b (i + 1) hk, behF, List.getElem?_set, tabL_length]
    by_cases e : c * 256 + x = k
    · rw [if_pos e, if_pos (c := c * 256 + x < 65536) (by omega), if_pos (c := lastB b i = ((k / 256 : Nat) : Int) ∧ b.getD i 0 = ((k % 256 : Nat) : Int)) ⟨by omega, by omega⟩, show k / 256 = c by omega, show k % 256 = x by omega]; congr 1
    · rw [if_neg e, if_neg (by rintro ⟨q1, q2⟩; omega), tabL_get b i hk]; congr 1
  · rw [List.getElem?_eq_none (by rw [List.length_set, tabL_length]; omega), List.getElem?_eq_none (by rw [tabL_length]; omega)]
theorem tab_row (b : List Int) (i : Nat) {c : Nat} (hc : c < 256) : ((i64s (tabL b i)).drop (c * 256)).take 256 = i64s (behL b i ((c : Nat) : Int)) := by
  unfold i64s
  rw [← List.map_drop, ← List.map_take]
  congr 1
  apply List.ext_getElem?
  intro k
  by_cases hk : k < 256
  · rw [List.getElem?_take, if_pos hk, List.getElem?_drop, tabL_get b i (by omega), behL_get b i _ hk, show (c * 256 + k) / 256 = c by omega, show (c * 256 + k) % 256 = k by omega]
  · rw [List.getElem?_take, if_neg hk, List.getElem?_eq_none (by rw [behL_length]; omega)]
/-! ### memory -/
theorem i64_put {h : GH} {g e : Nat} {zs : List Int} (hl : h.look g = some (.row ⟨i64s zs, e, false⟩)) {i : Nat} (hi : i < zs.length) (x : Int) {β : Type} (K : GH → Option β) : gput g i [Value.int .i64 x] h K = K (h.put g (some (.row ⟨i64s (zs.set i x), e, false⟩))) := by
  rw [gput_eq hl rfl (by simp [i64s_length]; omega)]
  congr 5
  rw [nlay_eq]
  unfold i64s
  rw [List.map_set]
  apply List.ext_getElem?
  intro j
  rw [List.getElem?_set]
  by_cases h1 : j < i
  · rw [List.append_assoc, List.getElem?_append_left (by simp; omega), List.getElem?_take, if_pos h1, if_neg (by omega)]
  · by_cases h2 : j = i
    · subst h2
      rw [if_pos rfl, if_pos (by simpa using hi), List.append_assoc, List.getElem?_append_right (by simp; omega)]
      simp only [List.length_take, List.length_map]
      rw [Nat.min_eq_left (by omega), Nat.sub_self]; rfl
    · rw [if_neg (Ne.symm h2), List.getElem?_append_right (by simp; omega), List.getElem?_drop]
      congr 1
      simp only [List.length_append, List.length_take, List.length_map, List.length_singleton]
      omega
theorem i64_cell {h : GH} {g e : Nat} {r : Bool} {zs : List Int} (hl : h.look g = some (.row ⟨i64s zs, e, r⟩)) {i : Nat} (hi : i < zs.length) : h.cell ⟨g, i, none⟩ = some (.int .i64 (zs.getD i 0)) := by
  rw [cell_of hl, nth_i64s hi, List.getD_eq_getElem?_getD, List.getElem?_eq_getElem hi]; rfl
theorem nsub_all {α : Type} (l : List α) : nsub l 0 l.length = some l := by
  unfold nsub
  rw [ble_t (by omega), condT, ntake_eq, ndrop_eq, List.drop_zero, List.take_length]
theorem rowCells_of {h : GH} {g : Nat} {cs : List Value} {e : Nat} {r : Bool} (hl : h.look g = some (.row ⟨cs, e, r⟩)) : rowCells (h.look g) = cs := by rw [hl]; rfl
theorem exL_s {β : Type} (x : List Value) (K : List Value → Option β) : exL (some x) K = K x := rfl
theorem sameAt_i64 {g e : Nat} {r : Bool} {h h' : GH} {zs : List Int} (h1 : h.look g = some (.row ⟨i64s zs, e, r⟩)) (h2 : h'.look g = some (.row ⟨i64s zs, e, r⟩)) : ∀ n o, o + n ≤ zs.length → sameAt g o n h h' = true
  | 0, o, _ => rfl
  | n + 1, o, hn => by
    rw [sameAt, sameAt_i64 h1 h2 n (o + 1) (by omega), i64_cell h1 (by omega), i64_cell h2 (by omega), veqO_i]; rfl
theorem nlay_all {α : Type} (l m : List α) (h : m.length = l.length) : nlay l 0 m = m := by
  rw [nlay_eq, List.take_zero, List.nil_append, Nat.zero_add, h, List.drop_length, List.append_nil]
def chkZ : List Value → Nat → Bool
  | [], 0 => true
  | .int .i64 (.ofNat 0) :: r, n + 1 => chkZ r n
  | _, _ => false
theorem chkZ_eq : ∀ (l : List Value) (n : Nat), chkZ l n = true → l = i64s (List.replicate n 0)
  | [], 0, _ => rfl
  | [], n + 1, h => by simp [chkZ] at h
  | v :: r, 0, h => by cases v <;> simp [chkZ] at h
  | v :: r, n + 1, h => by
    unfold chkZ at h
    split at h
    · rename_i h1 _; cases h1
    · rename_i h1 h2
      cases h1
      cases h2
      rw [chkZ_eq _ _ h]; rfl
    · cases h
theorem z42 : chkZ Z94 65536 = true := by kernel_rfl
theorem Z42_eq : Z94 = i64s (List.replicate 65536 0) := chkZ_eq _ _ z42
def slV (s : Sl) : Value := .slice s.a s.n s.c
theorem Z28_eq : Z40 = (List.replicate 256 (⟨none, 0, 0⟩ : Sl)).map slV := by kernel_rfl
end Go.Proofs.Ytdmemmpkkibckaa.Gx

