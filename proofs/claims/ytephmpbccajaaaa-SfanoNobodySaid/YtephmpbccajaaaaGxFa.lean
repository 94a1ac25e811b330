/- The plain machine and the model: '==' of values that are made of parts; strings. No condition. -/
import Derived.Test.YtephmpbccajaaaaGxF
import Derived.Laws.StructEq
import Derived.ChangeKeysEq
namespace Go.Proofs.Ytephmpbccajaaaa.Gx
open Go Go.RowKit
set_option linter.unusedVariables false
set_option linter.unusedSimpArgs false
variable {P : Program} {β : Type} {r : β}
theorem info_underlying {t : TypeId} {n : Nat} (h : sizeT P t = some n) : ∃ i, P.info? t = some i ∧ P.cellsOf t = n := by
  unfold sizeT at h
  cases hi : P.info? t with
  | none => simp [hi] at h
  | some i => simp [hi] at h; exact ⟨i, rfl, by simp [Program.cellsOf, hi, h]⟩
def EqS (P : Program) (D : Nat) (t : TypeId) (x y : Value) (b : Bool) : Prop := ∀ ι rx ry, VR ι x rx → VR ι y ry → ∀ w, (Op.equalIn D t rx ry).run P w = .ok b w
theorem geqFs_sim {E : TypeId → Value → Value → (Bool → Option β) → Option β} {d : Nat} (hE : ∀ t x y K, E t x y K = some r → ∃ b, K b = some r ∧ ∀ D, EqS P (D + d) t x y b) {xs ys : List Value} : ∀ (fs : List Field) {K : Bool → Option β}, geqFs P E xs ys fs K = some r →
    ∃ b, K b = some r ∧ ∀ D ι (rx ry : Array Value), All2 (VR ι) xs rx.toList → All2 (VR ι) ys ry.toList → ∀ w, (Op.eqFields (D + d) rx ry fs).run P w = .ok b w
  | [], K, h => ⟨true, h, fun D ι rx ry _ _ w => by simp [Op.eqFields]⟩
  | f :: fs, K, h => by
    unfold geqFs at h
    obtain ⟨hn, h⟩ := cond_none' h
    obtain ⟨a, h, ha⟩ := exCells_sim h
    obtain ⟨b, h, hb⟩ := exCells_sim h
    obtain ⟨p, h, hp⟩ := hE _ _ _ _ h
    obtain ⟨q, h, hq⟩ := geqFs_sim hE fs h
    refine ⟨_, h, fun D ι rx ry hx hy w => ?_⟩
    obtain ⟨ra, va, pa⟩ := ha ι rx hx
    obtain ⟨rb, vb, pb⟩ := hb ι ry hy
    have hn' : f.name ≠ "_" := by simpa using hn
    simp only [Op.eqFields, hn', ne_eq, not_false_eq_true, if_true, Sem.run_bind, pa w, pb w, hp D ι _ _ va vb w, Result.andThen_ok]
    cases p
    · simp
    · simpa using hq D ι rx ry hx hy w
theorem geqIs_sim {E : Value → Value → (Bool → Option β) → Option β} {d : Nat} {e : TypeId} (hE : ∀ x y K, E x y K = some r → ∃ b, K b = some r ∧ ∀ D, EqS P (D + d) e x y b) {z : Nat} {xs ys : List Value} : ∀ (n i : Nat) {K : Bool → Option β}, geqIs P E e z xs ys n i K = some r →
    ∃ b, K b = some r ∧ ∀ D ι (rx ry : Array Value), All2 (VR ι) xs rx.toList → All2 (VR ι) ys ry.toList → ∀ w, (Op.eqItems (D + d) e z rx ry (List.range' i n)).run P w = .ok b w
  | 0, i, K, h => ⟨true, h, fun D ι rx ry _ _ w => by simp [Op.eqItems]⟩
  | n + 1, i, K, h => by
    unfold geqIs at h
    obtain ⟨a, h, ha⟩ := exCells_sim h
    obtain ⟨b, h, hb⟩ := exCells_sim h
    obtain ⟨p, h, hp⟩ := hE _ _ _ h
    obtain ⟨q, h, hq⟩ := geqIs_sim hE n (i + 1) h
    refine ⟨_, h, fun D ι rx ry hx hy w => ?_⟩
    obtain ⟨ra, va, pa⟩ := ha ι rx hx
    obtain ⟨rb, vb, pb⟩ := hb ι ry hy
    simp only [List.range'_succ, Op.eqItems, Sem.run_bind, pa w, pb w, hp D ι _ _ va vb w, Result.andThen_ok]
    cases p
    · simp
    · simpa using hq D ι rx ry hx hy w
theorem beqS_eq (a b : ByteArray) : beqS a b = (a.toList == b.toList) := by rw [ByteArray.toList_eq, ByteArray.toList_eq]; rfl
theorem geqC_sim : ∀ (d : Nat) {t : TypeId} {x y : Value} {K : Bool → Option β}, geqC P d t x y K = some r → ∃ b, K b = some r ∧ ∀ D, EqS P (D + d) t x y b
  | 0, t, x, y, K, h => by cases h
  | d + 1, t, x, y, K, h => by
    unfold geqC at h
    split at h
    · rename_i a b hu
      exact ⟨_, h, fun D ι rx ry hx hy w => by rw [hx.bool, hy.bool]; exact run_equalIn_bool w (D + d) t a b hu⟩
    · rename_i q k a k' b hu
      obtain ⟨hk, h'⟩ := cond_none h
      have hk' : k = k' := by simpa using hk
      subst hk'
      exact ⟨_, h', fun D ι rx ry hx hy w => by rw [hx.int, hy.int]; exact run_equalIn_int w (D + d) t k q a b hu⟩
    · rename_i a b hu
      exact ⟨_, h, fun D ι rx ry hx hy w => by rw [hx.str, hy.str, beqS_eq]; exact run_equalIn_string w (D + d) t a b hu⟩
    · rename_i fs xs ys hu
      obtain ⟨hs, h'⟩ := cond_none' h
      have hfs : P.fieldsOf t = fs := by simp [Program.fieldsOf, hu]
      obtain ⟨b, h', hb⟩ := geqFs_sim (P := P) (d := d) (fun t x y K h => geqC_sim d h) fs.toList h'
      refine ⟨b, h', fun D ι rx ry hx hy w => ?_⟩
      obtain ⟨rxs, rfl, h1⟩ := hx.aggL
      obtain ⟨rys, rfl, h2⟩ := hy.aggL
      rw [show D + (d + 1) = (D + d) + 1 from rfl, run_equalIn_struct w (D + d) t rxs rys (by rw [hfs]; exact hu) hs, hfs]
      exact hb D ι rxs rys h1 h2 w
    · rename_i n e xs ys hu
      split at h
      · rename_i z hz
        obtain ⟨i, hi, hc⟩ := info_underlying hz
        obtain ⟨b, h', hb⟩ := geqIs_sim (P := P) (d := d) (fun x y K h => geqC_sim d h) n 0 h
        refine ⟨b, h', fun D ι rx ry hx hy w => ?_⟩
        obtain ⟨rxs, rfl, h1⟩ := hx.aggL
        obtain ⟨rys, rfl, h2⟩ := hy.aggL
        rw [show D + (d + 1) = (D + d) + 1 from rfl, run_equalIn_array w (D + d) rxs rys hu hi, hc, List.range_eq_range']
        exact hb D ι rxs rys h1 h2 w
      · cases h
    · cases h
theorem ltS_eq : ∀ a b : List UInt8, ltS a b = Op.bytesLess a b
  | _, [] => by unfold ltS Op.bytesLess; rfl
  | [], _ :: _ => by unfold ltS Op.bytesLess; rfl
  | a :: x, b :: y => by unfold ltS Op.bytesLess; rw [ltS_eq x y]
theorem gstr_sim {op : BinOp} {a b : ByteArray} {K : Value → Option β} (h : gstr op a b K = some r) (t : TypeId) :
    ∃ v, K v = some r ∧ plain1 v = true ∧ ∀ ox oy w, (do eqGuard op t ox oy (.string a) (.string b); binOp op t (.string a) (.string b) : Sem Value).run P w = .ok v w := by
  unfold gstr at h
  have m : IntKind.i64.max = 9223372036854775807 := by decide +kernel
  split at h
  · exact ⟨_, h, rfl, fun ox oy w => by rw [beqS_eq]; simp [eqGuard_at_string, binOp, Op.stringOp]⟩
  · exact ⟨_, h, rfl, fun ox oy w => by rw [beqS_eq]; simp [eqGuard_at_string, binOp, Op.stringOp]⟩
  · exact ⟨_, h, rfl, fun ox oy w => by rw [ltS_eq]; simp [eqGuard_at_string, binOp, Op.stringOp, ByteArray.toList_eq]⟩
  · obtain ⟨hk, h'⟩ := cond_none h
    have hk' : ¬ ((a.size + b.size : Nat) : Int) > 9223372036854775807 := by have := of_decide_eq_true hk; omega
    exact ⟨_, h', rfl, fun ox oy w => by simp only [eqGuard_at_string, binOp, Op.stringOp, m, hk', if_false]; simp⟩
  · cases h
theorem gbinX_sim {op : BinOp} {t : TypeId} {x y : Value} {K : Value → Option β} (h : gbinX P op t x y K = some r) :
    ∃ v, K v = some r ∧ ∀ ι rx ry, VR ι x rx → VR ι y ry → ∃ rv, VR ι v rv ∧ ∀ ox oy w, (do eqGuard op t ox oy rx ry; binOp op t rx ry : Sem Value).run P w = .ok rv w := by
  unfold gbinX at h
  split at h
  · rename_i xs ys
    cases op <;> simp only [] at h <;> first | (cases h; done) | skip
    · obtain ⟨hg, h⟩ := cond_none' h
      obtain ⟨b, h, hb⟩ := geqC_sim 16 h
      refine ⟨_, h, fun ι rx ry hx hy => ⟨_, .same _ rfl, fun ox oy w => ?_⟩⟩
      obtain ⟨rxs, rfl, h1⟩ := hx.aggL
      obtain ⟨rys, rfl, h2⟩ := hy.aggL
      simp only [Sem.run_bind, run_eqGuard_agg w .eql t ox oy rxs rys hg, Result.andThen_ok, run_eql_struct]
      rw [hb 9984 ι _ _ hx hy w]; rfl
    · obtain ⟨hg, h⟩ := cond_none' h
      obtain ⟨b, h, hb⟩ := geqC_sim 16 h
      refine ⟨_, h, fun ι rx ry hx hy => ⟨_, .same _ rfl, fun ox oy w => ?_⟩⟩
      obtain ⟨rxs, rfl, h1⟩ := hx.aggL
      obtain ⟨rys, rfl, h2⟩ := hy.aggL
      simp only [Sem.run_bind, run_eqGuard_agg w .neq t ox oy rxs rys hg, Result.andThen_ok, run_neq_struct]
      rw [hb 9984 ι _ _ hx hy w]; rfl
  · obtain ⟨v, h, hp, hv⟩ := gstr_sim (P := P) h t
    exact ⟨v, h, fun ι rx ry hx hy => ⟨v, .same _ hp, fun ox oy w => by rw [hx.str, hy.str]; exact hv ox oy w⟩⟩
  · obtain ⟨h1, h⟩ := cond_none h
    exact gbin_sim h t h1
end Go.Proofs.Ytephmpbccajaaaa.Gx

