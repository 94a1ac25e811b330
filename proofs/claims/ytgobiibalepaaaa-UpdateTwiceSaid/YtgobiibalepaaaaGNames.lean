/- update.names walked: of each name, folded, the first or the last place. No condition. -/
import Derived.Test.YtgobiibalepaaaaGFold
import Derived.Maps.OwnSet
import Derived.StringKeys
namespace Go.Proofs.Ytgobiibalepaaaa.Q
open Go.RowKit Go.Maps Go.Proofs.YtgobiibalepaaaaW.PrintWords Go.Proofs.YtgobiibalepaaaaW.PrintLast Go.Proofs.YtgobiibalepaaaaW.PrintMore
set_option linter.unusedVariables false

theorem strKeyed : Keyed Try.prog 9 := string_keyed Try.underlying9
theorem intZeroV (w : World) : (zeroValue 3).run Try.prog w = .ok (.int .i64 0) w := by kernel_rfl
def KS (ks : List Int) : Lit := .string (strOfNums ks).data.toList
theorem keyOf_KS {ks : List Int} (h : ks.length ≤ 1000) : keyOf Try.prog 9 (.string (strOfNums ks)) = some (KS ks) :=
  Go.WideMaps.keyOf_string_mk Try.underlying9 (by rw [strOfNums_size]; unfold maxLen; omega)
theorem byte_inj {a b : Int} (ha : 0 ≤ a ∧ a ≤ 255) (hb : 0 ≤ b ∧ b ≤ 255) (h : UInt8.ofNat a.toNat = UInt8.ofNat b.toNat) : a = b := by
  have := congrArg UInt8.toNat h
  simp at this
  omega
theorem KS_inj {a b : List Int} (ha : bytesOk a = true) (hb : bytesOk b = true) (h : KS a = KS b) : a = b := by
  unfold KS at h
  injection h with h
  rw [strOfNums_data, strOfNums_data] at h
  induction a generalizing b with
  | nil => cases b with
    | nil => rfl
    | cons y b => simp at h
  | cons x a ih => cases b with
    | nil => simp at h
    | cons y b =>
      simp only [List.map_cons, List.cons.injEq] at h
      have h1 := byte_inj (bytesOk_get ha (by simp)) (bytesOk_get hb (by simp)) h.1
      have h2 := ih (b := b) (by simp [bytesOk] at ha ⊢; exact ha.2) (by simp [bytesOk] at hb ⊢; exact hb.2) h.2
      rw [h1, h2]
def KeyOk (ks : List Int) : Prop := bytesOk ks = true ∧ ks.length ≤ 1000
theorem KeyOk.one {ks : List Int} (h : KeyOk ks) : bytesOk ks = true := by unfold KeyOk at h; exact h.1
theorem KeyOk.two {ks : List Int} (h : KeyOk ks) : ks.length ≤ 1000 := by unfold KeyOk at h; exact h.2
def valO : Option Nat → Int
  | none => 0
  | some j => j
/-- Block b is a map of at most n entries: of each key the place that M says. -/
def MapS (w : World) (b n : Nat) (M : List Int → Option Nat) : Prop :=
  ∃ D : DataW Unit, w.ownsMap Try.prog 9 (plainElem Try.prog 3) b n D ∧ ∀ ks, KeyOk ks → has D (KS ks) = (M ks).isSome ∧ D.atKey (KS ks) (.lit (.int .i64 0)) = .lit (.int .i64 (valO (M ks)))
theorem MapS.new (w : World) : MapS (w.alloc (.map #[] 0)) w.heap.size 0 (fun _ => none) := ⟨_, World.ownsMap_made w _ _ _, fun _ _ => ⟨rfl, rfl⟩⟩
theorem MapS.lt {w : World} {b n : Nat} {M : List Int → Option Nat} (h : MapS w b n M) : b < w.heap.size := by obtain ⟨D, h, _⟩ := h; exact h.lt
theorem MapS.below {w w' : World} {b n B : Nat} {M : List Int → Option Nat} (h : MapS w b n M) (hb : Below B w w') (hlt : b < B) : MapS w' b n M := by
  obtain ⟨D, ⟨es, clock, hh, r⟩, hM⟩ := h
  exact ⟨D, ⟨es, clock, (hb.block b hlt).trans hh, r⟩, hM⟩
theorem MapS.step {w w' : World} {b n : Nat} {M : List Int → Option Nat} (h : MapS w b n M) (hb : Below w.heap.size w w') : MapS w' b n M := h.below hb h.lt
theorem MapS.set_ {w : World} {b n : Nat} {M : List Int → Option Nat} (h : MapS w b n M) {a : Addr} (ha : b ≠ a.block) (u : Value) : MapS (w.setCell a u) b n M := by
  obtain ⟨D, h, hM⟩ := h
  exact ⟨D, h.setCell ha u, hM⟩
theorem MapS.look_ok {w : World} {b n : Nat} {M : List Int → Option Nat} (h : MapS w b n M) {ks : List Int} (hk : KeyOk ks) :
    (Instr.lookup 48 (.map (some b)) (.string (strOfNums ks)) true).run Try.prog w = .ok (.tuple #[.int .i64 (valO (M ks)), .bool (M ks).isSome]) w := by
  obtain ⟨D, h, hM⟩ := h
  obtain ⟨v, ps, hrun, hv⟩ := h.look_ok strKeyed Try.underlying48 (intZeroV _) (plainElem_int Try.underlying3 (by decide)) (keyOf_KS hk.2)
  obtain ⟨c, rfl, hc, _⟩ := plainElem_int_inv Try.underlying3 hv
  have hc1 := congrArg Prod.fst hc
  simp only at hc1
  rw [(hM ks hk).2] at hc1
  injection hc1 with hc1
  injection hc1 with _ hc1
  rw [hrun, (hM ks hk).1, hc1]
theorem MapS.look {w : World} {b n : Nat} {M : List Int → Option Nat} (h : MapS w b n M) {ks : List Int} (hk : KeyOk ks) :
    (Instr.lookup 48 (.map (some b)) (.string (strOfNums ks)) false).run Try.prog w = .ok (.int .i64 (valO (M ks))) w := by
  obtain ⟨D, h, hM⟩ := h
  obtain ⟨c, hrun, hat, _⟩ := h.lookup_int strKeyed Try.underlying48 Try.underlying3 (intZeroV _) (keyOf_KS hk.2)
  rw [(hM ks hk).2] at hat
  injection hat with hat
  injection hat with _ hat
  rw [hrun, hat]
theorem MapS.put {w : World} {b n : Nat} {M : List Int → Option Nat} (h : MapS w b n M) {ks : List Int} (hk : KeyOk ks) (hn : n < maxLen) {x : Nat} (hx : x ≤ 1000000) :
    ∃ w', (Instr.mapUpdate 48 (.map (some b)) (.string (strOfNums ks)) (.int .i64 x)).run Try.prog w = .ok () w' ∧ MapS w' b (n + 1) (fun ls => if ls = ks then some x else M ls) ∧ w.grownBy w' (some b) := by
  obtain ⟨D, h, hM⟩ := h
  have hisM := h.isMap
  obtain ⟨w', hrun, hown, hg⟩ := h.update strKeyed Try.underlying48 hn (keyOf_KS hk.2) (plainElem_int Try.underlying3 (WalkArith.wf_i64 (n := (x : Int)) (by omega)))
  refine ⟨w', hrun, ⟨_, hown, fun ls hl => ?_⟩, hg⟩
  have hkey := strKeyed.key (keyOf_KS hl.2)
  by_cases e : ls = ks
  · subst e
    simp only [if_true]
    exact ⟨has_put_same hisM hkey _, by rw [atKey_put_same hisM hkey]; rfl⟩
  · simp only [if_neg e]
    have hne : KS ls ≠ KS ks := fun e' => e (KS_inj hl.1 hk.1 e')
    exact ⟨by rw [has_put_other hne]; exact (hM ls hl).1, by rw [atKey_put_other hne]; exact (hM ls hl).2⟩
end Go.Proofs.Ytgobiibalepaaaa.Q

