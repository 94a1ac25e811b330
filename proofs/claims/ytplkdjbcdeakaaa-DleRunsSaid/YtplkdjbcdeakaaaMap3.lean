/- The finder's map, as a function of three bytes. -/
import Derived.Test.YtplkdjbcdeakaaaFind1
import Derived.Maps.OwnSet
import Derived.WideKeyPair
namespace Go.Proofs.Ytplkdjbcdeakaaa
open Go.RowKit Go.Maps

theorem fkArr : Go.WideMaps.ArrKey Try.prog 84 5 3 := ⟨Try.underlying84, by kernel_rfl, by kernel_rfl, by kernel_rfl⟩
theorem fkLaw : Keyed Try.prog 84 := Keyed.of_law fkArr.law
theorem intZero (w : World) : (zeroValue 3).run Try.prog w = .ok (.int .i64 0) w := by kernel_rfl
theorem typesSize : ∃ m, Try.prog.types.size = m + 1 := ⟨Try.prog.types.size - 1, (Nat.sub_add_cancel (of_decide_eq_true (by kernel_rfl))).symm⟩

def Bt3 (ks : List Int) : Prop := ∃ a b c : Int, ks = [a, b, c] ∧ (0 ≤ a ∧ a ≤ 255) ∧ (0 ≤ b ∧ b ≤ 255) ∧ (0 ≤ c ∧ c ≤ 255)
def KL (ks : List Int) : Lit := .string (keyBytes (ks.map (Lit.int .u8)))
theorem wf_u8 {a : Int} (h : 0 ≤ a ∧ a ≤ 255) : (Lit.int .u8 a).wf = true := by
  have h1 : IntKind.u8.min = 0 := rfl
  have h2 : IntKind.u8.max = 255 := rfl
  simp [Lit.wf, h1, h2]; omega

theorem keyOf_fk {ks : List Int} (h : Bt3 ks) : keyOf Try.prog 84 (keyV ks) = some (KL ks) := by
  obtain ⟨a, b, c, rfl, wa, wb, wc⟩ := h
  have A := fkArr
  have hkt := A.keyType typesSize
  have he := Try.underlying5
  obtain ⟨m, hm⟩ := typesSize
  show keyOf Try.prog _ (.agg #[.int .u8 a, .int .u8 b, .int .u8 c]) = _
  unfold keyOf
  simp only [A.hu]
  rw [if_pos (by simp [hkt, Value.formed, A.hu, A.size]), hm]
  unfold Program.keyLits
  simp only [A.hu, Value.cells]
  rw [if_pos (by rw [A.size]; rfl), show List.range 3 = [0, 1, 2] from rfl, List.mapM_cons, List.mapM_cons, List.mapM_cons, List.mapM_nil]
  simp [A.one, Program.keyLits, he, wf_u8 wa, wf_u8 wb, wf_u8 wc, KL]
theorem KL_key {ks : List Int} (h : Bt3 ks) : WideAt.IsKeyLit (KL ks) := fkLaw.key (keyOf_fk h)
theorem KL_inj {ks ls : List Int} (h : Bt3 ks) (g : Bt3 ls) (e : KL ks = KL ls) : ks = ls := by
  have h1 := keyOf_fk h
  rw [e] at h1
  have h2 := fkLaw.inj h1 (keyOf_fk g)
  obtain ⟨a, b, c, rfl, _⟩ := h
  obtain ⟨a', b', c', rfl, _⟩ := g
  simpa [keyV, nums] using h2

/-- Block b is a map of at most n entries that holds at each three bytes what M says. -/
def MapFn (w : World) (b n : Nat) (M : List Int → Int) : Prop :=
  ∃ D : DataW Unit, w.ownsMap Try.prog 84 (plainElem Try.prog 3) b n D ∧ ∀ ks, Bt3 ks → D.atKey (KL ks) (.lit (.int .i64 0)) = .lit (.int .i64 (M ks))

theorem MapFn.new (w : World) : MapFn (w.alloc (.map #[] 0)) w.heap.size 0 (fun _ => 0) := ⟨_, World.ownsMap_made w _ _ _, fun _ _ => rfl⟩
theorem MapFn.lt {w : World} {b n : Nat} {M : List Int → Int} (h : MapFn w b n M) : b < w.heap.size := by obtain ⟨D, h, _⟩ := h; exact h.lt
theorem MapFn.kept {w w' : World} {b n : Nat} {M : List Int → Int} (h : MapFn w b n M) {row : Option Nat} (hg : w.grownBy w' row) (hne : some b ≠ row) : MapFn w' b n M := by
  obtain ⟨D, h, hM⟩ := h
  exact ⟨D, h.kept hg hne, hM⟩
theorem MapFn.below {w w' : World} {b n B : Nat} {M : List Int → Int} (h : MapFn w b n M) (hb : Below B w w') (hlt : b < B) : MapFn w' b n M := by
  obtain ⟨D, ⟨es, clock, hh, r⟩, hM⟩ := h
  exact ⟨D, ⟨es, clock, (hb.block b hlt).trans hh, r⟩, hM⟩
theorem MapFn.set_ {w : World} {b n : Nat} {M : List Int → Int} (h : MapFn w b n M) {a : Addr} (ha : b ≠ a.block) (u : Value) : MapFn (w.setCell a u) b n M := by
  obtain ⟨D, h, hM⟩ := h
  exact ⟨D, h.setCell ha u, hM⟩
theorem MapFn.look {w : World} {b n : Nat} {M : List Int → Int} (h : MapFn w b n M) {ks : List Int} (hk : Bt3 ks) :
    (Instr.lookup 75 (.map (some b)) (keyV ks) false).run Try.prog w = .ok (.int .i64 (M ks)) w := by
  obtain ⟨D, h, hM⟩ := h
  obtain ⟨c, hrun, hat, _⟩ := h.lookup_int fkLaw Try.underlying75 Try.underlying3 (intZero _) (keyOf_fk hk)
  rw [hM ks hk] at hat
  injection hat with hat
  injection hat with _ hat
  rw [hrun, hat]
theorem MapFn.put {w : World} {b n : Nat} {M : List Int → Int} (h : MapFn w b n M) {ks : List Int} (hk : Bt3 ks) (hn : n < maxLen) {x : Int} (hx : (Lit.int .i64 x).wf = true) :
    ∃ w', (Instr.mapUpdate 75 (.map (some b)) (keyV ks) (.int .i64 x)).run Try.prog w = .ok () w' ∧ MapFn w' b (n + 1) (fun ls => if ls = ks then x else M ls) ∧ w.grownBy w' (some b) := by
  obtain ⟨D, h, hM⟩ := h
  obtain ⟨w', hrun, hown, hg⟩ := h.update fkLaw Try.underlying75 hn (keyOf_fk hk) (plainElem_int Try.underlying3 hx)
  refine ⟨w', hrun, ⟨_, hown, fun ls hl => ?_⟩, hg⟩
  show (D.put (KL ks) _).atKey (KL ls) _ = DataW.lit (Lit.int .i64 (if ls = ks then x else M ls))
  by_cases e : ls = ks
  · subst e
    rw [if_pos rfl, atKey_put_same h.isMap (KL_key hl)]
  · rw [if_neg e, atKey_put_other (fun e' => e (KL_inj hl hk e')), hM ls hl]
end Go.Proofs.Ytplkdjbcdeakaaa

