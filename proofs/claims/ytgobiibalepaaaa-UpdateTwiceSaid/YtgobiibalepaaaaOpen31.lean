/- A list of things that came in, in the print's words. No condition. -/
import Derived.Test.YtgobiibalepaaaaOpen
import Derived.Test.YtgobiibalepaaaaP31
namespace Go.Proofs.Ytgobiibalepaaaa.Q
open Go.ChangeShapes Go.WideShapes Go.ChangeAt Go.RowKit Go.Joins Go.Deep Go.Proofs.YtgobiibalepaaaaW.PrintWords Go.Proofs.YtgobiibalepaaaaW.PrintLast Go.Proofs.YtgobiibalepaaaaW.PrintMore

theorem bytesOk_of {l : List Int} (h : ∀ n ∈ l, (Lit.int .u8 n).wf = true) : bytesOk l = true := by
  unfold bytesOk
  refine List.all_eq_true.2 fun x hx => ?_
  have := u8_bd (h x hx)
  simpa using this
theorem open_things {H : Type} {enc : TypeId × Value → H} {w : World} {a : Option Addr} {len cap : Nat} {d : DataW H} {p : List MemPlace} (h : DataW.Trod enc Try.prog w 0 (fun _ => true) true 22 (.slice a len cap) d p) :
    ∃ l : List Th, len = l.length ∧ l.length ≤ cap ∧ Kd.C k36 w a l.length l ∧ ∀ x ∈ l, bytesOk x.f0 = true := by
  obtain ⟨fuel, hf⟩ := h
  rcases open_slice_fields Try.underlying22 Try.underlying36 (by kernel_rfl) (by kernel_rfl) hf with ⟨hcs, _⟩ | ⟨ad, l, c, m, D, Pl, hcs, _, hlc, hcm, hm, _, hi⟩
  · simp [Value.cells] at hcs
    obtain ⟨rfl, rfl, rfl⟩ := hcs
    exact ⟨[], rfl, Nat.le_refl _, Kd.C_nil _ _, by simp⟩
  · simp [Value.cells] at hcs
    obtain ⟨rfl, rfl, rfl⟩ := hcs
    have hm : m = cap := by rw [hm]; simp
    have key : ∀ i, ∃ T : Th, i < len → bytesOk T.f0 = true ∧ ∃ cs : List Value, cs.length = 3 ∧ k36.K w T cs ∧ ∀ j u, cs[j]? = some u → w.cell? (ad.add (i * 3 + j)) = some u := by
      intro i
      by_cases hlt : i < len
      · obtain ⟨ys, n, _, _, _, hfd⟩ := hi i (by omega)
        obtain ⟨v0, y0, hc0, _, ht0⟩ := hfd 0 _ rfl
        obtain ⟨v1, y1, hc1, _, ht1⟩ := hfd 1 _ rfl
        obtain ⟨v2, y2, hc2, _, ht2⟩ := hfd 2 _ rfl
        obtain ⟨a0, len0, cap0, zs, rfl, hrow⟩ := open_bytes Try.underlying34 Try.underlying5 (by kernel_rfl) ht0
        obtain ⟨s1, e1, _, _⟩ := DataW.trod_int Try.underlying3 ht1
        obtain rfl : v1 = .int .i64 s1 := by simpa using e1
        obtain ⟨s2, e2, _, _⟩ := DataW.trod_int Try.underlying3 ht2
        obtain rfl : v2 = .int .i64 s2 := by simpa using e2
        obtain ⟨rn, hle, hwf⟩ := hrow.rn
        have hlen := rn.len
        have hmax : len0 ≤ 9223372036854775807 := by
          rcases hrow with ⟨_, rfl, _⟩ | ⟨_, _, h1, h2, _⟩
          · omega
          · unfold maxLen at h2; omega
        generalize zs.take len0 = z at rn hwf hlen
        subst hlen
        have hC := C_of_rn rn hmax
        refine ⟨⟨z, s1, s2⟩, fun _ => ⟨bytesOk_of hwf, [.slice a0 z.length cap0, .int .i64 s1, .int .i64 s2], rfl, ?_, ?_⟩⟩
        · exact k36_mk w ⟨z, s1, s2⟩ (A0 := a0) (c0 := cap0) hle hC
        · intro j u hu
          match j, hu with
          | 0, hu => obtain rfl : Value.slice a0 z.length cap0 = u := by simpa using hu
                     exact hc0
          | 1, hu => obtain rfl : Value.int .i64 s1 = u := by simpa using hu
                     exact hc1
          | 2, hu => obtain rfl : Value.int .i64 s2 = u := by simpa using hu
                     exact hc2
          | j + 3, hu => simp at hu
      · exact ⟨z36, fun h => absurd h hlt⟩
    obtain ⟨f, hf⟩ := Classical.axiomOfChoice key
    have hll : ((List.range len).map f).length = len := by simp
    refine ⟨(List.range len).map f, hll.symm, by rw [hll]; exact hlc, ?_, ?_⟩
    · refine ⟨rfl, by unfold maxLen at hcm; omega, fun _ => ⟨ad, rfl, fun j T hT => ?_⟩⟩
      rw [List.getElem?_map, Option.map_eq_some_iff] at hT
      obtain ⟨i, hi2, rfl⟩ := hT
      have hij : j < len ∧ j = i := by
        have := (List.getElem?_eq_some_iff.1 hi2)
        obtain ⟨h1, h2⟩ := this
        simp at h1 h2
        exact ⟨h1, h2⟩
      obtain ⟨hj, rfl⟩ := hij
      obtain ⟨_, cs, h1, h2, h3⟩ := hf j hj
      exact ⟨cs, h1, h2, h3⟩
    · intro x hx
      simp only [List.mem_map, List.mem_range] at hx
      obtain ⟨i, hi2, rfl⟩ := hx
      exact (hf i hi2).1
end Go.Proofs.Ytgobiibalepaaaa.Q

