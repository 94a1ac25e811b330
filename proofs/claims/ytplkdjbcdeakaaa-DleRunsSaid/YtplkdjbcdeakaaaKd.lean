/- Bridges between the walks' words over memory and the print's kinds. No condition. -/
import Derived.Test.YtplkdjbcdeakaaaAppend
import Derived.Test.YtplkdjbcdeakaaaWMore
import Derived.Lib.SliceRun
import Derived.Deep.RegionHeld3
import Derived.Deep.RegionWith
import Derived.Deep.DeepCutAuto
import Derived.Deep.DrawnRows
namespace Go.Proofs.Ytplkdjbcdeakaaa.Q
open Go.RowKit Go.Proofs.YtplkdjbcdeakaaaW.PrintWords Go.Proofs.YtplkdjbcdeakaaaW.PrintLast Go.Proofs.YtplkdjbcdeakaaaW.PrintMore

theorem rn_of_C {k : IntKind} {w : World} {A : Option Addr} {n : Nat} {l : List Int} (h : Kd.C (Kd.int k) w A n l) : RN k w w.heap.size A n l := by
  obtain ⟨h1, h2, h3⟩ := h
  refine ⟨by simp [Go.Proofs.Ytplkdjbcdeakaaa.nums, h1], fun hn => ?_⟩
  obtain ⟨ad, e, hc⟩ := h3 hn
  have hcell : ∀ j p, l[j]? = some p → w.cell? (ad.add j) = some (.int k p) := fun j p hj => by
    obtain ⟨c, _, hk, hu⟩ := hc j p hj
    have hk : c = [Value.int k p] := hk
    subst hk
    have := hu 0 _ rfl
    have hs : (Kd.int k).sz = 1 := rfl
    rw [hs] at this
    simpa using this
  refine ⟨ad, e, ?_, fun j u hu => ?_⟩
  · have h0 : 0 < l.length := by omega
    have := World.block_lt_of_cell? w _ (hcell 0 l[0] (List.getElem?_eq_getElem h0))
    rwa [Go.Proofs.Ytplkdjbcdeakaaa.block_of_add] at this
  · simp only [Go.Proofs.Ytplkdjbcdeakaaa.nums, List.getElem?_map, Option.map_eq_some_iff] at hu
    obtain ⟨x, hx, rfl⟩ := hu
    exact hcell j x hx
theorem R_of_nums {k : IntKind} {e base : Nat} {w : World} {ok : Nat → Prop} {v : Value} {n : Nat} {l : List Int} (ho : w.ownsRow base e 1 v n (Go.Proofs.Ytplkdjbcdeakaaa.nums k l)) (hn : n = l.length) (hok : ∀ k, v.ownBlock = some k → ok k) : Kd.R (Kd.int k) e w base ok v l := by
  subst hn
  exact Kd.R_of_own ho hok
theorem own_of_R {k : IntKind} {e base : Nat} {w : World} {ok : Nat → Prop} {v : Value} {l : List Int} (h : Kd.R (Kd.int k) e w base ok v l) : w.ownsRow base e 1 v l.length (Go.Proofs.Ytplkdjbcdeakaaa.nums k l) := by
  obtain ⟨_, inner, ho, hr⟩ := h
  have hi : inner = Go.Proofs.Ytplkdjbcdeakaaa.nums k l := by
    have hs : (Kd.int k).sz = 1 := rfl
    rw [hs] at hr
    apply List.ext_getElem?
    intro j
    by_cases hj : j < l.length
    · have := hr.2 j _ (List.getElem?_eq_getElem hj)
      have this : (inner.drop (j * 1)).take 1 = [Value.int k l[j]] := this
      have h2 := congrArg (fun z => z[0]?) this
      simp [List.getElem?_drop] at h2
      simp [Go.Proofs.Ytplkdjbcdeakaaa.nums, h2, List.getElem?_eq_getElem hj]
    · have : inner.length = l.length := by rw [hr.1]; simp
      rw [List.getElem?_eq_none (by omega), List.getElem?_eq_none (by simp [Go.Proofs.Ytplkdjbcdeakaaa.nums]; omega)]
  rw [hi] at ho
  exact ho
theorem rn_of_F {k : IntKind} {w : World} {ok : Nat → Prop} {A : Option Addr} {n : Nat} {l : List Int} (h : Kd.F (Kd.int k) w ok A n l) : RN k w w.heap.size A n l := rn_of_C (Kd.F_now h)
theorem C_of_rn {k : IntKind} {w : World} {B : Nat} {A : Option Addr} {n : Nat} {l : List Int} (h : RN k w B A n l) (hn : n ≤ 9223372036854775807) : Kd.C (Kd.int k) w A n l := by
  refine ⟨h.len, hn, fun h0 => ?_⟩
  obtain ⟨ad, e, _, hc⟩ := h.2 h0
  refine ⟨ad, e, fun j p hp => ⟨[.int k p], rfl, rfl, fun i u hu => ?_⟩⟩
  have hi : i = 0 := by
    have := (List.getElem?_eq_some_iff.1 hu).1
    simpa using this
  subst hi
  have hu : Value.int k p = u := by simpa using hu
  subst hu
  have hs : (Kd.int k).sz = 1 := rfl
  rw [hs]
  simpa using hc j _ (by simp [Go.Proofs.Ytplkdjbcdeakaaa.nums, hp])
end Go.Proofs.Ytplkdjbcdeakaaa.Q

