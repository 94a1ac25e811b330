/- Rounds: what a function with rounds tells, step by step. No condition. -/
import Derived.Test.YtplkdjbcdeakaaaWWords
namespace Go.Proofs.Ytplkdjbcdeakaaa.Q
open Go.Proofs.YtplkdjbcdeakaaaW.PrintWords

section
variable {α β : Type} {g f : Nat → Option α} {r : α}
theorem evS (h : ∀ k, g (k + 1) = f k) (hf : Ev f r) : Ev g r := Ev.step h hf
theorem evP {c : Prop} [Decidable c] (hc : c) (h : Ev f r) : Ev (fun k => if c then f k else g k) r := Ev.congr (fun k => if_pos hc) h
theorem evN {c : Prop} [Decidable c] (hc : ¬ c) (h : Ev f r) : Ev (fun k => if c then g k else f k) r := Ev.congr (fun k => if_neg hc) h
theorem evB {h : Nat → Option β} {f : Nat → β → Option α} {a : β} (hh : Ev h a) (k : Ev (fun n => f n a) r) : Ev (fun n => (h n).bind (f n)) r := Ev.bind hh k
theorem evC {o : Option β} {f : Nat → β → Option α} {a : β} (hh : o = some a) (k : Ev (fun n => f n a) r) : Ev (fun n => o.bind (f n)) r := Ev.congr (fun n => by rw [hh]; rfl) k
theorem evR : Ev (fun _ => some r) r := Ev.now r
theorem evE {r' : α} (h : Ev g r') (e : r' = r) : Ev g r := e ▸ h
theorem evF {o : Option α} (h : o = some r) : Ev (fun _ => o) r := ⟨0, fun _ _ => h⟩
theorem evK (hg : ∀ k, LeO (g k) (g (k + 1))) (k : Nat) (h : g k = some r) : Ev g r := Ev.of hg h
end
theorem wrap_inc {i : Nat} (h : i < 9223372036854775807) : RowKit.wrap64 ((i : Int) + 1) = ((i + 1 : Nat) : Int) := by unfold RowKit.wrap64; omega
theorem rd_nat (xs : List Int) (i : Nat) : rd xs (i : Int) = xs.getD i 0 := rfl
theorem take_snoc' {α : Type} (l : List α) (i : Nat) (d : α) (h : i < l.length) : l.take (i + 1) = l.take i ++ [l.getD i d] := by
  rw [List.take_succ_eq_append_getElem h, List.getD_eq_getElem?_getD, List.getElem?_eq_getElem h]
  rfl
/-- A loop that goes through a list: at i the rest is told. -/
theorem ev_up {α : Type} {r : α} {n : Nat} (G : Nat → Nat → Option α) (hend : Ev (fun k => G k n) r) (step : ∀ i, i < n → Ev (fun k => G k (i + 1)) r → Ev (fun k => G k i) r) : ∀ i, i ≤ n → Ev (fun k => G k i) r := by
  intro i hi
  obtain ⟨d, hd⟩ : ∃ d, n - i = d := ⟨_, rfl⟩
  induction d generalizing i with
  | zero =>
    obtain rfl : i = n := by omega
    exact hend
  | succ d ih => exact step i (by omega) (ih (i + 1) (by omega) (by omega))
end Go.Proofs.Ytplkdjbcdeakaaa.Q

