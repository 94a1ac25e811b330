/- The plain machine: rows of whole numbers. No condition. -/
import Derived.Test.YtibngikhlgmhaaaArg
import Derived.Test.YtibngikhlgmhaaaSym
namespace Go.Proofs.Ytibngikhlgmhaaa.Gx
open Go Go.RowKit
set_option linter.unusedVariables false
theorem put_put (h : GH) (g : Nat) (a b : Option GObj) : (h.put g a).put g b = h.put g b := by
  unfold GH.put
  congr 1
  funext k
  show (bif Nat.beq k g then b else (bif Nat.beq k g then a else h.get k)) = (bif Nat.beq k g then b else h.get k)
  cases Nat.beq k g <;> rfl
def i64s (l : List Int) : List Value := l.map (Value.int .i64)
theorem nth_i64s {l : List Int} {i : Nat} (hi : i < l.length) : nth (i64s l) i = some (.int .i64 l[i]) := by
  rw [nth_eq]; simp [i64s, hi]
theorem i64s_length (l : List Int) : (i64s l).length = l.length := by simp [i64s]
theorem i64s_app (a b : List Int) : i64s (a ++ b) = i64s a ++ i64s b := by simp [i64s]
theorem allCells_i64s : ∀ l : List Int, allCells (i64s l) = true
  | [] => rfl
  | x :: l => by show (isCell (.int .i64 x) && allCells (i64s l)) = true; rw [allCells_i64s l]; rfl
abbrev Rdi (h : GH) (s : Sl) (zs : List Int) : Prop := Row h s 1 (i64s zs)
abbrev Vci (h : GH) (s : Sl) (zs : List Int) : Prop := Vec h s 1 (i64s zs)
theorem Row.ni {h : GH} {s : Sl} {zs : List Int} (r : Rdi h s zs) : s.n = zs.length := by have := r.len; rw [i64s_length, Nat.mul_one] at this; exact this.symm
theorem Row.int {β : Type} {h : GH} {s : Sl} {zs : List Int} (r : Rdi h s zs) {i : Int} (h0 : 0 ≤ i) (h1 : i < zs.length) (K : Int → Option β) :
    (exA s.a fun g o => within i s.n (exI .i64 (h.cell ⟨g, o + i.toNat * 1, none⟩) K)) = K (zs.getD i.toNat 0) := by
  have hn := r.ni
  obtain ⟨g, o, ha, hc⟩ := r.cell (by omega) Nat.one_pos
  have hlt : i.toNat < zs.length := by omega
  rw [ha]
  simp only [exA_s]
  rw [within_t h0 (by rw [hn]; exact h1), Nat.mul_one, hc _ (by rw [i64s_length]; exact hlt)]
  simp only [i64s, List.getElem?_map, List.getElem?_eq_getElem hlt, Option.map_some, exI_s, List.getD_eq_getElem?_getD, Option.getD_some]
theorem Row.intN {β : Type} {h : GH} {s : Sl} {zs : List Int} (r : Rdi h s zs) {i : Nat} (h1 : i < zs.length) (K : Int → Option β) :
    (exA s.a fun g o => within (i : Nat) s.n (exI .i64 (h.cell ⟨g, o + i * 1, none⟩) K)) = K (zs.getD i 0) := r.int (i := (i : Nat)) (by omega) (by omega) K
theorem Row.cuti {h : GH} {s : Sl} {zs : List Int} (r : Rdi h s zs) {hi : Nat} (h2 : hi ≤ zs.length) : Rdi h ⟨addO s.a (0 * 1), hi - 0, s.c - 0⟩ (zs.take hi) := by
  have hn := r.ni
  have hc := r.cap
  have := r.sub (lo := 0) (hi := hi) (mx := s.c) (Nat.zero_le _) (by omega) (by omega) (Nat.le_refl _) (fun ha => by
    rcases r.at_ with ⟨_, _, q⟩ | ⟨g, o, b, q, _⟩
    · exact q
    · rw [ha] at q; cases q)
  unfold Rdi i64s; rw [List.map_take]
  simpa [i64s] using this
theorem ar_ints {W : World} {a : Option Addr} {len cap : Nat} {zs : List Int} (h : IsRow .i64 W a len cap zs) (ι : Inj) : ArOk ι W ⟨a, len, cap, 1, i64s (zs.take len)⟩ := by
  rcases h with ⟨rfl, rfl, rfl, rfl⟩ | ⟨x, rfl, hl, hm, hz, hc, hw⟩
  · exact ⟨rfl, Nat.one_pos, Nat.le_refl _, fun _ => ⟨rfl, rfl⟩, fun q hq => (nomatch hq)⟩
  · refine ⟨by simp [i64s]; omega, Nat.one_pos, hl, fun hq => (nomatch hq), fun q hq hlen => ?_⟩
    cases hq
    simp only at hlen
    have h0 := hc 0 (by omega)
    have hb := World.block_lt_of_cell? W _ h0
    rw [block_of_add] at hb
    have hsp : x.spot = none := by
      cases hsp : x.spot with
      | none => rfl
      | some z =>
        rw [World.cell?] at h0
        split at h0
        · simp [Addr.add, hsp] at h0
        · cases h0
    refine ⟨hsp, hb, fun i v hv => ?_⟩
    simp only at hv
    by_cases hi : i < len
    · rw [nth_i64s (by simp; omega)] at hv
      cases hv
      have := hc i (by omega)
      have hx : (⟨x.block, x.off + i, none⟩ : Addr) = x.add i := by
        cases x
        simp only at hsp
        subst hsp
        simp [Addr.add]
      rw [hx]
      refine ⟨_, this, ?_⟩
      rw [List.getD_eq_getElem?_getD, List.getElem?_eq_getElem (by omega)]
      simp only [List.getElem_take, Option.getD_some]
      exact .same _ rfl
    · rw [nth_eq, List.getElem?_eq_none (by rw [i64s_length]; simp; omega)] at hv
      cases hv
end Go.Proofs.Ytibngikhlgmhaaa.Gx

