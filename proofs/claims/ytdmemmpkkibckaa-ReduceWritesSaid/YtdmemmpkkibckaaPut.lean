/- Bytes behind bytes are written by followers; sets are written. No condition. -/
import Derived.Test.YtdmemmpkkibckaaBstD
import Derived.Test.YtdmemmpkkibckaaWrite
namespace Go.Proofs.Ytdmemmpkkibckaa.Gx
open Go Go.RowKit
set_option linter.unusedVariables false
set_option linter.unusedSimpArgs false
/-! ### numbers of bits, one behind the other -/
def wv : List (Nat × Nat) → Nat
  | [] => 0
  | (x, k) :: r => x + wv r * 2 ^ k
def wl : List (Nat × Nat) → Nat
  | [] => 0
  | (x, k) :: r => k + wl r
theorem wl_app : ∀ a b, wl (a ++ b) = wl a + wl b
  | [], b => by simp [wl]
  | (x, k) :: a, b => by rw [List.cons_append, wl, wl, wl_app a b]; omega
theorem wv_app : ∀ a b, wv (a ++ b) = wv a + wv b * 2 ^ wl a
  | [], b => by simp [wv, wl]
  | (x, k) :: a, b => by
    rw [List.cons_append, wv, wv, wl, wv_app a b, Nat.add_mul, Nat.mul_assoc, ← Nat.pow_add, Nat.add_comm (wl a) k]; omega
/-- each number is of so many bits -/
def fitW (l : List (Nat × Nat)) : Prop := ∀ p ∈ l, p.1 < 2 ^ p.2 ∧ p.2 ≤ 32
/-- a writer that has written numbers of bits -/
def Wrs (h : GH) (g : Nat) (wb : Sl) (l : List (Nat × Nat)) : Prop := Wtr h g wb (wv l) (wl l) ∧ g < h.next
theorem Wrs.keep {h h' : GH} {g : Nat} {wb : Sl} {l : List (Nat × Nat)} {own : List Nat} (w : Wrs h g wb l) (k : Keep h h' own) (h1 : g ∉ own) (h2 : ∀ x ∈ rowsOf wb, x ∉ own) : Wrs h' g wb l := ⟨WtS.keep w.1 k h1 h2, Nat.lt_of_lt_of_le w.2 k.1⟩
theorem Wrs.lt {h : GH} {g : Nat} {wb : Sl} {l : List (Nat × Nat)} (w : Wrs h g wb l) : ∀ x ∈ rowsOf wb, x < h.next := w.1.vec.lt
theorem put_one {h : GH} {g : Nat} {wb : Sl} {l : List (Nat × Nat)} (w : Wrs h g wb l) {x k : Nat} (hx : x < 2 ^ k) (hk : k ≤ 32) (hl : wl l ≤ 800000000) {R : Nat} (hR : 4000000 < R) :
    ∃ h' wb', Wrs h' g wb' (l ++ [(x, k)]) ∧ Keep h h' (g :: rowsOf wb) ∧ (∀ y ∈ rowsOf wb', y ∈ rowsOf wb ∨ h.next ≤ y) ∧ ∀ (β : Type) (K : GH → Option β), F_bitio_Writer_Put R (some ⟨g, 0, none⟩) ((x : Nat) : Int) ((k : Nat) : Int) h K = K h' := by
  have hp : 2 ^ k ≤ 2 ^ 32 := Nat.pow_le_pow_right (by omega) hk
  rw [show (2 : Nat) ^ 32 = 4294967296 by decide] at hp
  obtain ⟨h', wb', w', k', n', e'⟩ := put_prog w.1 (x := x) (k := k) (by omega) hk hl hR
  refine ⟨h', wb', ⟨?_, Nat.lt_of_lt_of_le w.2 k'.1⟩, k', n', e'⟩
  have e1 : putV (wv l) (wl l) x k = wv (l ++ [(x, k)]) := by rw [putV, Nat.mod_eq_of_lt hx, wv_app]; simp [wv]
  have e2 : wl l + k = wl (l ++ [(x, k)]) := by rw [wl_app]; simp [wl]
  rw [e1, e2] at w'
  exact w'
/-! ### a byte behind another one -/
theorem gIdx_idxF : ∀ (l : List Int) (c : Int) (i : Nat), B8 l → 0 ≤ c ∧ c ≤ 255 → gIdx l c ((i : Nat) : Int) = idxF l c i
  | [], c, i, _, _ => rfl
  | x :: l, c, i, hb, hc => by
    have hx := hb x (by simp)
    have ih := gIdx_idxF l c (i + 1) (fun y hy => hb y (by simp [hy])) hc
    rw [gIdx, idxF]
    by_cases e : x = c
    · rw [if_pos e, e, beq_t]; rfl
    · rw [if_neg e, beq_f (by omega), ← ih]; rfl
theorem exBs_u8s {β : Type} : ∀ (l : List Int) (K : List Int → Option β), exBs (u8s l) K = K l
  | [], K => rfl
  | x :: l, K => exBs_u8s l _
theorem index_eq {h : GH} {s : Sl} {l : List Int} (r : Rd h s l) (hb : B8 l) {c : Int} (hc : 0 ≤ c ∧ c ≤ 255) (R : Nat) {β : Type} (K : Int → GH → Option β) : F_bytes_IndexByte R s c h K = K (idxF l c 0) h := by
  unfold F_bytes_IndexByte
  rw [F_bytes_IndexByte_gen]
  unfold F_internal_bytealg_IndexByte
  have : Rd h ⟨s.a, s.n, s.c⟩ l := r
  rw [this.cells, exBs_u8s, ← gIdx_idxF l c 0 hb hc]; rfl
/-- the numbers that a byte is behind another one that has these followers -/
def fputL (l : List Int) (c : Int) : List (Nat × Nat) := if l.length = 0 then [(c.toNat, 8)] else if 0 ≤ idxF l c 0 then [(0, 1), ((idxF l c 0).toNat, Wd l.length)] else [(1, 1), (c.toNat, 8)]
theorem lt_Wd {n k : Nat} (h1 : k < n) (h2 : n ≤ 32) : k < 2 ^ Wd n := by
  unfold Wd
  repeat' split
  all_goals (simp only [Nat.reducePow]; omega)
theorem fputL_fit {l : List Int} (hl : l.length ≤ 32) {c : Int} (hc : 0 ≤ c ∧ c ≤ 255) : fitW (fputL l c) ∧ wl (fputL l c) ≤ 9 := by
  have hi := idxF_mem l c 0
  have hw := Wd_le l.length
  unfold fputL
  by_cases c1 : l.length = 0
  · rw [if_pos c1]
    refine ⟨fun p hp => ?_, by simp [wl]⟩
    rw [List.mem_singleton.1 hp]
    exact ⟨by show c.toNat < 2 ^ 8; rw [show (2 : Nat) ^ 8 = 256 by decide]; omega, by show 8 ≤ 32; omega⟩
  · rw [if_neg c1]
    by_cases c2 : 0 ≤ idxF l c 0
    · rw [if_pos c2]
      refine ⟨fun p hp => ?_, by simp only [wl]; omega⟩
      rcases List.mem_cons.1 hp with e | e
      · rw [e]; exact ⟨by decide, by decide⟩
      · rw [List.mem_singleton.1 e]
        exact ⟨lt_Wd (by omega) hl, by show Wd l.length ≤ 32; omega⟩
    · rw [if_neg c2]
      refine ⟨fun p hp => ?_, by simp only [wl]; omega⟩
      rcases List.mem_cons.1 hp with e | e
      · rw [e]; exact ⟨by decide, by decide⟩
      · rw [List.mem_singleton.1 e]
        exact ⟨by show c.toNat < 2 ^ 8; rw [show (2 : Nat) ^ 8 = 256 by decide]; omega, by show 8 ≤ 32; omega⟩
theorem u32i {x : Int} (h : 0 ≤ x ∧ x ≤ 4294967295) : IntKind.wrap .u32 x = x := IntWalk.u32_in _ (by omega)
/-- sets as a value -/
structure SetV (h : GH) (ss : List Sl) (L : Nat → List Int) : Prop where
  len : ss.length = 256
  rd : ∀ c, c < 256 → Rd h (ss.getD c ⟨none, 0, 0⟩) (L c)
  b8 : ∀ c, c < 256 → B8 (L c)
theorem SetV.keep {h h' : GH} {ss : List Sl} {L : Nat → List Int} (s : SetV h ss L) {own : List Nat} (k : Keep h h' own) (hd : ∀ c, c < 256 → ∀ x ∈ rowsOf (ss.getD c ⟨none, 0, 0⟩), x ∉ own) : SetV h' ss L := ⟨s.len, fun c hc => (s.rd c hc).keep k (hd c hc), s.b8⟩
theorem SetV.cell {h h' : GH} {ss : List Sl} {L : Nat → List Int} (s : SetV h ss L) {g : Nat} (hl : h'.look g = some (.row ⟨ss.map slV, 0, false⟩)) {c : Nat} (hc : c < 256) : h'.cell ⟨g, c, none⟩ = some (.slice (ss.getD c ⟨none, 0, 0⟩).a (ss.getD c ⟨none, 0, 0⟩).n (ss.getD c ⟨none, 0, 0⟩).c) := by
  have := s.len
  rw [cell_of hl, nth_eq, List.getElem?_map, List.getD_eq_getElem?_getD, List.getElem?_eq_getElem (by omega)]; rfl
theorem fput_eq {h : GH} {g : Nat} {wb : Sl} {l : List (Nat × Nat)} (w : Wrs h g wb l) {ss : List Sl} {L : Nat → List Int} (s : SetV h ss L) (hg : ∀ c, c < 256 → ∀ x ∈ rowsOf (ss.getD c ⟨none, 0, 0⟩), x ≠ g ∧ x ∉ rowsOf wb) {last : Nat} (hlast : last < 256) {c : Int} (hc : 0 ≤ c ∧ c ≤ 255) (hl : wl l ≤ 700000000) {R : Nat} (hR : 4000000 < R) :
    ∃ h' wb', Wrs h' g wb' (l ++ fputL ((L last).take 32) c) ∧ Keep h h' (g :: rowsOf wb) ∧ (∀ y ∈ rowsOf wb', y ∈ rowsOf wb ∨ h.next ≤ y) ∧ ∀ (β : Type) (K : GH → Option β), F_follow_Put R (some ⟨g, 0, none⟩) (ss.map slV) ((last : Nat) : Int) c h K = K h' := by
  have k0 := keep_push h (.row ⟨ss.map slV, 0, false⟩) []
  obtain ⟨h0, eh0⟩ : ∃ h0, h0 = h.push (.row ⟨ss.map slV, 0, false⟩) := ⟨_, rfl⟩
  rw [← eh0] at k0
  have hl0 : h0.look h.next = some (.row ⟨ss.map slV, 0, false⟩) := by rw [eh0]; exact look_push_new
  have s0 := s.keep k0 (by simp)
  have w0 := w.keep k0 (by simp) (by simp)
  have cl := s0.cell hl0 hlast
  obtain ⟨q, rq, nq, eq⟩ := first_eq (s0.rd last hlast) R
  obtain ⟨F, hF⟩ : ∃ F, F = (L last).take 32 := ⟨_, rfl⟩
  rw [← hF] at rq ⊢
  have hF32 : F.length ≤ 32 := by rw [hF]; simp; omega
  have hFb : B8 F := fun x hx => s.b8 last hlast x (by rw [hF] at hx; exact List.mem_of_mem_take hx)
  have hi := idxF_mem F c 0
  have hw := Wd_le F.length
  have hcn : c = ((c.toNat : Nat) : Int) := by omega
  have hgq : ∀ x ∈ rowsOf q, x ≠ g ∧ x ∉ rowsOf wb := fun x hx => hg last hlast x (nq x hx)
  have start : ∀ (β : Type) (K : GH → Option β), F_follow_Put R (some ⟨g, 0, none⟩) (ss.map slV) ((last : Nat) : Int) c h K = (bif ((q.n : Nat) : Int) == 0 then F_bitio_Writer_Put R (some ⟨g, 0, none⟩) (IntKind.wrap .u32 c) 8 h0 fun h10 => K h10 else F_bytes_IndexByte R q c h0 fun r11 h12 => (bif decide (r11 ≥ 0) then F_bitio_Writer_Put R (some ⟨g, 0, none⟩) 0 1 h12 fun h13 => F_follow_Width R ((q.n : Nat) : Int) h13 fun r14 h15 => F_bitio_Writer_Put R (some ⟨g, 0, none⟩) (IntKind.wrap .u32 r11) r14 h15 fun h16 => K h16 else F_bitio_Writer_Put R (some ⟨g, 0, none⟩) 1 1 h12 fun h17 => F_bitio_Writer_Put R (some ⟨g, 0, none⟩) (IntKind.wrap .u32 c) 8 h17 fun h18 => K h18)) := fun β K => by
    unfold F_follow_Put
    rw [F_follow_Put_gen, gnew_eq (allCells_slV ss), ← eh0, within_t (by omega) (by omega), Int.toNat_natCast, Nat.zero_add, Nat.mul_one, cl, exS_s', eq]
  have hqn := rq.n
  unfold fputL
  by_cases c1 : F.length = 0
  · rw [if_pos c1]
    obtain ⟨h', wb', w', k', n', e'⟩ := put_one w0 (x := c.toNat) (k := 8) (by rw [show (2 : Nat) ^ 8 = 256 by decide]; omega) (by omega) (by omega) hR
    refine ⟨h', wb', w', (k0.mono (by simp)).trans k' (fun x hx => .inl hx), fun y hy => (n' y hy).imp id (fun q => by have := k0.1; omega), fun β K => ?_⟩
    rw [start, beq_int, decT (by omega), condT, u32i (by omega), hcn]
    exact e' β _
  · rw [if_neg c1]
    have eidx := fun (β : Type) (K : Int → GH → Option β) => index_eq rq hFb hc R K
    by_cases c2 : 0 ≤ idxF F c 0
    · rw [if_pos c2]
      obtain ⟨h1, wb1, w1, k1, n1, e1⟩ := put_one w0 (x := 0) (k := 1) (by decide) (by omega) (by omega) hR
      obtain ⟨h2, wb2, w2, k2, n2, e2⟩ := put_one w1 (x := (idxF F c 0).toNat) (k := Wd F.length) (lt_Wd (by omega) hF32) (by omega) (by rw [wl_app]; simp [wl]; omega) hR
      refine ⟨h2, wb2, by rw [List.append_assoc] at w2; exact w2, ((k0.mono (by simp)).trans k1 (fun x hx => .inl hx)).trans k2 (fun x hx => ?_), fun y hy => ?_, fun β K => ?_⟩
      · rcases List.mem_cons.1 hx with e | e
        · exact .inl (by simp [e])
        · rcases n1 x e with q | q
          · exact .inl (by simp [q])
          · have := k0.1; exact .inr (by omega)
      · rcases n2 y hy with q | q
        · rcases n1 y q with q | q
          · exact .inl q
          · have := k0.1; exact .inr (by omega)
        · have := k0.1; have := k1.1; exact .inr (by omega)
      · rw [start, beq_int, decF (by omega), condF, eidx, decT c2, condT]
        refine Eq.trans (e1 β _) ?_
        have ew := width_prog (β := β) R (n := F.length) (by omega) hF32 h1
        rw [hqn, ew, u32i (by omega), show idxF F c 0 = (((idxF F c 0).toNat : Nat) : Int) by omega]
        exact e2 β _
    · rw [if_neg c2]
      obtain ⟨h1, wb1, w1, k1, n1, e1⟩ := put_one w0 (x := 1) (k := 1) (by decide) (by omega) (by omega) hR
      obtain ⟨h2, wb2, w2, k2, n2, e2⟩ := put_one w1 (x := c.toNat) (k := 8) (by rw [show (2 : Nat) ^ 8 = 256 by decide]; omega) (by omega) (by rw [wl_app]; simp [wl]; omega) hR
      refine ⟨h2, wb2, by rw [List.append_assoc] at w2; exact w2, ((k0.mono (by simp)).trans k1 (fun x hx => .inl hx)).trans k2 (fun x hx => ?_), fun y hy => ?_, fun β K => ?_⟩
      · rcases List.mem_cons.1 hx with e | e
        · exact .inl (by simp [e])
        · rcases n1 x e with q | q
          · exact .inl (by simp [q])
          · have := k0.1; exact .inr (by omega)
      · rcases n2 y hy with q | q
        · rcases n1 y q with q | q
          · exact .inl q
          · have := k0.1; exact .inr (by omega)
        · have := k0.1; have := k1.1; exact .inr (by omega)
      · rw [start, beq_int, decF (by omega), condF, eidx, decF c2, condF]
        refine Eq.trans (e1 β _) ?_
        rw [u32i (by omega), hcn]
        exact e2 β _
/-! ### sets -/
def bytes8 (l : List Int) : List (Nat × Nat) := l.map fun c => (c.toNat, 8)
def oneL (l : List Int) : List (Nat × Nat) := (l.length, 6) :: bytes8 l
def setsL (L : Nat → List Int) : Nat → List (Nat × Nat)
  | 0 => []
  | k + 1 => oneL ((L k).take 32) ++ setsL L k
theorem wl_bytes8 : ∀ l, wl (bytes8 l) = 8 * l.length
  | [] => rfl
  | c :: l => by have := wl_bytes8 l; unfold bytes8 at this ⊢; rw [List.map_cons, wl, this, List.length_cons]; omega
theorem wl_oneL (l : List Int) : wl (oneL l) = 6 + 8 * l.length := by rw [oneL, wl, wl_bytes8]
theorem wl_setsL (L : Nat → List Int) : ∀ k, wl (setsL L k) ≤ 262 * k
  | 0 => by simp [setsL, wl]
  | k + 1 => by
    have h1 := wl_setsL L k
    have h2 : ((L k).take 32).length ≤ 32 := by simp; omega
    rw [setsL, wl_app, wl_oneL]; omega
theorem puts_l1 {R : Nat} (hR : 4000000 < R) {g : Nat} {s : Sl} {F : List Int} (hb : B8 F) (hF : F.length ≤ 32) (p : Option Addr) (y : Int) (hg : g ∉ rowsOf s) : ∀ (f i : Nat) {h : GH} {wb : Sl} {l : List (Nat × Nat)}, i ≤ F.length → F.length < f + i → Rd h s F → Wrs h g wb l → (∀ x ∈ rowsOf s, x ∉ rowsOf wb) → wl l + 8 * (F.length - i) ≤ 700000000 →
    ∃ h' wb', Wrs h' g wb' (l ++ bytes8 (F.drop i)) ∧ Keep h h' (g :: rowsOf wb) ∧ (∀ x ∈ rowsOf wb', x ∈ rowsOf wb ∨ h.next ≤ x) ∧ ∀ (β : Type) (F1 : Sl → GH → (Sl → GH → Option β) → Option β) (K2 : Option Addr → Option Addr → Int → GH → Option β), F_follow_PutSets_l1 F1 (F_bitio_Writer_Put R) R f (some ⟨g, 0, none⟩) p y s ((F.length : Nat) : Int) ((i : Nat) : Int) h K2 = K2 (some ⟨g, 0, none⟩) p y h' := by
  intro f
  induction f with
  | zero => intro i h wb l h1 h2; omega
  | succ f ih =>
    intro i h wb l h1 h2 r w hd hl
    by_cases hi : i < F.length
    · have hx : 0 ≤ F.getD i 0 ∧ F.getD i 0 ≤ 255 := by rw [List.getD_eq_getElem?_getD, List.getElem?_eq_getElem hi]; exact hb _ (List.getElem_mem hi)
      obtain ⟨h1', wb1, w1, k1, n1, e1⟩ := put_one w (x := (F.getD i 0).toNat) (k := 8) (by rw [show (2 : Nat) ^ 8 = 256 by decide]; omega) (by omega) (by omega) hR
      have lt := r.lt
      obtain ⟨h', wb', w', k', n', e'⟩ := ih (i + 1) (by omega) (by omega) (r.keep k1 (fun x hx hm => by
        rcases List.mem_cons.1 hm with e | e
        · subst e; exact hg hx
        · exact hd x hx e)) w1 (fun x hx hm => by
        rcases n1 x hm with q | q
        · exact hd x hx q
        · have := lt x hx; omega) (by rw [wl_app]; simp [wl]; omega)
      refine ⟨h', wb', by rw [getD_dropB hi]; rw [List.append_assoc] at w'; exact w', k1.trans k' (fun x hx => ?_), fun x hx => ?_, fun β F1 K2 => ?_⟩
      · rcases List.mem_cons.1 hx with e | e
        · exact .inl (by simp [e])
        · rcases n1 x e with q | q
          · exact .inl (by simp [q])
          · exact .inr q
      · rcases n' x hx with q | q
        · exact n1 x q
        · have := k1.1; exact .inr (by omega)
      · rw [F_follow_PutSets_l1_succ, decT (by omega), condT]
        have hby := r.byte (β := β) (i := ((i : Nat) : Int)) (by omega) (by omega)
        refine Eq.trans (hby _) ?_
        rw [Int.toNat_natCast, u32i (by omega), show F.getD i 0 = (((F.getD i 0).toNat : Nat) : Int) by omega]
        refine Eq.trans (e1 β _) ?_
        rw [i64w (by omega)]
        exact e' β F1 K2
    · have : F.drop i = [] := List.drop_eq_nil_of_le (by omega)
      refine ⟨h, wb, by rw [this]; simpa [bytes8] using w, .refl _ _, fun x hx => .inl hx, fun β F1 K2 => ?_⟩
      rw [F_follow_PutSets_l1_succ, decF (by omega), condF]
theorem puts_l0 {R : Nat} (hR : 4000000 < R) {g gs : Nat} {ss : List Sl} {L : Nat → List Int} (hgs : gs ≠ g) (hg : ∀ c, c < 256 → ∀ x ∈ rowsOf (ss.getD c ⟨none, 0, 0⟩), x ≠ g) : ∀ (k f : Nat) {h : GH} {wb : Sl} {l : List (Nat × Nat)}, k ≤ 256 → k < f → SetV h ss L → h.look gs = some (.row ⟨ss.map slV, 0, false⟩) → Wrs h g wb l → gs ∉ rowsOf wb → (∀ c, c < 256 → ∀ x ∈ rowsOf (ss.getD c ⟨none, 0, 0⟩), x ∉ rowsOf wb) → wl l + 262 * k ≤ 600000000 →
    ∃ h' wb', Wrs h' g wb' (l ++ setsL L k) ∧ Keep h h' (g :: rowsOf wb) ∧ (∀ x ∈ rowsOf wb', x ∈ rowsOf wb ∨ h.next ≤ x) ∧ ∀ (β : Type) (K0 : GH → Option β), F_follow_PutSets_l0 (F_follow_first R) (F_bitio_Writer_Put R) R f (some ⟨g, 0, none⟩) (some ⟨gs, 0, none⟩) (((k : Nat) : Int) - 1) h K0 = K0 h' := by
  intro k
  induction k with
  | zero =>
    intro f h wb l h1 h2 s hl w hw1 hw2 hlen
    obtain ⟨f, rfl⟩ : ∃ q, f = q + 1 := ⟨f - 1, by omega⟩
    refine ⟨h, wb, by simpa [setsL] using w, .refl _ _, fun x hx => .inl hx, fun β K0 => ?_⟩
    rw [F_follow_PutSets_l0_succ, decF (by omega), condF]
  | succ k ih =>
    intro f h wb l h1 h2 s hl w hw1 hw2 hlen
    obtain ⟨f, rfl⟩ : ∃ q, f = q + 1 := ⟨f - 1, by omega⟩
    have hk : k < 256 := by omega
    obtain ⟨q, rq, nq, eq⟩ := first_eq (s.rd k hk) R
    have hF32 : ((L k).take 32).length ≤ 32 := by simp; omega
    have hFb : B8 ((L k).take 32) := fun x hx => s.b8 k hk x (List.mem_of_mem_take hx)
    have hqn := rq.n
    obtain ⟨hA, wbA, wA, kA, nA, eA⟩ := put_one w (x := ((L k).take 32).length) (k := 6) (by rw [show (2 : Nat) ^ 6 = 64 by decide]; omega) (by omega) (by omega) hR
    have lq := rq.lt
    have ltall : ∀ c, c < 256 → ∀ x ∈ rowsOf (ss.getD c ⟨none, 0, 0⟩), x < h.next := fun c hc => (s.rd c hc).lt
    obtain ⟨hB, wbB, wB, kB, nB, eB⟩ := puts_l1 hR hFb hF32 (some ⟨gs, 0, none⟩) ((k : Nat) : Int) (s := q) (g := g) (fun t => hg k hk g (nq g t) rfl) R 0 (by omega) (by omega) (rq.keep kA (fun x hx hm => by
      rcases List.mem_cons.1 hm with e | e
      · exact hg k hk x (nq x hx) e
      · exact hw2 k hk x (nq x hx) e)) wA (fun x hx hm => by
      rcases nA x hm with t | t
      · exact hw2 k hk x (nq x hx) t
      · have := lq x hx; omega) (by rw [wl_app]; simp only [wl]; omega)
    rw [List.drop_zero] at wB
    have kAB : Keep h hB (g :: rowsOf wb) := kA.trans kB (fun x hx => by
      rcases List.mem_cons.1 hx with e | e
      · exact .inl (by simp [e])
      · rcases nA x e with t | t
        · exact .inl (by simp [t])
        · exact .inr t)
    have nAB : ∀ x ∈ rowsOf wbB, x ∈ rowsOf wb ∨ h.next ≤ x := fun x hx => by
      rcases nB x hx with t | t
      · exact nA x t
      · have := kA.1; exact .inr (by omega)
    have gsl := look_lt hl
    obtain ⟨h', wb', w', k', n', e'⟩ := ih f (by omega) (by omega) (s.keep kAB (fun c hc x hx hm => by
      rcases List.mem_cons.1 hm with e | e
      · exact hg c hc x hx e
      · exact hw2 c hc x hx e)) (kAB.look hl (by simp; exact ⟨hgs, hw1⟩)) wB (fun t => by
      rcases nAB gs t with t | t
      · exact hw1 t
      · omega) (fun c hc x hx hm => by
      rcases nAB x hm with t | t
      · exact hw2 c hc x hx t
      · have := ltall c hc x hx; omega) (by rw [wl_app, wl_app, wl_bytes8]; simp only [wl]; omega)
    refine ⟨h', wb', ?_, kAB.trans k' (fun x hx => ?_), fun x hx => ?_, fun β K0 => ?_⟩
    · rw [setsL, oneL]
      simp only [List.append_assoc, List.cons_append, List.nil_append] at w' ⊢
      exact w'
    · rcases List.mem_cons.1 hx with e | e
      · exact .inl (by simp [e])
      · rcases nAB x e with t | t
        · exact .inl (by simp [t])
        · exact .inr t
    · rcases n' x hx with t | t
      · exact nAB x t
      · have := kAB.1; exact .inr (by omega)
    · have ek : ((k + 1 : Nat) : Int) - 1 = ((k : Nat) : Int) := by omega
      rw [F_follow_PutSets_l0_succ, ek, decT (by omega), condT, exA_s, within_t (by omega) (by omega), Int.toNat_natCast, Nat.zero_add, Nat.mul_one, s.cell hl hk, exS_s', eq, hqn, u32i (by omega)]
      refine Eq.trans (eA β _) ?_
      have eB' := eB β (F_follow_first R)
      rw [show ((0 : Nat) : Int) = 0 from rfl] at eB'
      refine Eq.trans (eB' _) ?_
      rw [i64w (by omega)]
      exact e' β K0
theorem putsets_eq {R : Nat} (hR : 4000000 < R) {h : GH} {g : Nat} {wb : Sl} {l : List (Nat × Nat)} (w : Wrs h g wb l) {ss : List Sl} {L : Nat → List Int} (s : SetV h ss L) (hg : ∀ c, c < 256 → ∀ x ∈ rowsOf (ss.getD c ⟨none, 0, 0⟩), x ≠ g ∧ x ∉ rowsOf wb) (hl : wl l ≤ 500000000) :
    ∃ h' wb', Wrs h' g wb' (l ++ setsL L 256) ∧ Keep h h' (g :: rowsOf wb) ∧ (∀ x ∈ rowsOf wb', x ∈ rowsOf wb ∨ h.next ≤ x) ∧ ∀ (β : Type) (K : GH → Option β), F_follow_PutSets R (some ⟨g, 0, none⟩) (ss.map slV) h K = K h' := by
  have k0 := keep_push h (.row ⟨ss.map slV, 0, false⟩) []
  have lw := w.lt
  have hgn := w.2
  obtain ⟨h', wb', w', k', n', e'⟩ := puts_l0 hR (g := g) (gs := h.next) (ss := ss) (L := L) (by omega) (fun c hc x hx => (hg c hc x hx).1) 256 R (by omega) (by omega) (s.keep k0 (by simp)) look_push_new (w.keep k0 (by simp) (by simp)) (fun t => by have := lw _ t; omega) (fun c hc x hx => (hg c hc x hx).2) (by omega)
  refine ⟨h', wb', w', (k0.mono (by simp)).trans k' (fun x hx => .inl hx), fun x hx => (n' x hx).imp id (fun q => by rw [next_push] at q; omega), fun β K => ?_⟩
  unfold F_follow_PutSets
  rw [F_follow_PutSets_gen, gnew_eq (allCells_slV ss)]
  have := e' β (fun h31 => K h31)
  rw [show ((256 : Nat) : Int) - 1 = 255 from rfl] at this
  exact this
end Go.Proofs.Ytdmemmpkkibckaa.Gx

