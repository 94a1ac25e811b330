/- The document's followers of a byte: cost, choice. No condition. -/
import Derived.Test.YtdmemmpkkibckaaBstI
namespace Go.Proofs.Ytdmemmpkkibckaa.Gx
open Go Go.RowKit
set_option linter.unusedVariables false
set_option linter.unusedSimpArgs false
theorem at_loop {h : GH} {s : Sl} {l : List Int} (r : Rd h s l) (hm : l.length ≤ 1000000) (R : Nat) (c : Int) {β : Type} (K0 : GH → Option β) (Kr : Int → GH → Option β) : ∀ (f i : Nat), i ≤ l.length → l.length < f + i → F_ref12_at_l0 R f s c ((i : Nat) : Int) h K0 Kr = if 0 ≤ idxF (l.drop i) c i then Kr (idxF (l.drop i) c i) h else K0 h
  | 0, i, h1, h2 => by omega
  | f + 1, i, h1, h2 => by
    rw [F_ref12_at_l0_succ, r.n]
    by_cases hi : i < l.length
    · have hby := r.byte (β := β) (i := ((i : Nat) : Int)) (by omega) (by omega)
      rw [r.n] at hby
      rw [decT (by omega), condT]
      refine Eq.trans (hby _) ?_
      rw [getD_dropB hi, idxF, Int.toNat_natCast, beq_int]
      by_cases e : l.getD i 0 = c
      · rw [decT e, condT, if_pos e, if_pos (by omega)]
      · rw [decF e, condF, if_neg e, i64w (by omega)]
        exact at_loop r hm R c K0 Kr f (i + 1) (by omega) (by omega)
    · rw [decF (by omega), condF, List.drop_eq_nil_of_le (by omega)]
      rw [if_neg (by simp [idxF])]
theorem at_eqB {h : GH} {s : Sl} {l : List Int} (r : Rd h s l) (hm : l.length ≤ 1000000) {R : Nat} (hR : 4000000 < R) (c : Int) {β : Type} (K : Int → GH → Option β) : F_ref12_at R s c h K = K (idxF l c 0) h := by
  unfold F_ref12_at
  rw [F_ref12_at_gen]
  have := at_loop r hm R c (fun h10 => K (-1) h10) (fun w11 h12 => K w11 h12) R 0 (by omega) (by omega)
  rw [List.drop_zero, show ((0 : Nat) : Int) = 0 from rfl] at this
  rw [this]
  have hb := (idxF_mem l c 0).2.1
  by_cases q : 0 ≤ idxF l c 0
  · rw [if_pos q]
  · rw [if_neg q, show idxF l c 0 = -1 by omega]
/-! ### cost -/
theorem cost_loop {h : GH} {s : Sl} {N l : List Int} {g : Nat} (c : Cnt h (some ⟨g, 0, none⟩) N) (r : Rd h s l) (hl32 : l.length ≤ 32) {R : Nat} (hR : 4000000 < R) {β : Type} (K0 : Int → GH → Option β) : ∀ (f i : Nat), i ≤ 256 → 256 < f + i → 0 ≤ costTo N l i → costTo N l i ≤ 256 + 9000000 * i → F_ref12_Cost_l0 (F_ref12_at R) (F_ref12_Width R) R f s (some ⟨g, 0, none⟩) (costTo N l i) ((i : Nat) : Int) h K0 = K0 (costTo N l 256) h
  | 0, i, h1, h2, h3, h4 => by omega
  | f + 1, i, h1, h2, h3, h4 => by
    have hlen := c.len
    have hn := r.n
    rw [F_ref12_Cost_l0_succ]
    by_cases hi : i < 256
    · have hg : 0 ≤ N.getD i 0 ∧ N.getD i 0 ≤ 1000000 := by rw [List.getD_eq_getElem?_getD, List.getElem?_eq_getElem (by omega)]; exact c.pos _ (List.getElem_mem _)
      have hw := Wd_le l.length
      have hmul : 0 ≤ N.getD i 0 * (1 + ((Wd l.length : Nat) : Int)) ∧ N.getD i 0 * (1 + ((Wd l.length : Nat) : Int)) ≤ 1000000 * 6 := ⟨Int.mul_nonneg hg.1 (by omega), Int.mul_le_mul (by omega) (by omega) (by omega) (by omega)⟩
      have hst : 0 ≤ stepC N l i ∧ stepC N l i ≤ 9000000 := by
        unfold stepC; repeat' split
        all_goals omega
      have ih := cost_loop c r hl32 hR K0 f (i + 1) (by omega) (by omega) (by unfold costTo; omega) (by unfold costTo; omega)
      rw [show costTo N l (i + 1) = costTo N l i + stepC N l i from rfl] at ih
      have hcell : ∀ K : Int → Option β, exI .i64 (h.cell ⟨g, 0 + i * 1, none⟩) K = K (N.getD i 0) := fun K => by
        have := c.getN (β := β) hi K
        rwa [exA_s, Sb.within_n hi] at this
      have hcl : h.cell ⟨g, 0 + i * 1, none⟩ = some (.int .i64 (N.getD i 0)) := by
        obtain ⟨g', o', ha, hc⟩ := c.row.cell (by show 0 < 256; omega) Nat.one_pos
        cases ha
        rw [Nat.mul_one, hc i (by rw [i64s_length]; omega)]
        simp [i64s, hlen, hi, List.getD_eq_getElem?_getD]
      rw [decT (by omega), condT, hn, beq_int]
      by_cases c0 : l.length = 0
      · rw [decT (by omega), condT, exA_s, Sb.within_n hi, Int.toNat_natCast, hcell, i64w (x := 8 * N.getD i 0) (by omega)]
        rw [stepC, if_pos c0] at ih hst
        rw [i64w (by omega), i64w (by omega)]
        exact ih
      · rw [decF (by omega), condF, u8i hi, at_eqB r (by omega) hR]
        have hmem := (idxF_mem l ((i : Nat) : Int) 0).1
        by_cases cm : ((i : Nat) : Int) ∈ l
        · rw [decT (hmem.2 cm), condT, exA_s, Sb.within_n hi, Int.toNat_natCast, hcell, width_ref hR (by omega) hl32, sameAt_1, hcl, veqO_i, condT]
          rw [stepC, if_neg c0, if_pos cm] at ih hst
          rw [i64w (x := 1 + ((Wd l.length : Nat) : Int)) (by omega), i64w (x := N.getD i 0 * (1 + ((Wd l.length : Nat) : Int))) (by omega), i64w (by omega), i64w (by omega)]
          exact ih
        · rw [decF (fun q => cm (hmem.1 q)), condF, exA_s, Sb.within_n hi, Int.toNat_natCast, hcell]
          rw [stepC, if_neg c0, if_neg cm] at ih hst
          rw [i64w (x := 9 * N.getD i 0) (by omega), i64w (by omega), i64w (by omega)]
          exact ih
    · have : i = 256 := by omega
      subst this
      rw [decF (by omega), condF]
theorem cost_eq {h : GH} {s : Sl} {N l : List Int} (hN : N.length = 256) (hpos : ∀ x ∈ N, 0 ≤ x ∧ x ≤ 1000000) (r : Rd h s l) (hl32 : l.length ≤ 32) {R : Nat} (hR : 4000000 < R) : ∃ h', Keep h h' [] ∧ ∀ (β : Type) (K : Int → GH → Option β), F_ref12_Cost R (i64s N) s h K = K (costTo N l 256) h' := by
  have k0 := keep_push h (.row ⟨i64s N, 0, false⟩) []
  have c : Cnt (h.push (.row ⟨i64s N, 0, false⟩)) (some ⟨h.next, 0, none⟩) N := ⟨row_of_block look_push_new (by rw [i64s_length, hN]), hpos⟩
  refine ⟨_, k0, fun β K => ?_⟩
  unfold F_ref12_Cost
  rw [F_ref12_Cost_gen, gnew_eq (allCells_i64s N)]
  have := cost_loop c (r.keep k0 (by simp)) hl32 hR (β := β) (fun w23 h24 => K w23 h24) R 0 (by omega) (by omega) (by unfold costTo; omega) (by unfold costTo; omega)
  rw [show costTo N l 0 = 8 * ((l.length : Nat) : Int) from rfl, show ((0 : Nat) : Int) = 0 from rfl] at this
  rw [r.n, i64w (by omega)]
  exact this
/-! ### the choice, one by one -/
def bestTo (N l : List Int) : Nat → Int
  | 0 => -1
  | k + 1 => if N.getD k 0 > 0 ∧ ((k : Nat) : Int) ∉ l ∧ (bestTo N l k < 0 ∨ N.getD k 0 > N.getD (bestTo N l k).toNat 0) then ((k : Nat) : Int) else bestTo N l k
theorem bestTo_lt (N l : List Int) : ∀ k, -1 ≤ bestTo N l k ∧ bestTo N l k < ((k : Nat) : Int)
  | 0 => by simp [bestTo]
  | k + 1 => by have := bestTo_lt N l k; unfold bestTo; split <;> omega
theorem bestTo_spec (N l : List Int) (hN : N.length = 256) : ∀ k, k ≤ 256 → (bestTo N l k = -1 ∧ ∀ c : Nat, c < k → ¬ (N.getD c 0 > 0 ∧ ((c : Nat) : Int) ∉ l)) ∨ (0 ≤ bestTo N l k ∧ N.getD (bestTo N l k).toNat 0 > 0 ∧ bestTo N l k ∉ l ∧ ∀ c : Nat, c < k → N.getD c 0 > 0 → ((c : Nat) : Int) ∉ l → ((c : Nat) : Int) = bestTo N l k ∨ Sb.Lx (negL N) (bestTo N l k) ((c : Nat) : Int))
  | 0, _ => .inl ⟨rfl, fun c hc => by omega⟩
  | k + 1, hk => by
    have hlt := bestTo_lt N l k
    have ih := bestTo_spec N l hN k (by omega)
    have hky : ∀ i : Nat, i < 256 → Sb.kyK (negL N) ((i : Nat) : Int) = -(N.getD i 0) := fun i hi => by unfold Sb.kyK; rw [Int.toNat_natCast, negL_get (by omega)]
    unfold bestTo
    by_cases c1 : N.getD k 0 > 0 ∧ ((k : Nat) : Int) ∉ l ∧ (bestTo N l k < 0 ∨ N.getD k 0 > N.getD (bestTo N l k).toNat 0)
    · rw [if_pos c1]
      right
      refine ⟨by omega, by rw [Int.toNat_natCast]; exact c1.1, c1.2.1, fun c hc h1 h2 => ?_⟩
      by_cases e : c = k
      · exact .inl (by rw [e])
      · right
        have hkk := hky k (by omega)
        have hkc := hky c (by omega)
        rcases ih with ⟨_, q2⟩ | ⟨q1, q2, q3, q4⟩
        · exact absurd ⟨h1, h2⟩ (q2 c (by omega))
        · have hgt : N.getD k 0 > N.getD (bestTo N l k).toNat 0 := by omega
          have hkb := hky (bestTo N l k).toNat (by omega)
          rw [Int.toNat_of_nonneg q1] at hkb
          unfold Sb.Lx
          rcases q4 c (by omega) h1 h2 with q | q
          · rw [← q, Int.toNat_natCast] at hgt
            left; omega
          · unfold Sb.Lx at q
            left; omega
    · rw [if_neg c1]
      rcases ih with ⟨q1, q2⟩ | ⟨q1, q2, q3, q4⟩
      · left
        refine ⟨q1, fun c hc q => ?_⟩
        by_cases e : c = k
        · subst e; exact c1 ⟨q.1, q.2, .inl (by omega)⟩
        · exact q2 c (by omega) q
      · right
        refine ⟨q1, q2, q3, fun c hc h1 h2 => ?_⟩
        by_cases e : c = k
        · subst e
          have hkb := hky (bestTo N l c).toNat (by omega)
          have hkc := hky c (by omega)
          rw [Int.toNat_of_nonneg q1] at hkb
          have : ¬ N.getD c 0 > N.getD (bestTo N l c).toNat 0 := fun q => c1 ⟨h1, h2, .inr q⟩
          right
          unfold Sb.Lx
          omega
        · exact q4 c (by omega) h1 h2
theorem bestTo_next {N : List Int} (hN : N.length = 256) (i : Nat) : bestTo N ((ordZ N).take i) 256 = if i < (ordZ N).length then (ordZ N).getD i 0 else -1 := by
  have hmem : ∀ x, x ∈ ordZ N ↔ (0 ≤ x ∧ x < 256) ∧ N.getD x.toNat 0 > 0 := fun x => by rw [(ordZ_spec N).1.mem_iff, ascB_mem]; omega
  have hsp := bestTo_spec N ((ordZ N).take i) hN 256 (by omega)
  have hlt := bestTo_lt N ((ordZ N).take i) 256
  generalize bestTo N ((ordZ N).take i) 256 = bb at hsp hlt ⊢
  by_cases c : i < (ordZ N).length
  · rw [if_pos c]
    have hz : (ordZ N).getD i 0 ∈ ordZ N := by rw [List.getD_eq_getElem?_getD, List.getElem?_eq_getElem c]; exact List.getElem_mem c
    have hzz := (hmem _).1 hz
    have hdrop := getD_dropB c
    have happ := List.take_append_drop i (ordZ N)
    have hnd := ordZ_nodup N
    rw [← happ, hdrop] at hnd
    have hnd' := List.nodup_append.1 hnd
    have hnot : (ordZ N).getD i 0 ∉ (ordZ N).take i := fun q => hnd'.2.2 _ q _ List.mem_cons_self rfl
    have hnat : (((ordZ N).getD i 0).toNat : Int) = (ordZ N).getD i 0 := by omega
    rcases hsp with ⟨q1, q2⟩ | ⟨q1, q2, q3, q4⟩
    · exact absurd ⟨hzz.2, by rw [hnat]; exact hnot⟩ (q2 ((ordZ N).getD i 0).toNat (by omega))
    · rcases q4 ((ordZ N).getD i 0).toNat (by omega) hzz.2 (by rw [hnat]; exact hnot) with q | q
      · rw [hnat] at q; exact q.symm
      · rw [hnat] at q
        have hb : bb ∈ ordZ N := (hmem _).2 ⟨by omega, q2⟩
        rw [← happ] at hb
        rcases List.mem_append.1 hb with hb | hb
        · exact absurd hb q3
        · rw [hdrop] at hb
          rcases List.mem_cons.1 hb with hb | hb
          · exact hb
          · have hs := (ordZ_spec N).2
            rw [← happ, hdrop] at hs
            have := (List.pairwise_cons.1 (List.pairwise_append.1 hs).2.1).1 _ hb
            exact absurd q (Lx_asymm this)
  · rw [if_neg c]
    rcases hsp with ⟨q1, _⟩ | ⟨q1, q2, q3, _⟩
    · exact q1
    · exfalso
      have hb : bb ∈ ordZ N := (hmem _).2 ⟨by omega, q2⟩
      rw [List.take_of_length_le (by omega)] at q3
      exact q3 hb
theorem one_l1 {h : GH} {a : Option Addr} {s : Sl} {N l : List Int} (c : Cnt h a N) (r : Rd h s l) (hl : l.length ≤ 1000000) {R : Nat} (hR : 4000000 < R) (y : Int) {β : Type} (F1 : Sl → Int → GH → (List Value → GH → Option β) → Option β) (F3 : List Value → Sl → GH → (Int → GH → Option β) → Option β) (K2 : Option Addr → Sl → Int → Int → GH → Option β) : ∀ (f k : Nat), k ≤ 256 → 256 < f + k → F_ref12_One_l1 F1 (F_ref12_at R) F3 R f a s y (bestTo N l k) ((k : Nat) : Int) h K2 = K2 a s y (bestTo N l 256) h
  | 0, k, h1, h2 => by omega
  | f + 1, k, h1, h2 => by
    have hb := bestTo_lt N l k
    rw [F_ref12_One_l1_succ]
    by_cases hk : k < 256
    · have ih := one_l1 c r hl hR y F1 F3 K2 f (k + 1) (by omega) (by omega)
      have hmem := (idxF_mem l ((k : Nat) : Int) 0).1
      have ek : IntKind.wrap .i64 (((k : Nat) : Int) + 1) = ((k + 1 : Nat) : Int) := by rw [i64w (by omega)]; rfl
      rw [decT (by omega), condT, c.get (by omega) (by omega), Int.toNat_natCast]
      rw [show bestTo N l (k + 1) = if N.getD k 0 > 0 ∧ ((k : Nat) : Int) ∉ l ∧ (bestTo N l k < 0 ∨ N.getD k 0 > N.getD (bestTo N l k).toNat 0) then ((k : Nat) : Int) else bestTo N l k from rfl] at ih
      by_cases c1 : N.getD k 0 > 0
      · rw [decT c1, condT, u8i hk, at_eqB r hl hR]
        by_cases c2 : ((k : Nat) : Int) ∈ l
        · rw [decF (by have := hmem.2 c2; omega), condF, ek]
          rw [if_neg (fun q => q.2.1 c2)] at ih
          exact ih
        · rw [decT (show idxF l ((k : Nat) : Int) 0 < 0 from Int.not_le.1 (fun q => c2 (hmem.1 q))), condT]
          by_cases c3 : bestTo N l k < 0
          · rw [decT c3, condT, ek]
            rw [if_pos ⟨c1, c2, .inl c3⟩] at ih
            exact ih
          · rw [decF c3, condF, c.getN hk, c.get (by omega) (by omega)]
            by_cases c4 : N.getD k 0 > N.getD (bestTo N l k).toNat 0
            · rw [decT c4, condT, ek]
              rw [if_pos ⟨c1, c2, .inr c4⟩] at ih
              exact ih
            · rw [decF c4, condF, ek]
              rw [if_neg (by rintro ⟨_, _, q | q⟩; exact c3 q; exact c4 q)] at ih
              exact ih
      · rw [decF c1, condF, ek]
        rw [if_neg (fun q => c1 q.1)] at ih
        exact ih
    · have : k = 256 := by omega
      subst this
      rw [decF (by omega), condF]
theorem one_l0 {a : Option Addr} {N : List Int} {R : Nat} (hR : 4000000 < R) : ∀ (f i : Nat) {h : GH} {s : Sl}, i ≤ 32 → 32 < f + i → Cnt h a N → Bv h s ((ordZ N).take i) → (∀ x ∈ rowsOf s, x ∉ rowsOf ⟨a, 256, 256⟩) →
    ∃ h' q, Bv h' q ((ordZ N).take 32) ∧ Keep h h' (rowsOf s) ∧ (∀ k ∈ rowsOf q, k ∈ rowsOf s ∨ h.next ≤ k) ∧ ∀ (β : Type) (F1 : Sl → Int → GH → (List Value → GH → Option β) → Option β) (F3 : List Value → Sl → GH → (Int → GH → Option β) → Option β) (K0 : Option Addr → Sl → GH → Option β), F_ref12_One_l0 F1 (F_ref12_at R) F3 R f a s ((i : Nat) : Int) h K0 = K0 a q h' := by
  intro f
  induction f with
  | zero => intro i h s h1 h2; omega
  | succ f ih =>
    intro i h s h1 h2 c v hd
    by_cases hi : i < 32
    · have hl : ((ordZ N).take i).length ≤ 1000000 := by simp; omega
      have hnx := bestTo_next c.len i
      have inner : ∀ (β : Type) (F1 : Sl → Int → GH → (List Value → GH → Option β) → Option β) (F3 : List Value → Sl → GH → (Int → GH → Option β) → Option β) (K2 : Option Addr → Sl → Int → Int → GH → Option β), F_ref12_One_l1 F1 (F_ref12_at R) F3 R R a s ((i : Nat) : Int) (-1) 0 h K2 = K2 a s ((i : Nat) : Int) (bestTo N ((ordZ N).take i) 256) h := fun β F1 F3 K2 => by
        have := one_l1 c v.row hl hR ((i : Nat) : Int) F1 F3 K2 R 0 (by omega) (by omega)
        rw [show bestTo N ((ordZ N).take i) 0 = -1 from rfl, show ((0 : Nat) : Int) = 0 from rfl] at this
        exact this
      by_cases c1 : i < (ordZ N).length
      · rw [if_pos c1] at hnx
        have hz := ordZ_mem (N := N) (x := (ordZ N).getD i 0) (by rw [List.getD_eq_getElem?_getD, List.getElem?_eq_getElem c1]; exact List.getElem_mem c1)
        obtain ⟨h3, s3, e3, v3, k3, n3⟩ := app_byteB v ((ordZ N).getD i 0) hl
        rw [← take_snocI c1] at v3
        have lt := c.row.lt
        obtain ⟨h4, q, v4, k4, n4, e4⟩ := ih (i + 1) (by omega) (by omega) (c.keep k3 (fun x hx hm => hd x hm hx)) v3 (fun x hx hm => by
          rcases n3 x hx with q1 | q1
          · exact hd x q1 hm
          · have := lt x hm; omega)
        refine ⟨h4, q, v4, k3.trans k4 (fun x hx => n3 x hx), fun x hx => ?_, fun β F1 F3 K0 => ?_⟩
        · rcases n4 x hx with q1 | q1
          · exact n3 x q1
          · have := k3.1; exact .inr (by omega)
        · rw [F_ref12_One_l0_succ, decT (by omega), condT]
          refine Eq.trans (inner β F1 F3 _) ?_
          rw [hnx, decT (show (ordZ N).getD i 0 ≥ 0 by omega), condT, show IntKind.wrap .u8 ((ordZ N).getD i 0) = (ordZ N).getD i 0 from IntWalk.u8_in _ (by omega)]
          refine Eq.trans (e3 β _) ?_
          rw [i64w (by omega)]
          exact e4 β F1 F3 K0
      · rw [if_neg c1] at hnx
        obtain ⟨h4, q, v4, k4, n4, e4⟩ := ih (i + 1) (by omega) (by omega) c (by rw [List.take_of_length_le (by omega)] at v ⊢; exact v) hd
        refine ⟨h4, q, v4, k4, n4, fun β F1 F3 K0 => ?_⟩
        rw [F_ref12_One_l0_succ, decT (by omega), condT]
        refine Eq.trans (inner β F1 F3 _) ?_
        rw [hnx, decF (by omega), condF, i64w (by omega)]
        exact e4 β F1 F3 K0
    · have : i = 32 := by omega
      subst this
      refine ⟨h, s, v, .refl _ _, fun x hx => .inl hx, fun β F1 F3 K0 => ?_⟩
      rw [F_ref12_One_l0_succ, decF (by omega), condF]
end Go.Proofs.Ytdmemmpkkibckaa.Gx

