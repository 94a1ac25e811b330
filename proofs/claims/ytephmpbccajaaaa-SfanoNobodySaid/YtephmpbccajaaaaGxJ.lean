/- The plain machine and the model: appends, copies. No condition. -/
import Derived.Test.YtephmpbccajaaaaGxI
import Derived.Laws.OwnMore
namespace Go.Proofs.Ytephmpbccajaaaa.Gx
open Go Go.RowKit
set_option linter.unusedVariables false
set_option linter.unusedSimpArgs false
variable {P : Program} {β : Type} {r : β}

theorem slCells_some {s : Sl} {z : Nat} {h : GH} {K : List Value → Option β} (hh : slCells s z h K = some r) :
    ∃ vs, K vs = some r ∧ ((s.a = none ∧ s.n = 0 ∧ vs = []) ∨ ∃ g o, s.a = some ⟨g, o, none⟩ ∧ o + s.n * z ≤ (rowCells (h.look g)).length ∧ vs = ((rowCells (h.look g)).drop o).take (s.n * z)) := by
  unfold slCells at hh
  split at hh
  · rename_i ha
    have h1 := (cond_none hh).1
    replace hh := (cond_none hh).2
    exact ⟨[], hh, .inl ⟨ha, Nat.eq_of_beq_eq_true h1, rfl⟩⟩
  · rename_i a ha
    obtain ⟨g, o, he, hh⟩ := exA_some hh
    split at hh
    · rename_i vs hv
      obtain ⟨h1, h2⟩ := nsub_some hv
      exact ⟨vs, hh, .inr ⟨g, o, he, h1, h2⟩⟩
    · cases hh
theorem rowCells_look {h : GH} {g : Nat} (hne : (rowCells (h.look g)) ≠ []) : ∃ b, g < h.next ∧ h.get g = some (.row b) ∧ rowCells (h.look g) = b.cells := by
  unfold rowCells at *
  split at hne
  · rename_i b hb
    obtain ⟨h1, h2⟩ := look_get hb
    exact ⟨b, h1, h2, by simp [hb]⟩
  · exact (hne rfl).elim
/-- the cells that a slice holds, in the model -/
theorem slRun {ι : Inj} {h : GH} {w : World} (hr : HR ι h w) {s : Sl} {z : Nat} (hz : 0 < z) {vs : List Value} (hvs : (s.a = none ∧ s.n = 0 ∧ vs = []) ∨ ∃ g o, s.a = some ⟨g, o, none⟩ ∧ o + s.n * z ≤ (rowCells (h.look g)).length ∧ vs = ((rowCells (h.look g)).drop o).take (s.n * z))
    {q : Option Addr} {c' : Nat} (hv : VR ι (.slice s.a s.n s.c) (.slice q s.n c')) :
    ∃ rs : List Value, All2 (VR ι) vs rs ∧ rs.length = s.n * z ∧ (∀ qa, q = some qa → ∀ j u, rs[j]? = some u → w.cell? (qa.add j) = some u) ∧ (q = none → s.n = 0) := by
  rcases hvs with ⟨h1, h2, h3⟩ | ⟨g, o, h1, h2, h3⟩
  · subst h3
    rw [h2]
    exact ⟨[], .nil, by simp, fun _ _ j u h => by simp at h, fun _ => rfl⟩
  · rw [h1] at hv
    by_cases hn : s.n = 0
    · rw [hn] at h3 ⊢
      simp at h3
      subst h3
      exact ⟨[], .nil, by simp, fun _ _ j u h => by simp at h, fun _ => rfl⟩
    · have hpos : 0 < s.n * z := Nat.mul_pos (Nat.pos_of_ne_zero hn) hz
      obtain ⟨b, hg, hb, hbc⟩ := rowCells_look (h := h) (g := g) (fun e => by rw [e] at h2; simp at h2; omega)
      rw [hbc] at h2 h3
      rcases hv.someS with ⟨p, c2, hp, he, _, _⟩ | ⟨hd, _⟩ | ⟨hn', _⟩
      · cases he
        obtain ⟨rs, e1, e2, e3⟩ := loads_run (row_at hr hg hp hb) h2
        subst h3
        refine ⟨rs, e2, e1, fun qa hqa j u hj => ?_, fun h => by cases h⟩
        cases hqa
        rw [add_none]
        exact e3 j u hj
      · rw [hr.dead g hg hd] at hb; cases hb
      · exact (hn hn').elim
theorem firstCells_run {q : Option Addr} {n z c' : Nat} {rs : List Value} {w : World} (hl : rs.length = n * z) (hc : ∀ qa, q = some qa → ∀ j u, rs[j]? = some u → w.cell? (qa.add j) = some u) (h0 : q = none → n = 0) :
    (Builtin.firstCells z n (.slice q n c')).run P w = .ok rs.toArray w := by
  cases q with
  | none => have := h0 rfl; subst this; have : rs = [] := List.length_eq_zero_iff.1 (by simpa using hl); subst this; exact run_firstCells_none w z 0 0 c'
  | some qa => exact run_firstCells_some w z n qa n c' rs hl (hc qa rfl)
theorem zero_run {e : TypeId} {zv : Value} (h : zeroT P e = some zv) (w : World) : (zeroValue e).run P w = .ok zv w := by
  obtain ⟨i, hi, hz⟩ := zero_of h
  simp [zeroValue, typeInfo, hi, hz]
theorem bytes_of {e : TypeId} {b : Nat} (h : bytesT P e = some b) : ∃ i, P.info? e = some i ∧ i.bytes = b := by
  unfold bytesT at h
  cases hi : P.info? e with
  | none => simp [hi] at h
  | some i => exact ⟨i, rfl, by simpa [hi] using h⟩

/-- an append within what the slice holds, in the model -/
theorem append_room {t ty e : TypeId} {z : Nat} {w : World} (hu : P.underlying t = some (.slice e)) (hz : sizeT P e = some z) {a : Addr} {n c m cx : Nat} {qx : Option Addr} {rn : List Value}
    (hl : rn.length = m * z) (hc : ∀ qa, qx = some qa → ∀ j u, rn[j]? = some u → w.cell? (qa.add j) = some u) (h0 : qx = none → m = 0) (hroom : n + m ≤ c) {w' : World}
    (hst : (storeCells (a.add (n * z)) rn).run P w = .ok () w') :
    (Builtin.append_ #[t, t] ty #[.slice (some a) n c, .slice qx m cx]).run P w = .ok (.slice (some a) (n + m) c) w' := by
  have hf := firstCells_run (P := P) (c' := cx) hl hc h0
  simp [Builtin.append_, run_underlying hu, sizeOf_run hz, Builtin.lenOf, hroom, hf, hst]
/-- an append that makes a new block, in the model -/
theorem append_new {t ty e : TypeId} {z by_ : Nat} {zv : Value} {w : World} (hu : P.underlying t = some (.slice e)) (hz : sizeT P e = some z) (hb : bytesT P e = some by_) (hzv : zeroT P e = some zv)
    {q : Option Addr} {n c m cx : Nat} {qx : Option Addr} {ro rn : List Value}
    (hlo : ro.length = n * z) (hco : ∀ qa, q = some qa → ∀ j u, ro[j]? = some u → w.cell? (qa.add j) = some u) (h0o : q = none → n = 0)
    (hl : rn.length = m * z) (hc : ∀ qa, qx = some qa → ∀ j u, rn[j]? = some u → w.cell? (qa.add j) = some u) (h0 : qx = none → m = 0) (hg : c < n + m) (hmost : (n + m) * (by_ + 1) ≤ most) :
    (Builtin.append_ #[t, t] ty #[.slice q n c, .slice qx m cx]).run P w =
      .ok (.slice (some ⟨w.heap.size, 0, none⟩) (n + m) (grownCap w (n + m) c e)) ((w.drewN 1).alloc (.cells (ro.toArray ++ rn.toArray ++ Builtin.zeroCells zv.cells (grownCap w (n + m) c e - (n + m))) e)) := by
  obtain ⟨i, hi, hib⟩ := bytes_of hb
  have hm1 : n + m ≤ 1099511627776 := by
    have : (n + m) * 1 ≤ (n + m) * (by_ + 1) := Nat.mul_le_mul_left _ (by omega)
    simp only [most] at hmost; omega
  have hm2 : (n + m) * i.bytes ≤ 140737488355328 := by
    have : (n + m) * by_ ≤ (n + m) * (by_ + 1) := Nat.mul_le_mul_left _ (by omega)
    rw [hib]; simp only [most] at hmost; omega
  have hn : ¬ (n + m ≤ c) := by omega
  have h63' : ¬ (9223372036854775807 < ((n : Int) + (m : Int))) := by omega
  have h48' : ¬ (281474976710656 < Builtin.nextslicecap (n + m) c * i.bytes) := Nat.not_lt.2 (growslice_fits hg hm2)
  have hf := firstCells_run (P := P) (w := w.drew) (c' := cx) hl (fun qa h j u hj => hc qa h j u hj) h0
  have hfo := firstCells_run (P := P) (w := w.drew) (c' := c) hlo (fun qa h j u hj => hco qa h j u hj) h0o
  simp only [Builtin.append_, run_underlying hu, sizeOf_run hz]
  simp [run_underlying hu, sizeOf_run hz, zero_run hzv, typeInfo, hi, Builtin.lenOf, hn, h63', h48', Question.forced, hf, hfo, newRow, grownCap]
  show w.drew.alloc _ = w.drew.alloc _
  congr 2
  apply Array.ext'
  simp [List.append_assoc]
theorem VR.capLe {ι : Inj} {a q : Option Addr} {n c c' : Nat} (h : VR ι (.slice a n c) (.slice q n c')) : c ≤ c' := by
  cases h with
  | same => exact Nat.le_refl _
  | sl _ _ _ _ _ p _ hc _ => rcases hc with rfl | ⟨_, h, _⟩ <;> omega
  | slE => exact Nat.zero_le _
  | slD _ _ _ _ _ _ h => exact h
theorem zeroCells_size (z : Array Value) (n : Nat) : (Builtin.zeroCells z n).size = n * z.size := by simp [Builtin.zeroCells]
theorem Stp.next_le {h h' : GH} {ι ι' : Inj} {w w' : World} (s : Stp h ι w h' ι' w') : h.next ≤ h'.next := s.next

/-- APPEND. -/
theorem gappS_sim {t ty e : TypeId} {z by_ : Nat} {zv : Value} (hu : P.underlying t = some (.slice e)) (hz : sizeT P e = some z) (hb : bytesT P e = some by_) (hzv : zeroT P e = some zv) (hzl : (vcells zv).length = z) (hz0 : 0 < z)
    {s x : Sl} {h : GH} {K : Sl → GH → Option β} (hh : gappS z by_ s x h K = some r) :
    ∃ s' h', K s' h' = some r ∧ h.next ≤ h'.next ∧ ∀ ι w rs rx, Good ι h h'.next w → VR ι (.slice s.a s.n s.c) rs → VR ι (.slice x.a x.n x.c) rx →
      ∃ rv ι' w', (Builtin.append_ #[t, t] ty #[rs, rx]).run P w = .ok rv w' ∧ Stp h ι w h' ι' w' ∧ VR ι' (.slice s'.a s'.n s'.c) rv := by
  unfold gappS at hh
  obtain ⟨news, hh, hnews⟩ := slCells_some hh
  have hzc : zv.cells.size = z := by have := cells_eq zv; rw [← hzl, ← this]; simp
  unfold gapp at hh
  cases hroom : Nat.ble (s.n + x.n) s.c with
  | true =>
    rw [hroom] at hh
    simp only [cond_true] at hh
    have hr1 := Nat.le_of_ble_eq_true hroom
    cases hm : Nat.beq x.n 0 with
    | true =>
      -- nothing is appended
      rw [hm] at hh
      simp only [cond_true] at hh
      have hm0 := Nat.eq_of_beq_eq_true hm
      refine ⟨s, h, hh, Nat.le_refl _, fun ι w rs rx gd hs hx => ?_⟩
      obtain ⟨qx, cx, hqx, _⟩ := hx.slice
      obtain ⟨q, c', hq, _⟩ := hs.slice
      subst hqx; subst hq
      obtain ⟨rn, a1, a2, a3, a4⟩ := slRun gd.hr hz0 hnews hx
      have hrn : rn = [] := List.length_eq_zero_iff.1 (by rw [a2, hm0]; simp)
      subst hrn
      have hcc : s.c ≤ c' := hs.capLe
      refine ⟨.slice q s.n c', ι, w, ?_, Stp.refl gd.hr, hs⟩
      have hf := firstCells_run (P := P) (c' := cx) a2 a3 a4
      rw [hm0] at hf ⊢
      have hle : s.n + 0 ≤ c' := by omega
      simp [Builtin.append_, run_underlying hu, sizeOf_run hz, Builtin.lenOf, hf, show s.n ≤ c' by omega]
      cases q <;> simp [storeCells]
    | false =>
      rw [hm] at hh
      simp only [cond_false] at hh
      have hm0 : x.n ≠ 0 := fun e => by rw [e] at hm; cases hm
      obtain ⟨g, o, ha, h2⟩ := exA_some hh
      obtain ⟨b, hg, hgb, hro, hall, hle, hk⟩ := gput_some h2
      refine ⟨_, _, hk, Nat.le_refl _, fun ι w rs rx gd hs hx => ?_⟩
      obtain ⟨qx, cx, hqx, _⟩ := hx.slice
      subst hqx
      obtain ⟨rn, a1, a2, a3, a4⟩ := slRun gd.hr hz0 hnews hx
      rw [ha] at hs
      rcases hs.someS with ⟨p, c', hp, he, hc, hnc⟩ | ⟨hd, _⟩ | ⟨hn', hc', _⟩
      · subst he
        have hst := store_run (P := P) gd.hr hg hgb hro hall hle a1 hp
        have hstp := put_stp gd.hr hg hp hgb hro (o + s.n * z) news rn hle a1
        have hcc : s.c ≤ c' := by rcases hc with rfl | ⟨_, h, _⟩ <;> omega
        refine ⟨_, ι, _, append_room hu hz a2 a3 a4 (by omega) (by rw [add_none, Nat.add_assoc]; exact hst), hstp, ?_⟩
        show VR ι (.slice s.a (s.n + x.n) s.c) _
        rw [ha]
        exact .sl g o _ _ _ p hp hc hr1
      · rw [gd.hr.dead g hg hd] at hgb; cases hgb
      · omega
  | false =>
    rw [hroom] at hh
    simp only [cond_false] at hh
    have hr1 : s.c < s.n + x.n := by
      rcases Nat.lt_or_ge s.c (s.n + x.n) with h | h
      · exact h
      · rw [Nat.ble_eq_true_of_le h] at hroom; cases hroom
    have hmost := Nat.le_of_ble_eq_true (cond_none hh).1
    replace hh := (cond_none hh).2
    obtain ⟨olds, hh, holds⟩ := slCells_some hh
    -- a new block
    have key : ∀ ι w q c' rx, HR ι h w → VR ι (.slice s.a s.n s.c) (.slice q s.n c') → VR ι (.slice x.a x.n x.c) rx → c' < s.n + x.n → ∀ (h1 : GH) (ι1 : Inj), Stp h ι w h1 ι1 w → Le ι ι1 → h1.next = h.next → ι1 h.next = .unborn →
        ∃ rv ι' w', (Builtin.append_ #[t, t] ty #[.slice q s.n c', rx]).run P w = .ok rv w' ∧ Stp h ι w (h1.push (.row ⟨olds ++ news, z, false⟩)) ι' w' ∧ VR ι' (.slice (some ⟨h.next, 0, none⟩) (s.n + x.n) (s.n + x.n)) rv := by
      intro ι w q c' rx hr hs hx hlt h1 ι1 st hle hnx hun
      obtain ⟨qx, cx, hqx, _⟩ := hx.slice
      subst hqx
      obtain ⟨rn, a1, a2, a3, a4⟩ := slRun hr hz0 hnews hx
      obtain ⟨ro, b1, b2, b3, b4⟩ := slRun hr hz0 holds hs
      have hall : All2 (VR ι1) (olds ++ news) (ro ++ rn) := (b1.append a1).mono fun _ _ h => h.mono hle
      have hlen := hall.length
      have hge := grownCap_ge w (s.n + x.n) c' e
      have gd1 : Good ι1 h1 (h1.next + 1) w := by
        refine ⟨st.hr, fun g hg1 hg2 => ?_⟩
        have : g = h.next := by omega
        subst this
        exact hun
      have hnew := new_stp gd1 1 (ro.toArray ++ rn.toArray ++ Builtin.zeroCells zv.cells (grownCap w (s.n + x.n) c' e - (s.n + x.n))) e (olds ++ news) z
        (by rw [hlen]; simp) (fun i v hv => by
          obtain ⟨rv, e1, e2⟩ := hall.get hv
          refine ⟨rv, ?_, e2⟩
          rw [nth_eq] at e1
          have := (List.getElem?_eq_some_iff.1 e1).1
          simp at this
          rw [Array.getElem?_append_left (by simpa using this)]
          simpa using e1)
      refine ⟨_, _, _, append_new hu hz hb hzv b2 b3 b4 a2 a3 a4 hlt hmost, st.trans hnew, ?_⟩
      rw [hnx]
      refine .sl h.next 0 _ _ _ _ (upd_same _ _ _) (.inr ⟨hz0, hge, fun _ => ?_⟩) (Nat.le_refl _)
      show 0 + grownCap w (s.n + x.n) c' e * z ≤ _
      simp only [Array.size_append, List.size_toArray, zeroCells_size, hzc, b2, a2]
      rw [← Nat.add_mul, ← Nat.add_mul]
      have e1 : s.n + x.n + (grownCap w (s.n + x.n) c' e - (s.n + x.n)) = grownCap w (s.n + x.n) c' e := by omega
      rw [e1]
      omega
    split at hh
    · rename_i ha
      have hc0 := Nat.eq_of_beq_eq_true (cond_none hh).1
      replace hh := (cond_none hh).2
      obtain ⟨hall, hk⟩ := gnew_some hh
      refine ⟨_, _, hk, Nat.le_succ _, fun ι w rs rx gd hs hx => ?_⟩
      have hs' := hs
      rw [ha] at hs'
      have := hs'.nilS
      subst this
      exact key ι w none s.c rx gd.hr hs hx hr1 h ι (Stp.refl gd.hr) (Le.refl ι) rfl (gd.free _ (Nat.le_refl _) (Nat.lt_succ_self _))
    · rename_i a0 ha0
      obtain ⟨g, o, ha, h2⟩ := exA_some hh
      clear hh
      split at h2
      · rename_i b hlk
        obtain ⟨hg, hgb⟩ := look_get hlk
        have hce := (cond_none' h2).1
        replace h2 := (cond_none' h2).2
        cases hesz : Nat.beq b.esz 0 with
        | true =>
          rw [hesz] at h2
          simp only [cond_true] at h2
          obtain ⟨hall, hk⟩ := gnew_some h2
          refine ⟨_, _, hk, Nat.le_succ _, fun ι w rs rx gd hs hx => ?_⟩
          have hs' := hs
          rw [ha] at hs'
          rcases hs'.someS with ⟨p, c', hp, he, hc, hnc⟩ | ⟨hd, _⟩ | ⟨hn', hc', ho, _⟩
          · have ok := row_at gd.hr hg hp hgb
            have : c' = s.c := by
              rcases hc with h | ⟨h, _⟩
              · exact h
              · rw [← ok.esz, Nat.eq_of_beq_eq_true hesz] at h; omega
            subst this
            subst he
            exact key ι w _ s.c rx gd.hr hs hx hr1 h ι (Stp.refl gd.hr) (Le.refl ι) rfl (gd.free _ (Nat.le_refl _) (Nat.lt_succ_self _))
          · rw [gd.hr.dead g hg hd] at hgb; cases hgb
          · rw [hc', beq_ne ho] at hce; simp at hce
        | false =>
          rw [hesz] at h2
          simp only [cond_false] at h2
          have hcond := (cond_none' h2).1
          replace h2 := (cond_none' h2).2
          obtain ⟨hall, hk⟩ := gnew_some h2
          have hcd : b.ro = false ∧ Nat.beq b.esz z = true ∧ Nat.beq o 0 = true := by
            revert hcond; cases b.ro <;> cases Nat.beq b.esz z <;> cases Nat.beq o 0 <;> decide
          obtain ⟨hro, hez, ho0⟩ := hcd
          have hez := Nat.eq_of_beq_eq_true hez
          have ho0 := Nat.eq_of_beq_eq_true ho0
          subst ho0
          refine ⟨_, _, hk, Nat.le_succ _, fun ι w rs rx gd hs hx => ?_⟩
          have hs' := hs
          rw [ha] at hs'
          have hun : ι h.next = .unborn := gd.free _ (Nat.le_refl _) (Nat.lt_succ_self _)
          rcases hs'.someS with ⟨p, c', hp, he, hc, hnc⟩ | ⟨hd, _⟩ | ⟨hn', hc', ho, _⟩
          · subst he
            have ok := row_at gd.hr hg hp hgb
            have hpro : p.ro = false := ok.ro ▸ hro
            by_cases hfit : s.n + x.n ≤ c'
            · -- it fits where it lies
              obtain ⟨qx, cx, hqx, _⟩ := hx.slice
              subst hqx
              obtain ⟨rn, a1, a2, a3, a4⟩ := slRun gd.hr hz0 hnews hx
              have htail : 0 < p.esz ∧ p.off + c' * p.esz ≤ p.ext := by
                rcases hc with h | ⟨h1, _, h3⟩
                · omega
                · exact ⟨h1, h3 rfl⟩
              have hpez : p.esz = z := by rw [← ok.esz, hez]
              rw [hpez] at htail
              have hmul : (s.n + x.n) * z ≤ c' * z := Nat.mul_le_mul_right _ hfit
              rw [Nat.add_mul] at hmul
              rcases holds with ⟨h1, _⟩ | ⟨g', o', h1, h2', h3⟩
              · rw [ha] at h1; cases h1
              · rw [ha] at h1; cases h1
                rw [hlk] at h2' h3
                simp only [rowCells, Nat.zero_add, List.drop_zero] at h2' h3
                have hnl := a1.length
                by_cases hne : news = []
                · subst hne
                  simp at hnl
                  have : x.n * z = 0 := by rw [← a2]; simp [← hnl]
                  have : x.n = 0 := by rcases Nat.mul_eq_zero.1 this with h | h <;> omega
                  omega
                · have hgr := grow_stp (by exact gd) hg hp hgb hro (s.n * z) olds news rn h2' h3 a1 (by rw [hnl, a2]; omega) hne
                  rw [hez] at hgr
                  have hst := run_storeCells_cells (P := P) p.blk (p.off + s.n * z) rn 0 w (fun j hj => (ok.room hpro).2 _ (by omega) (by omega)) (fun j hj => (ok.room hpro).1.cell ((ok.room hpro).2 _ (by omega) (by omega)))
                    (a1.one (by
                      have : ∀ (l m : List Value), allCells (l ++ m) = true → allCells m = true := fun l m => by
                        induction l with
                        | nil => exact fun h => h
                        | cons v l ih => intro h; simp only [List.cons_append, allCells, Bool.and_eq_true] at h; exact ih h.2
                      exact this olds news hall))
                  refine ⟨_, _, _, append_room hu hz a2 a3 a4 hfit (by rw [add_none]; exact hst), hgr, ?_⟩
                  have := VR.sl (ι := upd (upd ι g .dead) h.next (.live ⟨p.blk, p.off, olds.length + news.length, p.ext, z, false⟩)) h.next 0 (s.n + x.n) (s.n + x.n) c' ⟨p.blk, p.off, olds.length + news.length, p.ext, z, false⟩ (upd_same _ _ _) (.inr ⟨hz0, hfit, fun _ => htail.2⟩) (Nat.le_refl _)
                  exact this
            · -- a new block; the elder one is no more
              refine key ι w _ c' rx gd.hr hs hx (by omega) (h.put g none) (upd ι g .dead) (kill_stp gd.hr hg hp hpro) (Le.kill ι g) rfl ?_
              rw [upd_ne _ _ (by omega)]
              exact hun
          · rw [gd.hr.dead g hg hd] at hgb; cases hgb
          · exact (ho rfl).elim
      · cases h2
end Go.Proofs.Ytephmpbccajaaaa.Gx

