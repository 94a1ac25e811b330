/- The plain machine and the model: texts and rows of bytes made out of each other. No condition. -/
import Derived.Test.YtephmpbccajaaaaGxKa
import Derived.Laws.IdiomStrings
namespace Go.Proofs.Ytephmpbccajaaaa.Gx
open Go Go.RowKit
set_option linter.unusedVariables false
set_option linter.unusedSimpArgs false
variable {P : Program} {β : Type} {r : β}
theorem exBs_some : ∀ {vs : List Value} {K : List Int → Option β}, exBs vs K = some r → ∃ xs : List Int, vs = xs.map (.int .u8) ∧ K xs = some r
  | [], K, h => ⟨[], rfl, h⟩
  | v :: vs, K, h => by
    cases v with
    | int k n =>
      cases k <;> first | (cases h; done) | skip
      obtain ⟨xs, h1, h2⟩ := exBs_some (vs := vs) (K := fun l => K (n :: l)) h
      exact ⟨n :: xs, by rw [h1]; rfl, h2⟩
    | _ => cases h
theorem u8_rel {ι : Inj} : ∀ {xs : List Int} {rs : List Value}, All2 (VR ι) (xs.map (.int .u8)) rs → rs = xs.map (.int .u8)
  | [], rs, h => by cases h; rfl
  | x :: xs, rs, h => by
    cases h with
    | cons h t => rw [h.int, u8_rel t]; rfl
theorem of_blt' {a b : Nat} (h : Nat.blt a b = true) : a < b := by rw [Nat.blt_eq] at h; exact h
/-- a block marked behind its end -/
def froze (w : World) (b : Nat) : World := { w with heap := w.heap.modify b fun | .cells c elem (lo, hi) => .cells c elem (if lo == hi then (c.size, c.size + 1) else (min lo c.size, max hi (c.size + 1))) | o => o }
theorem froze_heap (w : World) (b k : Nat) : (froze w b).heap[k]? = if b = k then (w.heap[k]?).map (fun | .cells c elem (lo, hi) => .cells c elem (if lo == hi then (c.size, c.size + 1) else (min lo c.size, max hi (c.size + 1))) | o => o) else w.heap[k]? := by
  show (w.heap.modify b _)[k]? = _
  rw [Array.getElem?_modify]
theorem froze_cell (w : World) (b k i : Nat) : (froze w b).cell? ⟨k, i, none⟩ = w.cell? ⟨k, i, none⟩ := by
  by_cases hb : b = k
  · subst hb
    simp only [World.cell?, froze_heap, if_true]
    cases w.heap[b]? with
    | none => rfl
    | some o => cases o <;> rfl
  · simp only [World.cell?, froze_heap, if_neg hb]
theorem froze_fz {w : World} {b k : Nat} (h : FzOk w k) : FzOk (froze w b) k := by
  obtain ⟨c, e, lo, hi, h1, h2⟩ := h
  by_cases hb : b = k
  · subst hb
    by_cases hl : lo = hi
    · subst hl
      exact ⟨c, e, c.size, c.size + 1, by rw [froze_heap, if_pos rfl, h1]; simp, .inr (Nat.le_refl _)⟩
    · have hlb : (lo == hi) = false := by simpa using hl
      have h3 : c.size ≤ lo := h2.resolve_left hl
      exact ⟨c, e, min lo c.size, max hi (c.size + 1), by rw [froze_heap, if_pos rfl, h1]; simp [hl], .inr (by omega)⟩
  · exact ⟨c, e, lo, hi, by rw [froze_heap, if_neg hb]; exact h1, h2⟩
theorem froze_map {w : World} {b k : Nat} {ents : Array MapEntry} {c : Nat} (h : w.heap[k]? = some (.map ents c)) : (froze w b).heap[k]? = some (.map ents c) := by
  rw [froze_heap]; split
  · rw [h]; rfl
  · exact h
theorem froze_stp {ι : Inj} {h : GH} {w : World} (hr : HR ι h w) {g : Nat} {p : Pl} {b : Blk} (hg : g < h.next) (hp : ι g = .live p) (hb : h.get g = some (.row b)) (hro : b.ro = false) (hne : 0 < b.cells.length) : Stp h ι w h ι (froze w p.blk) := by
  have ok := row_at hr hg hp hb
  have hsz := ok.size
  have hext := ok.ext
  have hsize : (froze w p.blk).heap.size = w.heap.size := by show (w.heap.modify _ _).size = _; simp
  refine ⟨Nat.le_refl _, fun _ _ => .inl rfl, fun _ _ => rfl, ⟨fun x q hx hq => ?_, hr.dead, hr.apart, fun x q hq => by rw [hsize]; exact hr.inb x q hq⟩, fun _ _ _ => rfl, ⟨rfl, rfl, rfl, by rw [hsize]; exact Nat.le_refl _, fun k i _ _ => froze_cell w _ k i, fun k i _ hh => by rw [froze_cell]; exact hh, fun k _ hf => froze_fz hf, fun k _ hn => ?_⟩, fun _ _ _ hh => hh⟩
  · exact (hr.obj x q hx hq).mono (Le.refl _) (fun i _ _ => froze_cell w _ _ i) (fun _ => ⟨froze_fz, fun i _ _ hh => by rw [froze_cell]; exact hh⟩) (fun _ _ ents c hh => froze_map hh)
  · rw [froze_heap, if_neg]
    rintro rfl
    exact hn p.off ⟨g, p, hg, hp, ok.ro ▸ hro, rfl, Nat.le_refl _, by omega⟩
theorem markStringish_run {w : World} {a : Addr} {c : Array Value} {e : TypeId} {fr : Nat × Nat} (h : w.heap[a.block]? = some (.cells c e fr)) : (markStringish a).run P w = .ok () (froze w a.block) := by
  have hs : w.shape? a.block = some (e, c.size) := by simp [World.shape?, h]
  have he : w.freeze ⟨a.block, c.size, none⟩ 1 = froze w a.block := by
    unfold World.freeze froze
    simp only [Nat.one_ne_zero, if_false]
    congr 1
    apply Array.ext_getElem?
    intro k
    rw [Array.getElem?_modify, Array.getElem?_modify]
    split
    · subst_vars; rw [h]; rfl
    · rfl
  simp [markStringish, shape, freeze, Sem.run, hs, he]
theorem bytesB_push : ∀ (xs : List Int) (acc : ByteArray), xs.foldl (fun r n => r.push (UInt8.ofNat n.toNat)) acc = ⟨acc.data ++ (xs.map fun n => UInt8.ofNat n.toNat).toArray⟩
  | [], acc => by simp
  | x :: xs, acc => by rw [List.foldl_cons, bytesB_push xs]; simp [ByteArray.push]
theorem gconvX_sim {s d : TypeId} {x : Value} {h : GH} {K : Value → GH → Option β} (hh : gconvX P s d x h K = some r) :
    ∃ v h', K v h' = some r ∧ h.next ≤ h'.next ∧ ∀ ι w rx, Good ι h h'.next w → VR ι x rx → ∃ rv ι' w', (convert s d rx).run P w = .ok rv w' ∧ Stp h ι w h' ι' w' ∧ VR ι' v rv := by
  unfold gconvX at hh
  split at hh
  · rename_i e0 e a n c hs hd
    split at hh
    · rename_i he
      obtain ⟨hc1, hK⟩ := cond_none hh
      unfold gfrz at hK
      split at hK
      rotate_left
      · cases hK
      rename_i b hl
      obtain ⟨hc, hK⟩ := cond_none hK
      simp only [Bool.and_eq_true, Bool.not_eq_true'] at hc
      obtain ⟨⟨hc2, hc3⟩, hc4⟩ := hc
      have hc4 := of_blt' hc4
      obtain rfl := Nat.eq_of_beq_eq_true hc1
      obtain ⟨hg, hb⟩ := look_get hl
      refine ⟨_, h, hK, Nat.le_refl _, fun ι w rx gd hx => ?_⟩
      have key : ∀ p (r : Addr) n' c', ι a.block = .live p → r.block = p.blk → ∃ w', (convert s s (.slice (some r) n' c')).run P w = .ok (.slice (some r) n' c') w' ∧ Stp h ι w h ι w' := fun p r n' c' hp hr => by
        have ok := row_at gd.hr hg hp hb
        obtain ⟨C, E, lo, hi, h1, _⟩ := (ok.room (ok.ro ▸ hc2)).1
        refine ⟨froze w p.blk, ?_, froze_stp gd.hr hg hp hb hc2 (of_blt' hc3)⟩
        have := markStringish_run (P := P) (w := w) (a := r) (by rw [hr]; exact h1)
        rw [hr] at this
        have hee : e0 = e := by rw [hs] at hd; cases hd; rfl
        subst hee
        simp [convert, run_underlying hs, run_underlying he, this]
      cases hx with
      | same _ hx => cases hx
      | sl g o _ _ c' p hp hcc hn =>
        obtain ⟨w', h1, h2⟩ := key p ⟨p.blk, p.off + o, none⟩ n c' hp rfl
        exact ⟨_, ι, w', h1, h2, .sl g o n c c' p hp hcc hn⟩
      | slE _ q c' ho => omega
      | slD _ _ _ c' q hdd hcc => rw [gd.hr.dead _ hg hdd] at hb; cases hb
    · cases hh
  · rename_i e t hs hd
    split at hh
    · rename_i he hz
      obtain ⟨hm, hh⟩ := cond_none hh
      obtain ⟨hall, hh⟩ := gnew_some hh
      have hl : (bcells t).length = t.size := by simp [bcells]
      refine ⟨_, _, hh, Nat.le_succ _, fun ι w rx gd hx => ?_⟩
      rw [hx.str]
      have hrun := run_bytes_of_string (P := P) w s d e t hs hd he
      have hcap : t.size ≤ grownCap w t.size 0 e := grownCap_ge w t.size 0 e
      obtain ⟨row, hrow⟩ : ∃ row, row = bytesRow t (grownCap w t.size 0 e) := ⟨_, rfl⟩
      have hrs : row.size = grownCap w t.size 0 e := by
        have h1 : row.size = t.data.size + (grownCap w t.size 0 e - t.size) := by rw [hrow]; simp [bytesRow]
        have h2 : t.data.size = t.size := rfl
        omega
      have hcells : ∀ i v, nth (bcells t) i = some v → row[i]? = some v ∧ plain1 v = true := fun i v hv => by
        rw [nth_eq] at hv
        have hi : i < (bcells t).length := (List.getElem?_eq_some_iff.1 hv).1
        have h3 : t.data.size = t.size := rfl
        have hi2 : i < t.data.size := by omega
        simp only [bcells, List.getElem?_map, Option.map_eq_some_iff] at hv
        obtain ⟨x, hx, rfl⟩ := hv
        refine ⟨?_, rfl⟩
        rw [hrow, bytesRow, Array.getElem?_append_left (by simpa using hi2), Array.getElem?_map]
        rw [Array.getElem?_toList] at hx
        rw [hx]; rfl
      rw [← hrow] at hrun
      clear hrow
      have hst := newobj_stp gd 1 (.cells row e (row.size, row.size + 1)) (.row ⟨bcells t, 1, false⟩) ⟨w.heap.size, 0, (bcells t).length, grownCap w t.size 0 e, 1, false⟩ rfl (fun ι' hle => ⟨rfl, rfl, rfl, by show 0 + (bcells t).length ≤ grownCap w t.size 0 e; rw [hl, Nat.zero_add]; exact hcap, fun i v hv => ?_, fun _ => ⟨⟨row, e, row.size, row.size + 1, ?_, .inr (Nat.le_refl _)⟩, fun i _ h2 => ?_⟩⟩)
      · refine ⟨_, _, _, hrun, hst, ?_⟩
        exact .sl h.next 0 t.size t.size _ _ (upd_same _ _ _) (.inr ⟨Nat.one_pos, hcap, fun _ => by show 0 + grownCap w t.size 0 e * 1 ≤ grownCap w t.size 0 e; omega⟩) (Nat.le_refl _)
      · obtain ⟨h1, h2⟩ := hcells i v hv
        refine ⟨v, ?_, .same _ h2⟩
        have h4 : ((w.drewN 1).alloc (.cells row e (row.size, row.size + 1))).heap[w.heap.size]? = some (.cells row e (row.size, row.size + 1)) := by
          show (w.heap.push _)[w.heap.size]? = _
          simp
        simp only [World.cell?, h4, Option.isSome_none, Bool.false_eq_true, if_false, Nat.zero_add]
        exact h1
      · show (w.heap.push _)[w.heap.size]? = _
        simp
      · have h4 : ((w.drewN 1).alloc (.cells row e (row.size, row.size + 1))).heap[w.heap.size]? = some (.cells row e (row.size, row.size + 1)) := by
          show (w.heap.push _)[w.heap.size]? = _
          simp
        simp only [World.cell?, h4, Option.isSome_none, Bool.false_eq_true, if_false]
        have h2 : i < grownCap w t.size 0 e := h2
        rw [Array.getElem?_eq_getElem (by omega)]; rfl
    · cases hh
  · rename_i e a n c hs hd
    split at hh
    · rename_i he
      obtain ⟨vs, hh, hvs⟩ := slCells_some hh
      obtain ⟨xs, hx, hK⟩ := exBs_some hh
      subst hx
      refine ⟨_, h, hK, Nat.le_refl _, fun ι w rx gd hx => ?_⟩
      obtain ⟨q, c', hq, _⟩ := hx.slice
      subst hq
      obtain ⟨rs, a1, a2, a3, a4⟩ := slRun gd.hr Nat.one_pos (s := ⟨a, n, c⟩) hvs hx
      have hrs := u8_rel a1
      subst hrs
      simp only [Nat.mul_one, List.length_map] at a2
      refine ⟨_, ι, w, ?_, .refl gd.hr, .same _ rfl⟩
      cases q with
      | none =>
        have h0 := a4 rfl
        have : xs = [] := List.length_eq_zero_iff.1 (a2.trans h0)
        subst this
        simp [convert, run_underlying hs, run_underlying hd, run_underlying he, Conv.bytesToString, bytesB]
        rfl
      | some qa =>
        have hl : (loadCells qa n).run P w = .ok (xs.map (Value.int .u8)).toArray w := by
          have := run_loadCells_list (P := P) w qa (xs.map (Value.int .u8)) (fun j u hj => a3 qa rfl j u hj)
          rw [List.length_map, a2] at this
          exact this
        have hrun := run_bytesToString (P := P) w qa n c' xs hl
        simp only [convert, Sem.run_bind, run_underlying hs, run_underlying hd, run_underlying he, Result.andThen_ok]
        rw [hrun, bytesB_push]
        congr 2
        apply ByteArray.ext
        show (#[] : Array UInt8) ++ _ = _
        simp [bytesB]
    · cases hh
  · obtain ⟨v, hv, hs⟩ := gconv_sim hh
    refine ⟨v, h, hv, Nat.le_refl _, fun ι w rx gd hx => ?_⟩
    obtain ⟨rv, h1, h2⟩ := hs ι rx hx
    exact ⟨rv, ι, w, h2 w, .refl gd.hr, h1⟩
end Go.Proofs.Ytephmpbccajaaaa.Gx

