/- Items that came in: Cut, Few, mine. No condition. -/
import Derived.Test.YtibngikhlgmhaaaCutH
import Derived.Test.YtibngikhlgmhaaaDnQ
namespace Go.Proofs.Ytibngikhlgmhaaa.Gx
open Go
set_option linter.unusedVariables false
set_option linter.unusedSimpArgs false
theorem at18 {h : GH} {y : Sl} {l : List ItR} (r : Row h y 18 (itCells l)) {i : Nat} (hi : i < l.length) {β : Type} (K : Int → Int → Int → Int → Int → Int → Int → Int → Sl → Sl → Int → Int → Int → Int → Int → Sl → Sl → Sl → Option β) :
    (exA y.a fun g o => within ((i : Nat) : Int) y.n (exI .i64 (h.cell ⟨g, o + ((i : Nat) : Int).toNat * 18, none⟩) fun x0 => exI .i64 (h.cell ⟨g, o + ((i : Nat) : Int).toNat * 18 + 1, none⟩) fun x1 => exI .i64 (h.cell ⟨g, o + ((i : Nat) : Int).toNat * 18 + 1 + 1, none⟩) fun x2 => exI .i64 (h.cell ⟨g, o + ((i : Nat) : Int).toNat * 18 + 1 + 1 + 1, none⟩) fun x3 => exI .i64 (h.cell ⟨g, o + ((i : Nat) : Int).toNat * 18 + 1 + 1 + 1 + 1, none⟩) fun x4 => exI .u32 (h.cell ⟨g, o + ((i : Nat) : Int).toNat * 18 + 1 + 1 + 1 + 1 + 1, none⟩) fun x5 => exI .u32 (h.cell ⟨g, o + ((i : Nat) : Int).toNat * 18 + 1 + 1 + 1 + 1 + 1 + 1, none⟩) fun x6 => exI .u32 (h.cell ⟨g, o + ((i : Nat) : Int).toNat * 18 + 1 + 1 + 1 + 1 + 1 + 1 + 1, none⟩) fun x7 => exS (h.cell ⟨g, o + ((i : Nat) : Int).toNat * 18 + 1 + 1 + 1 + 1 + 1 + 1 + 1 + 1, none⟩) fun x8 => exS (h.cell ⟨g, o + ((i : Nat) : Int).toNat * 18 + 1 + 1 + 1 + 1 + 1 + 1 + 1 + 1 + 1, none⟩) fun x9 => exI .i64 (h.cell ⟨g, o + ((i : Nat) : Int).toNat * 18 + 1 + 1 + 1 + 1 + 1 + 1 + 1 + 1 + 1 + 1, none⟩) fun x10 => exI .i64 (h.cell ⟨g, o + ((i : Nat) : Int).toNat * 18 + 1 + 1 + 1 + 1 + 1 + 1 + 1 + 1 + 1 + 1 + 1, none⟩) fun x11 => exI .i64 (h.cell ⟨g, o + ((i : Nat) : Int).toNat * 18 + 1 + 1 + 1 + 1 + 1 + 1 + 1 + 1 + 1 + 1 + 1 + 1, none⟩) fun x12 => exI .u32 (h.cell ⟨g, o + ((i : Nat) : Int).toNat * 18 + 1 + 1 + 1 + 1 + 1 + 1 + 1 + 1 + 1 + 1 + 1 + 1 + 1, none⟩) fun x13 => exI .u32 (h.cell ⟨g, o + ((i : Nat) : Int).toNat * 18 + 1 + 1 + 1 + 1 + 1 + 1 + 1 + 1 + 1 + 1 + 1 + 1 + 1 + 1, none⟩) fun x14 => exS (h.cell ⟨g, o + ((i : Nat) : Int).toNat * 18 + 1 + 1 + 1 + 1 + 1 + 1 + 1 + 1 + 1 + 1 + 1 + 1 + 1 + 1 + 1, none⟩) fun x15 => exS (h.cell ⟨g, o + ((i : Nat) : Int).toNat * 18 + 1 + 1 + 1 + 1 + 1 + 1 + 1 + 1 + 1 + 1 + 1 + 1 + 1 + 1 + 1 + 1, none⟩) fun x16 => exS (h.cell ⟨g, o + ((i : Nat) : Int).toNat * 18 + 1 + 1 + 1 + 1 + 1 + 1 + 1 + 1 + 1 + 1 + 1 + 1 + 1 + 1 + 1 + 1 + 1, none⟩) fun x17 => K x0 x1 x2 x3 x4 x5 x6 x7 x8 x9 x10 x11 x12 x13 x14 x15 x16 x17)) = K l[i].c.a1 l[i].c.a2 l[i].c.a3 l[i].c.a4 l[i].c.a5 l[i].c.a6 l[i].c.a7 l[i].c.a8 l[i].s9 l[i].s10 l[i].c.a11 l[i].c.a12 l[i].c.a13 l[i].c.a14 l[i].c.a15 l[i].s16 l[i].s17 l[i].s18 := by
  have hl := itCells_len l
  have hn : y.n = l.length := by have := r.len; rw [hl] at this; omega
  obtain ⟨g, o, ha, hc⟩ := r.cell (by omega) (by omega)
  have q : ∀ j, j < 18 → h.cell ⟨g, o + i * 18 + j, none⟩ = l[i].cells[j]? := fun j hj => by
    rw [Nat.add_assoc, hc _ (by omega), itCells_get l i hi j hj]
  have q0 := q 0 (by omega)
  rw [Nat.add_zero] at q0
  rw [ha, exA_s, within_t (by omega) (by omega), Int.toNat_natCast]
  simp only [Nat.add_assoc, Nat.reduceAdd] at q q0 ⊢
  simp only [q0, q 1 (by omega), q 2 (by omega), q 3 (by omega), q 4 (by omega), q 5 (by omega), q 6 (by omega), q 7 (by omega), q 8 (by omega), q 9 (by omega), q 10 (by omega), q 11 (by omega), q 12 (by omega), q 13 (by omega), q 14 (by omega), q 15 (by omega), q 16 (by omega), q 17 (by omega), ItR.cells, List.getElem?_cons_succ, List.getElem?_cons_zero, exI_s, exS_s]
/-- an item, none of it too long -/
def cutI (it : It) : It := ⟨⟨it.c.a1, it.c.a2, it.c.a3, it.c.a4, it.c.a5, it.c.a6, it.c.a7, it.c.a8, it.c.nm.take 60, it.c.ex.take 60, it.c.a11, it.c.a12, it.c.a13, it.c.a14, it.c.a15, it.c.cm.take 60⟩, it.ex.take 60, it.da.take 300⟩
theorem gput_rows {h : GH} {g : Nat} {cs : List Value} (l : h.look g = some (.row ⟨cs, 0, false⟩)) (i : Nat) (vs : List Value) (hv : allCells vs = true) (hi : i + vs.length ≤ cs.length) :
    ∃ h', Keep h h' [g] ∧ h'.look g = some (.row ⟨nlay cs i vs, 0, false⟩) ∧ ∀ (β : Type) (K : GH → Option β), gput g i vs h K = K h' :=
  ⟨h.put g (some (.row ⟨nlay cs i vs, 0, false⟩)), keep_put h g _, look_put_same (look_lt l), fun β K => gput_eq l hv hi K⟩
set_option maxHeartbeats 4000000 in
theorem cut_item {h : GH} {x : ItR} (ok : ItOk h x) (R : Nat) :
    ∃ h' w, Keep h h' [] ∧ ItOk h' w ∧ w.it = cutI x.it ∧ (∀ z ∈ w.rows, h.next ≤ z) ∧ ∀ (β : Type) (K : Int → Int → Int → Int → Int → Int → Int → Int → Sl → Sl → Int → Int → Int → Int → Int → Sl → Sl → Sl → GH → Option β), F_ref26_Cut R x.c.a1 x.c.a2 x.c.a3 x.c.a4 x.c.a5 x.c.a6 x.c.a7 x.c.a8 x.s9 x.s10 x.c.a11 x.c.a12 x.c.a13 x.c.a14 x.c.a15 x.s16 x.s17 x.s18 h K = K w.c.a1 w.c.a2 w.c.a3 w.c.a4 w.c.a5 w.c.a6 w.c.a7 w.c.a8 w.s9 w.s10 w.c.a11 w.c.a12 w.c.a13 w.c.a14 w.c.a15 w.s16 w.s17 w.s18 h' := by
  have k1 := keep_push h (.row ⟨[Value.int .i64 x.c.a1, Value.int .i64 x.c.a2, Value.int .i64 x.c.a3, Value.int .i64 x.c.a4, Value.int .i64 x.c.a5, Value.int .u32 x.c.a6, Value.int .u32 x.c.a7, Value.int .u32 x.c.a8, Value.slice x.s9.a x.s9.n x.s9.c, Value.slice x.s10.a x.s10.n x.s10.c, Value.int .i64 x.c.a11, Value.int .i64 x.c.a12, Value.int .i64 x.c.a13, Value.int .u32 x.c.a14, Value.int .u32 x.c.a15, Value.slice x.s16.a x.s16.n x.s16.c, Value.slice x.s17.a x.s17.n x.s17.c, Value.slice x.s18.a x.s18.n x.s18.c], 0, false⟩) []
  obtain ⟨h1, eh1⟩ : ∃ h1, h1 = h.push (.row ⟨[Value.int .i64 x.c.a1, Value.int .i64 x.c.a2, Value.int .i64 x.c.a3, Value.int .i64 x.c.a4, Value.int .i64 x.c.a5, Value.int .u32 x.c.a6, Value.int .u32 x.c.a7, Value.int .u32 x.c.a8, Value.slice x.s9.a x.s9.n x.s9.c, Value.slice x.s10.a x.s10.n x.s10.c, Value.int .i64 x.c.a11, Value.int .i64 x.c.a12, Value.int .i64 x.c.a13, Value.int .u32 x.c.a14, Value.int .u32 x.c.a15, Value.slice x.s16.a x.s16.n x.s16.c, Value.slice x.s17.a x.s17.n x.s17.c, Value.slice x.s18.a x.s18.n x.s18.c], 0, false⟩) := ⟨_, rfl⟩
  have l1 : h1.look h.next = some (.row ⟨[Value.int .i64 x.c.a1, Value.int .i64 x.c.a2, Value.int .i64 x.c.a3, Value.int .i64 x.c.a4, Value.int .i64 x.c.a5, Value.int .u32 x.c.a6, Value.int .u32 x.c.a7, Value.int .u32 x.c.a8, Value.slice x.s9.a x.s9.n x.s9.c, Value.slice x.s10.a x.s10.n x.s10.c, Value.int .i64 x.c.a11, Value.int .i64 x.c.a12, Value.int .i64 x.c.a13, Value.int .u32 x.c.a14, Value.int .u32 x.c.a15, Value.slice x.s16.a x.s16.n x.s16.c, Value.slice x.s17.a x.s17.n x.s17.c, Value.slice x.s18.a x.s18.n x.s18.c], 0, false⟩) := by rw [eh1]; exact look_push_new
  rw [← eh1] at k1
  have k2 := keep_push h1 (.row ⟨[Value.int .i64 0, Value.int .i64 0, Value.int .i64 0, Value.int .i64 0, Value.int .i64 0, Value.int .u32 0, Value.int .u32 0, Value.int .u32 0, Value.slice none 0 0, Value.slice none 0 0, Value.int .i64 0, Value.int .i64 0, Value.int .i64 0, Value.int .u32 0, Value.int .u32 0, Value.slice none 0 0, Value.slice none 0 0, Value.slice none 0 0], 0, false⟩) []
  obtain ⟨h2, eh2⟩ : ∃ h2, h2 = h1.push (.row ⟨[Value.int .i64 0, Value.int .i64 0, Value.int .i64 0, Value.int .i64 0, Value.int .i64 0, Value.int .u32 0, Value.int .u32 0, Value.int .u32 0, Value.slice none 0 0, Value.slice none 0 0, Value.int .i64 0, Value.int .i64 0, Value.int .i64 0, Value.int .u32 0, Value.int .u32 0, Value.slice none 0 0, Value.slice none 0 0, Value.slice none 0 0], 0, false⟩) := ⟨_, rfl⟩
  have l2 : h2.look h1.next = some (.row ⟨[Value.int .i64 0, Value.int .i64 0, Value.int .i64 0, Value.int .i64 0, Value.int .i64 0, Value.int .u32 0, Value.int .u32 0, Value.int .u32 0, Value.slice none 0 0, Value.slice none 0 0, Value.int .i64 0, Value.int .i64 0, Value.int .i64 0, Value.int .u32 0, Value.int .u32 0, Value.slice none 0 0, Value.slice none 0 0, Value.slice none 0 0], 0, false⟩) := by rw [eh2]; exact look_push_new
  rw [← eh2] at k2
  have b1 := k1.1
  have b2 := k2.1
  have m1 := k2.look l1 (by simp)
  have lt1 := look_lt l1
  have lt2 := look_lt l2
  have gne : h.next ≠ h1.next := by omega
  have c1 := fun o => cell_of m1 o
  have ok2 := (ok.keep k1 (by simp)).keep k2 (by simp)
  obtain ⟨h3, q9, q10, k3, r9, r10, n9, n10, e3⟩ := cut_head x.c.a1 x.c.a2 x.c.a3 x.c.a4 x.c.a5 x.c.a6 x.c.a7 x.c.a8 ok2.r9 ok2.r10 R 60 (by omega)
  have b3 := k3.1
  have ok3 := ok2.keep k3 (by simp)
  obtain ⟨h4, k4, l4', e4⟩ := gput_rows (k3.look m1 (by simp)) 0 [Value.int .i64 x.c.a1, Value.int .i64 x.c.a2, Value.int .i64 x.c.a3, Value.int .i64 x.c.a4, Value.int .i64 x.c.a5, Value.int .u32 x.c.a6, Value.int .u32 x.c.a7, Value.int .u32 x.c.a8, Value.slice q9.a q9.n q9.c, Value.slice q10.a q10.n q10.c] rfl (by simp)
  have l4 : h4.look h.next = some (.row ⟨[Value.int .i64 x.c.a1, Value.int .i64 x.c.a2, Value.int .i64 x.c.a3, Value.int .i64 x.c.a4, Value.int .i64 x.c.a5, Value.int .u32 x.c.a6, Value.int .u32 x.c.a7, Value.int .u32 x.c.a8, Value.slice q9.a q9.n q9.c, Value.slice q10.a q10.n q10.c, Value.int .i64 x.c.a11, Value.int .i64 x.c.a12, Value.int .i64 x.c.a13, Value.int .u32 x.c.a14, Value.int .u32 x.c.a15, Value.slice x.s16.a x.s16.n x.s16.c, Value.slice x.s17.a x.s17.n x.s17.c, Value.slice x.s18.a x.s18.n x.s18.c], 0, false⟩) := l4'
  have b4 := k4.1
  have own4 : ∀ z ∈ [h.next], z = h.next := by simp
  have lt9 := r9.lt
  have ol : ∀ z ∈ x.rows, z < h.next := ok.lt
  have ok4 := ok3.keep k4 (fun z hz => by have := ol z hz; simp; omega)
  have r9' := r9.keep k4 (fun z hz => by have := n9 z hz; simp; omega)
  have r10' := r10.keep k4 (fun z hz => by have := n10 z hz; simp; omega)
  have c4 := fun o => cell_of l4 o
  obtain ⟨h5, p16, q16, k5, r16, n16, e5a, e5b⟩ := ref_cutcopy ok4.r16 R 60 (by omega)
  have b5 := k5.1
  obtain ⟨h6, k6, l6', e6⟩ := gput_rows (k5.look l4 (by simp)) 15 [.slice q16.a q16.n q16.c] rfl (by simp)
  have l6 : h6.look h.next = some (.row ⟨[Value.int .i64 x.c.a1, Value.int .i64 x.c.a2, Value.int .i64 x.c.a3, Value.int .i64 x.c.a4, Value.int .i64 x.c.a5, Value.int .u32 x.c.a6, Value.int .u32 x.c.a7, Value.int .u32 x.c.a8, Value.slice q9.a q9.n q9.c, Value.slice q10.a q10.n q10.c, Value.int .i64 x.c.a11, Value.int .i64 x.c.a12, Value.int .i64 x.c.a13, Value.int .u32 x.c.a14, Value.int .u32 x.c.a15, Value.slice q16.a q16.n q16.c, Value.slice x.s17.a x.s17.n x.s17.c, Value.slice x.s18.a x.s18.n x.s18.c], 0, false⟩) := l6'
  have b6 := k6.1
  have ok6 := (ok4.keep k5 (by simp)).keep k6 (fun z hz => by have := ol z hz; simp; omega)
  have c6 := fun o => cell_of l6 o
  obtain ⟨h7, p17, q17, k7, r17, n17, e7a, e7b⟩ := ref_cutcopy ok6.r17 R 60 (by omega)
  have b7 := k7.1
  have m7 := k7.look l6 (by simp)
  have c7 := fun o => cell_of m7 o
  have ok7 := ok6.keep k7 (by simp)
  obtain ⟨h8, p18, q18, k8, r18, n18, e8a, e8b⟩ := ref_cutcopy ok7.r18 R 300 (by omega)
  have b8 := k8.1
  obtain ⟨h9, k9, l9', e9⟩ := gput_rows (k8.look m7 (by simp)) 16 [.slice q17.a q17.n q17.c] rfl (by simp)
  have l9 : h9.look h.next = some (.row ⟨[Value.int .i64 x.c.a1, Value.int .i64 x.c.a2, Value.int .i64 x.c.a3, Value.int .i64 x.c.a4, Value.int .i64 x.c.a5, Value.int .u32 x.c.a6, Value.int .u32 x.c.a7, Value.int .u32 x.c.a8, Value.slice q9.a q9.n q9.c, Value.slice q10.a q10.n q10.c, Value.int .i64 x.c.a11, Value.int .i64 x.c.a12, Value.int .i64 x.c.a13, Value.int .u32 x.c.a14, Value.int .u32 x.c.a15, Value.slice q16.a q16.n q16.c, Value.slice q17.a q17.n q17.c, Value.slice x.s18.a x.s18.n x.s18.c], 0, false⟩) := l9'
  have b9 := k9.1
  obtain ⟨hA, kA, lA', eA⟩ := gput_rows l9 17 [.slice q18.a q18.n q18.c] rfl (by simp)
  have lA : hA.look h.next = some (.row ⟨[Value.int .i64 x.c.a1, Value.int .i64 x.c.a2, Value.int .i64 x.c.a3, Value.int .i64 x.c.a4, Value.int .i64 x.c.a5, Value.int .u32 x.c.a6, Value.int .u32 x.c.a7, Value.int .u32 x.c.a8, Value.slice q9.a q9.n q9.c, Value.slice q10.a q10.n q10.c, Value.int .i64 x.c.a11, Value.int .i64 x.c.a12, Value.int .i64 x.c.a13, Value.int .u32 x.c.a14, Value.int .u32 x.c.a15, Value.slice q16.a q16.n q16.c, Value.slice q17.a q17.n q17.c, Value.slice q18.a q18.n q18.c], 0, false⟩) := lA'
  have bA := kA.1
  have cA := fun o => cell_of lA o
  have k2A : Keep h2 hA [h.next] := ((((((((k3.mono (o1 := [h.next]) (by simp)).trans k4 (fun z hz => .inl hz)).trans k5 (by simp)).trans k6 (fun z hz => .inl hz)).trans k7 (by simp)).trans k8 (by simp)).trans k9 (fun z hz => .inl hz)).trans kA (fun z hz => .inl hz))
  obtain ⟨hB, kB, lB', eB⟩ := gput_rows (k2A.look l2 (by simp; omega)) 0 [Value.int .i64 x.c.a1, Value.int .i64 x.c.a2, Value.int .i64 x.c.a3, Value.int .i64 x.c.a4, Value.int .i64 x.c.a5, Value.int .u32 x.c.a6, Value.int .u32 x.c.a7, Value.int .u32 x.c.a8, Value.slice q9.a q9.n q9.c, Value.slice q10.a q10.n q10.c, Value.int .i64 x.c.a11, Value.int .i64 x.c.a12, Value.int .i64 x.c.a13, Value.int .u32 x.c.a14, Value.int .u32 x.c.a15, Value.slice q16.a q16.n q16.c, Value.slice q17.a q17.n q17.c, Value.slice q18.a q18.n q18.c] rfl (by simp)
  have lB : hB.look h1.next = some (.row ⟨[Value.int .i64 x.c.a1, Value.int .i64 x.c.a2, Value.int .i64 x.c.a3, Value.int .i64 x.c.a4, Value.int .i64 x.c.a5, Value.int .u32 x.c.a6, Value.int .u32 x.c.a7, Value.int .u32 x.c.a8, Value.slice q9.a q9.n q9.c, Value.slice q10.a q10.n q10.c, Value.int .i64 x.c.a11, Value.int .i64 x.c.a12, Value.int .i64 x.c.a13, Value.int .u32 x.c.a14, Value.int .u32 x.c.a15, Value.slice q16.a q16.n q16.c, Value.slice q17.a q17.n q17.c, Value.slice q18.a q18.n q18.c], 0, false⟩) := lB'
  have cB := fun o => cell_of lB o
  have kall : Keep h hB [] := (((k1.trans k2 (by simp)).trans k2A (fun z hz => .inr (by simp at hz; omega))).trans kB (fun z hz => .inr (by simp at hz; omega)))
  have ne : ∀ {q : Sl} {hx : GH}, h2.next ≤ hx.next → (∀ z ∈ rowsOf q, hx.next ≤ z) → ∀ z ∈ rowsOf q, z ≠ h.next ∧ z ≠ h1.next := fun hb hq z hz => by
    have := hq z hz; omega
  have d9 := ne (q := q9) (Nat.le_refl _) n9
  have d10 := ne (q := q10) (Nat.le_refl _) n10
  have d16 := ne (q := q16) (hx := h4) (by omega) n16
  have d17 := ne (q := q17) (hx := h6) (by omega) n17
  have d18 := ne (q := q18) (hx := h7) (by omega) n18
  have s46 : Keep h4 h6 [h.next] := (k5.mono (o1 := [h.next]) (by simp)).trans k6 (fun z hz => .inl hz)
  have s68 : Keep h6 h8 [h.next] := (k7.mono (o1 := [h.next]) (by simp)).trans k8 (by simp)
  have s8B : Keep h8 hB [h.next, h1.next] := ((k9.mono (o1 := [h.next, h1.next]) (by simp)).trans kA (fun z hz => .inl (by simp at hz; simp [hz]))).trans kB (fun z hz => .inl (by simp at hz; simp [hz]))
  have s48 := s46.trans s68 (fun z hz => .inl hz)
  have one : ∀ {q : Sl}, (∀ z ∈ rowsOf q, z ≠ h.next ∧ z ≠ h1.next) → (∀ z ∈ rowsOf q, z ∉ [h.next]) ∧ ∀ z ∈ rowsOf q, z ∉ [h.next, h1.next] := fun d => ⟨fun z hz => by have := d z hz; simp; omega, fun z hz => by have := d z hz; simp; omega⟩
  refine ⟨hB, ⟨⟨x.c.a1, x.c.a2, x.c.a3, x.c.a4, x.c.a5, x.c.a6, x.c.a7, x.c.a8, x.c.nm.take 60, x.c.ex.take 60, x.c.a11, x.c.a12, x.c.a13, x.c.a14, x.c.a15, x.c.cm.take 60⟩, x.ex.take 60, x.da.take 300, q9, q10, q16, q17, q18⟩, kall,
    ⟨(r9'.keep s48 (one d9).1).keep s8B (one d9).2, (r10'.keep s48 (one d10).1).keep s8B (one d10).2, ((r16.keep k6 (one d16).1).keep s68 (one d16).1).keep s8B (one d16).2, (r17.keep k8 (by simp)).keep s8B (one d17).2, r18.keep s8B (one d18).2⟩, rfl, fun z hz => ?_, fun β K => ?_⟩
  · simp only [ItR.rows, List.mem_append] at hz
    rcases hz with (((hz | hz) | hz) | hz) | hz
    · have := n9 z hz; omega
    · have := n10 z hz; omega
    · have := n16 z hz; omega
    · have := n17 z hz; omega
    · have := n18 z hz; omega
  · unfold F_ref26_Cut
    rw [F_ref26_Cut_gen]
    refine (gnew_eq rfl _).trans ?_
    rw [← eh1]
    refine (gnew_eq rfl _).trans ?_
    rw [← eh2]
    simp only [c1, Nat.zero_add, Nat.reduceAdd, Nat.add_zero, nth_s, nth_0, exI_s, exS_s', veqO_i, veqO_s, condT, sameAt_1]
    refine (e3 β _).trans ?_
    refine (e4 β _).trans ?_
    simp only [c4, Nat.zero_add, Nat.reduceAdd, Nat.add_zero, nth_s, nth_0, exI_s, exS_s', veqO_i, veqO_s, condT, sameAt_1]
    refine (e5a β _).trans ?_
    refine (e5b β _).trans ?_
    refine (e6 β _).trans ?_
    simp only [c6, Nat.zero_add, Nat.reduceAdd, Nat.add_zero, nth_s, nth_0, exI_s, exS_s', veqO_i, veqO_s, condT, sameAt_1]
    refine (e7a β _).trans ?_
    refine (e7b β _).trans ?_
    simp only [c7, Nat.zero_add, Nat.reduceAdd, Nat.add_zero, nth_s, nth_0, exI_s, exS_s', veqO_i, veqO_s, condT, sameAt_1]
    refine (e8a β _).trans ?_
    refine (e8b β _).trans ?_
    refine (e9 β _).trans ?_
    refine (eA β _).trans ?_
    simp only [c6, c7, cA, Nat.zero_add, Nat.reduceAdd, Nat.add_zero, nth_s, nth_0, exI_s, exS_s', veqO_i, veqO_s, condT, sameAt_1]
    refine (eB β _).trans ?_
    simp only [cB, Nat.zero_add, Nat.reduceAdd, Nat.add_zero, nth_s, nth_0, exI_s, exS_s', veqO_i, veqO_s, condT, sameAt_1]
theorem few_loop {h0 : GH} {y : Sl} {l : List ItR} (r0 : Row h0 y 18 (itCells l)) (ok0 : ∀ x ∈ l, ItOk h0 x) {n : Nat} (hn : n ≤ 1000) {R : Nat} : ∀ (k i f : Nat) (h : GH) (y5 : Sl) (l5 : List ItR), i + k = min l.length n → k < f → l5.length = i → Keep h0 h [] → Its h y5 h0.next l5 →
    ∃ h' y' l', Keep h0 h' [] ∧ Its h' y' h0.next (l5 ++ l') ∧ l'.map ItR.it = ((l.drop i).take k).map (fun x => cutI x.it) ∧ ∀ (β : Type) (K0 : Sl → GH → Option β), F_ref26_Few_l0 (F_ref26_Cut R) R f y ((n : Nat) : Int) y5 ((i : Nat) : Int) h K0 = K0 y' h'
  | 0, i, f, h, y5, l5, hi, hf, hl, k0, it => by
    obtain ⟨f, rfl⟩ : ∃ f', f = f' + 1 := ⟨f - 1, by omega⟩
    have hyn : y.n = l.length := by have := r0.len; rw [itCells_len] at this; omega
    refine ⟨h, y5, [], k0, by rw [List.append_nil]; exact it, by simp, fun β K0 => ?_⟩
    rw [F_ref26_Few_l0_succ]
    by_cases c : i < l.length
    · rw [decT (by omega), condT, decF (by omega), condF]
    · rw [decF (by omega), condF]
  | k + 1, i, f, h, y5, l5, hi, hf, hl, k0, it => by
    obtain ⟨f, rfl⟩ : ∃ f', f = f' + 1 := ⟨f - 1, by omega⟩
    have hyn : y.n = l.length := by have := r0.len; rw [itCells_len] at this; omega
    have hi1 : i < l.length := by omega
    have b0 := k0.1
    obtain ⟨h1, w, k1, ow, ew, nw, e1⟩ := cut_item ((ok0 _ (List.getElem_mem hi1)).keep k0 (by simp)) R
    have b1 := k1.1
    have hy5 := it.lt
    obtain ⟨h2, y2, e2, it2, k2, n2⟩ := (it.keep k1 (by simp)).app w (by omega) ow (fun z hz => ⟨by have := nw z hz; omega, fun hm => by have := hy5 z hm; have := nw z hz; omega⟩) (by omega)
    have k02 : Keep h0 h2 [] := (k0.trans k1 (by simp)).trans k2 (fun z hz => .inr (it.lo z hz))
    obtain ⟨h3, y3, l3, k3, it3, e3, e4⟩ := few_loop r0 ok0 hn k (i + 1) f h2 y2 (l5 ++ [w]) (by omega) (by omega) (by simp; omega) k02 it2
    refine ⟨h3, y3, w :: l3, k3, by rw [List.append_assoc] at it3; exact it3, ?_, fun β K0 => ?_⟩
    · rw [List.map_cons, ew, e3, List.drop_eq_getElem_cons hi1, List.take_succ_cons, List.map_cons]
    · rw [F_ref26_Few_l0_succ, decT (by omega), condT, decT (by omega), condT]
      refine (at18 (r0.keep k0 (by simp)) hi1 _).trans ?_
      refine (e1 β _).trans ?_
      refine (e2 β _).trans ?_
      rw [i64w (by omega), show ((i : Nat) : Int) + 1 = ((i + 1 : Nat) : Int) by omega]
      exact e4 β K0
theorem few_items {h0 : GH} {y : Sl} {l : List ItR} (r0 : Row h0 y 18 (itCells l)) (ok0 : ∀ x ∈ l, ItOk h0 x) {n : Nat} (hn : n ≤ 1000) {R : Nat} (hR : 4000000 < R) :
    ∃ h' y' l', Keep h0 h' [] ∧ Its h' y' h0.next l' ∧ l'.map ItR.it = (l.take n).map (fun x => cutI x.it) ∧ ∀ (β : Type) (K : Sl → GH → Option β), F_ref26_Few R y ((n : Nat) : Int) h0 K = K y' h' := by
  obtain ⟨h', y', l', k, it, em, e⟩ := few_loop r0 ok0 hn (R := R) (min l.length n) 0 R h0 ⟨none, 0, 0⟩ [] (by omega) (by omega) rfl (.refl _ _) Its.nil
  refine ⟨h', y', l', k, it, ?_, fun β K => ?_⟩
  · rw [em, List.drop_zero]
    congr 1
    by_cases c : l.length ≤ n
    · rw [Nat.min_eq_left c, List.take_length, List.take_of_length_le c]
    · rw [Nat.min_eq_right (by omega)]
  · unfold F_ref26_Few
    rw [F_ref26_Few_gen]
    exact e β _
theorem its_cells {h : GH} {y : Sl} {lo : Nat} {l : List ItR} (s : Its h y lo l) {i : Nat} (hi : i < l.length) : ∃ gy, y.a = some ⟨gy, 0, none⟩ ∧ ∀ h' : GH, Keep h h' [] → ∀ j, j < 18 → h'.cell ⟨gy, i * 18 + j, none⟩ = l[i].cells[j]? := by
  have hyn := s.n
  obtain ⟨gy, hya, hyl⟩ : ∃ gy, y.a = some ⟨gy, 0, none⟩ ∧ h.look gy = some (.row ⟨itCells l, 18, false⟩) := by
    rcases s.vec.at_ with ⟨q1, q2⟩ | ⟨r, q1, q2⟩
    · omega
    · exact ⟨r, q1, q2⟩
  refine ⟨gy, hya, fun h' k j hj => ?_⟩
  rw [cell_of (k.look hyl (by simp)), nth_eq, itCells_get l i hi j hj]
theorem mine_loop {h0 : GH} {y : Sl} {lo : Nat} {l : List ItR} (it0 : Its h0 y lo l) (hlo : lo ≤ h0.next) (hl : l.length ≤ 1000) {R : Nat} : ∀ (k i f : Nat) (h : GH) (y3 : Sl), i + k = l.length → k < f → Keep h0 h [] → Its h y3 lo (l.take i) → (∀ z ∈ rowsOf y3, h0.next ≤ z) →
    ∃ h' y', Keep h0 h' [] ∧ Its h' y' lo l ∧ (∀ z ∈ rowsOf y', h0.next ≤ z) ∧ ∀ (β : Type) (K0 : Sl → GH → Option β), F_law26_mine_l0 R f y y3 ((i : Nat) : Int) h K0 = K0 y' h'
  | 0, i, f, h, y3, hi, hf, k0, it, ny => by
    obtain ⟨f, rfl⟩ : ∃ f', f = f' + 1 := ⟨f - 1, by omega⟩
    have hyn := it0.n
    obtain rfl : i = l.length := by omega
    rw [List.take_length] at it
    refine ⟨h, y3, k0, it, ny, fun β K0 => ?_⟩
    rw [F_law26_mine_l0_succ, decF (by omega), condF]
  | k + 1, i, f, h, y3, hi, hf, k0, it, ny => by
    obtain ⟨f, rfl⟩ : ∃ f', f = f' + 1 := ⟨f - 1, by omega⟩
    have hyn := it0.n
    have hi1 : i < l.length := by omega
    have b0 := k0.1
    have om := it0.own _ (List.getElem_mem hi1)
    have ox := it0.ok _ (List.getElem_mem hi1)
    have olt := ox.lt
    obtain ⟨gy, hya, cy⟩ := its_cells it0 hi1
    have q := cy h k0
    have q0 := q 0 (by omega)
    rw [Nat.add_zero] at q0
    obtain ⟨h2, y2, e2, it2, k2, n2⟩ := it.app l[i] (by simp; omega) (ox.keep k0 (by simp)) (fun z hz => ⟨(om z hz).1, fun hm => by have := ny z hm; have := olt z hz; omega⟩) (by omega)
    rw [List.take_append_getElem hi1] at it2
    obtain ⟨h3, z3, k3, it3, n3, e3⟩ := mine_loop it0 hlo hl k (i + 1) f h2 y2 (by omega) (by omega) (k0.trans k2 (fun z hz => .inr (ny z hz))) it2 (fun z hz => by
      rcases n2 z hz with q | q
      · exact ny z q
      · omega)
    refine ⟨h3, z3, k3, it3, n3, fun β K0 => ?_⟩
    have wt : ∀ K : Option β, within ((i : Nat) : Int) y.n K = K := fun K => within_t (by omega) (by omega) K
    rw [F_law26_mine_l0_succ, decT (by omega), condT]
    simp only [hya, exA_s, wt, Int.toNat_natCast, Nat.zero_add, Nat.add_zero]
    simp only [Nat.add_assoc, Nat.reduceAdd]
    simp only [q0, q 1 (by omega), q 2 (by omega), q 3 (by omega), q 4 (by omega), q 5 (by omega), q 6 (by omega), q 7 (by omega), q 8 (by omega), q 9 (by omega), q 10 (by omega), q 11 (by omega), q 12 (by omega), q 13 (by omega), q 14 (by omega), q 15 (by omega), q 16 (by omega), q 17 (by omega), ItR.cells, List.getElem?_cons_succ, List.getElem?_cons_zero, exI_s, exS_s]
    refine (e2 β _).trans ?_
    rw [i64w (by omega), show ((i : Nat) : Int) + 1 = ((i + 1 : Nat) : Int) by omega]
    exact e3 β K0
theorem mine_items {h0 : GH} {y : Sl} {lo : Nat} {l : List ItR} (it0 : Its h0 y lo l) (hlo : lo ≤ h0.next) (hl : l.length ≤ 1000) {R : Nat} (hR : 4000000 < R) :
    ∃ h' y', Keep h0 h' [] ∧ Its h' y' lo l ∧ ∀ (β : Type) (K : Sl → GH → Option β), F_law26_mine R y h0 K = K y' h' := by
  obtain ⟨h', y', k, it, n, e⟩ := mine_loop it0 hlo hl (R := R) l.length 0 R h0 ⟨none, 0, 0⟩ (by omega) (by omega) (.refl _ _) (by rw [List.take_zero]; exact Its.nil) (by simp [rowsOf])
  refine ⟨h', y', k, it, fun β K => ?_⟩
  unfold F_law26_mine
  rw [F_law26_mine_gen]
  exact e β _
end Go.Proofs.Ytibngikhlgmhaaa.Gx

