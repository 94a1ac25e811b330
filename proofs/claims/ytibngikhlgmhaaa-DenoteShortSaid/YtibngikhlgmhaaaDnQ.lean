/- The program's Join. No condition. -/
import Derived.Test.YtibngikhlgmhaaaDnO
namespace Go.Proofs.Ytibngikhlgmhaaa.Gx
open Go
set_option linter.unusedVariables false
set_option linter.unusedSimpArgs false
/-- an item's local header as it is written -/
def hdJ (it : It) : Hd := ⟨it.c.a1, it.c.a2, it.c.a3, it.c.a4, it.c.a5, it.c.a6, (it.da.length : Nat), it.c.a8, it.c.nm, it.ex⟩
/-- an item's central header as it is written; o bytes stand ahead -/
def cnJ (it : It) (o : Nat) : Cn := ⟨it.c.a1, it.c.a2, it.c.a3, it.c.a4, it.c.a5, it.c.a6, (it.da.length : Nat), it.c.a8, it.c.nm, it.c.ex, it.c.a11, it.c.a12, it.c.a13, it.c.a14, (o : Nat), it.c.cm⟩
def jn1 (it : It) (o t : List Int) : Option (List Int × List Int) := (locW (hdJ it)).bind fun a => (cenW (cnJ it o.length)).bind fun b => some (o ++ a ++ it.da, t ++ b)
def jn : List It → List Int → List Int → Option (List Int × List Int)
  | [], o, t => some (o, t)
  | it :: l, o, t => (jn1 it o t).bind fun r => jn l r.1 r.2
theorem jn_nil (o t : List Int) : jn [] o t = some (o, t) := rfl
theorem jn_cons (it : It) (l : List It) (o t : List Int) : jn (it :: l) o t = (jn1 it o t).bind fun r => jn l r.1 r.2 := rfl
theorem jn1_some {it : It} {o t a b : List Int} (ha : locW (hdJ it) = some a) (hb : cenW (cnJ it o.length) = some b) : jn1 it o t = some (o ++ a ++ it.da, t ++ b) := by unfold jn1; rw [ha, Option.bind_some, hb, Option.bind_some]
theorem jn1_no {it : It} {o t : List Int} (h : locW (hdJ it) = none ∨ cenW (cnJ it o.length) = none) : jn1 it o t = none := by
  unfold jn1
  cases ha : locW (hdJ it) with
  | none => rfl
  | some a => rw [Option.bind_some, h.resolve_left (by rw [ha]; exact Option.some_ne_none a)]; rfl
def enJ (n t o : Nat) (cm : List Int) : En := ⟨0, 0, (n : Nat), (n : Nat), (t : Nat), (o : Nat), cm⟩
/-- items as bytes, or why none -/
def jnE (n : Nat) (cm : List Int) : Option (List Int × List Int) → Int × List Int
  | none => (18, [])
  | some r => match endW (enJ n r.2.length r.1.length cm) with
    | none => (18, [])
    | some z => if findE (r.1 ++ r.2 ++ z) = ((r.1.length + r.2.length : Nat) : Int) then (0, r.1 ++ r.2 ++ z) else (4, [])
def joinP (l : List It) (cm : List Int) : Int × List Int := if 65535 < l.length then (18, []) else jnE l.length cm (jn l [] [])
/-- bytes at each place; no piece is long -/
structure Sm (it : It) : Prop where
  nm : B8 it.c.nm ∧ it.c.nm.length ≤ 3000
  xx : B8 it.c.ex ∧ it.c.ex.length ≤ 3000
  cm : B8 it.c.cm ∧ it.c.cm.length ≤ 3000
  ex : B8 it.ex ∧ it.ex.length ≤ 3000
  da : B8 it.da ∧ it.da.length ≤ 3000
theorem b8_app {a b : List Int} (ha : B8 a) (hb : B8 b) : B8 (a ++ b) := fun x hx => by
  rcases List.mem_append.1 hx with h | h
  · exact ha x h
  · exact hb x h
def OB (st : Option (List Int)) : Prop := ∀ ys, st = some ys → B8 ys
theorem OB.u16 {st : Option (List Int)} (h : OB st) (x : Int) : OB (u16W st x) := by
  intro ys hy
  cases st with
  | none => simp [u16W] at hy
  | some zs =>
    rw [u16W_some] at hy
    split at hy
    · cases hy; exact b8_app (h zs rfl) (numI_b8 _ _)
    · cases hy
theorem OB.u32 {st : Option (List Int)} (h : OB st) (x : Int) : OB (u32W st x) := by
  intro ys hy
  cases st with
  | none => cases hy
  | some zs => cases hy; exact b8_app (h zs rfl) (numI_b8 _ _)
theorem OB.put {st : Option (List Int)} (h : OB st) {bs : List Int} (hb : B8 bs) : OB (putW st bs) := by
  intro ys hy
  cases st with
  | none => cases hy
  | some zs => cases hy; exact b8_app (h zs rfl) hb
theorem OB.nil : OB (some []) := fun ys hy => by cases hy; exact fun x hx => by simp at hx
theorem OB.com {st : Option (List Int)} (h : OB st) (a1 a2 a3 a4 a5 a6 a7 a8 : Int) (ln le : Nat) : OB (comW st a1 a2 a3 a4 a5 a6 a7 a8 ln le) :=
  (((((((((h.u16 _).u16 _).u16 _).u16 _).u16 _).u32 _).u32 _).u32 _).u16 _).u16 _
theorem locW_b8 {x : Hd} (h1 : B8 x.nm) (h2 : B8 x.ex) : OB (locW x) := (((OB.nil.u32 _).com _ _ _ _ _ _ _ _ _ _).put h1).put h2
theorem cenW_b8 {x : Cn} (h1 : B8 x.nm) (h2 : B8 x.ex) (h3 : B8 x.cm) : OB (cenW x) := ((((((((((OB.nil.u32 _).u16 _).com _ _ _ _ _ _ _ _ _ _).u16 _).u16 _).u16 _).u32 _).u32 _).put h1).put h2).put h3
theorem endW_b8 {x : En} (h1 : B8 x.cm) : OB (endW x) := (((((((((OB.nil.u32 _).u16 _).u16 _).u16 _).u16 _).u32 _).u32 _).u16 _).put h1)
/-- the bytes so far, the headers so far -/
structure JS (h0 h : GH) (y5 y6 : Sl) (o t : List Int) : Prop where
  keep : Keep h0 h []
  v5 : Bv h y5 o
  v6 : Bv h y6 t
  n5 : ∀ z ∈ rowsOf y5, h0.next ≤ z
  n6 : ∀ z ∈ rowsOf y6, h0.next ≤ z
  ne : ∀ z ∈ rowsOf y5, z ∉ rowsOf y6
theorem JS.step {h0 h h' : GH} {y5 y6 : Sl} {o t : List Int} (j : JS h0 h y5 y6 o t) (k : Keep h h' []) : JS h0 h' y5 y6 o t :=
  ⟨j.keep.trans k (by simp), j.v5.keep k (by simp), j.v6.keep k (by simp), j.n5, j.n6, j.ne⟩
theorem JS.app5 {h0 h : GH} {y5 y6 x : Sl} {o t ns : List Int} (j : JS h0 h y5 y6 o t) (r : Rd h x ns) (hm : o.length + ns.length ≤ 274877906944) :
    ∃ h' y5', JS h0 h' y5' y6 (o ++ ns) t ∧ Keep h h' (rowsOf y5) ∧ (∀ z ∈ rowsOf y5', z ∈ rowsOf y5 ∨ h.next ≤ z) ∧ ∀ (β : Type) (K : Sl → GH → Option β), gappS 1 1 y5 x h K = K y5' h' := by
  obtain ⟨h', s', e, v, k, n⟩ := app_bytes j.v5 r hm
  have hk := j.keep.1
  have lt6 := j.v6.lt
  refine ⟨h', s', ⟨j.keep.trans k (fun z hz => .inr (j.n5 z hz)), v, j.v6.keep k (fun z hz hm => j.ne z hm hz), fun z hz => ?_, j.n6, fun z hz hm => ?_⟩, k, n, e⟩
  · rcases n z hz with q | q
    · exact j.n5 z q
    · omega
  · rcases n z hz with q | q
    · exact j.ne z q hm
    · have := lt6 z hm; omega
theorem JS.app6 {h0 h : GH} {y5 y6 x : Sl} {o t ns : List Int} (j : JS h0 h y5 y6 o t) (r : Rd h x ns) (hm : t.length + ns.length ≤ 274877906944) :
    ∃ h' y6', JS h0 h' y5 y6' o (t ++ ns) ∧ Keep h h' (rowsOf y6) ∧ (∀ z ∈ rowsOf y6', z ∈ rowsOf y6 ∨ h.next ≤ z) ∧ ∀ (β : Type) (K : Sl → GH → Option β), gappS 1 1 y6 x h K = K y6' h' := by
  obtain ⟨h', s', e, v, k, n⟩ := app_bytes j.v6 r hm
  have hk := j.keep.1
  have lt5 := j.v5.lt
  refine ⟨h', s', ⟨j.keep.trans k (fun z hz => .inr (j.n6 z hz)), j.v5.keep k (fun z hz hm => j.ne z hz hm), v, j.n5, fun z hz => ?_, fun z hz hm => ?_⟩, k, n, e⟩
  · rcases n z hz with q | q
    · exact j.n6 z q
    · omega
  · rcases n z hm with q | q
    · exact j.ne z hz q
    · have := lt5 z hz; omega
theorem gput_row {h : GH} {g : Nat} {cs : List Value} (l : h.look g = some (.row ⟨cs, 0, false⟩)) (i : Nat) (v : Value) (hv : allCells [v] = true) (hi : i < cs.length) :
    ∃ h', Keep h h' [g] ∧ h'.look g = some (.row ⟨nlay cs i [v], 0, false⟩) ∧ ∀ (β : Type) (K : GH → Option β), gput g i [v] h K = K h' :=
  ⟨h.put g (some (.row ⟨nlay cs i [v], 0, false⟩)), keep_put h g _, look_put_same (look_lt l), fun β K => gput_eq l hv (by simp; omega) K⟩
set_option maxHeartbeats 4000000 in
theorem join_one {h0 h : GH} {y y4 y5 y6 : Sl} {lo i n : Nat} {l : List ItR} {x : ItR} {o t : List Int} (it : Its h y lo l) (hi : i < l.length) (hx : x = l[i]) (j : JS h0 h y5 y6 o t) (hr : ∀ z ∈ x.rows, z < h0.next) (hs : Sm x.it) (hl : l.length ≤ 90) (ho : o.length ≤ i * 10000) (ht : t.length ≤ i * 10000) {R : Nat} (hR : 4000000 < R) :
    (∀ a b, locW (hdJ x.it) = some a → cenW (cnJ x.it o.length) = some b → ∃ h' y5' y6', JS h0 h' y5' y6' (o ++ a ++ x.da) (t ++ b) ∧ (o ++ a ++ x.da).length ≤ (i + 1) * 10000 ∧ (t ++ b).length ≤ (i + 1) * 10000 ∧ ∀ (β : Type) (K0 : Sl → Sl → Sl → Sl → GH → Option β) (Kr : Sl → Int → GH → Option β), F_denote_Join_l0 (F_record_WriteLocal R) (F_record_WriteCentral R) (F_record_WriteEnd R) (F_record_FindEnd R) R (n + 1) y y4 y5 y6 y ((l.length : Nat) : Int) ((i : Nat) : Int) h K0 Kr = F_denote_Join_l0 (F_record_WriteLocal R) (F_record_WriteCentral R) (F_record_WriteEnd R) (F_record_FindEnd R) R n y y4 y5' y6' y ((l.length : Nat) : Int) ((i + 1 : Nat) : Int) h' K0 Kr) ∧
    (locW (hdJ x.it) = none ∨ cenW (cnJ x.it o.length) = none → ∃ h', Keep h0 h' [] ∧ ∀ (β : Type) (K0 : Sl → Sl → Sl → Sl → GH → Option β) (Kr : Sl → Int → GH → Option β), F_denote_Join_l0 (F_record_WriteLocal R) (F_record_WriteCentral R) (F_record_WriteEnd R) (F_record_FindEnd R) R (n + 1) y y4 y5 y6 y ((l.length : Nat) : Int) ((i : Nat) : Int) h K0 Kr = Kr ⟨none, 0, 0⟩ 18 h') := by
  have ok : ItOk h x := by rw [hx]; exact it.ok _ (List.getElem_mem hi)
  have hn5 := j.v5.n
  have hn18 := ok.r18.n
  have hw18 : IntKind.wrap .u32 ((x.s18.n : Nat) : Int) = ((x.da.length : Nat) : Int) := by
    have : x.da.length ≤ 3000 := hs.da.2
    rw [hn18, u32w (by omega)]
  have hda : x.da.length ≤ 3000 := hs.da.2
  have snm : x.c.nm.length ≤ 3000 := hs.nm.2
  have sxx : x.c.ex.length ≤ 3000 := hs.xx.2
  have scm : x.c.cm.length ≤ 3000 := hs.cm.2
  have sex : x.ex.length ≤ 3000 := hs.ex.2
  obtain ⟨g1, h1, k1, n1, l1, e1⟩ := tmp_row h [Value.int .i64 0, Value.int .i64 0, Value.int .i64 0, Value.int .i64 0, Value.int .i64 0, Value.int .u32 0, Value.int .u32 0, Value.int .u32 0, Value.slice none 0 0, Value.slice none 0 0, Value.int .i64 0, Value.int .i64 0, Value.int .i64 0, Value.int .u32 0, Value.int .u32 0, Value.slice none 0 0, Value.slice none 0 0, Value.slice none 0 0] [Value.int .i64 x.c.a1, Value.int .i64 x.c.a2, Value.int .i64 x.c.a3, Value.int .i64 x.c.a4, Value.int .i64 x.c.a5, Value.int .u32 x.c.a6, Value.int .u32 x.c.a7, Value.int .u32 x.c.a8, Value.slice x.s9.a x.s9.n x.s9.c, Value.slice x.s10.a x.s10.n x.s10.c, Value.int .i64 x.c.a11, Value.int .i64 x.c.a12, Value.int .i64 x.c.a13, Value.int .u32 x.c.a14, Value.int .u32 x.c.a15, Value.slice x.s16.a x.s16.n x.s16.c, Value.slice x.s17.a x.s17.n x.s17.c, Value.slice x.s18.a x.s18.n x.s18.c] rfl rfl rfl
  have c1 := fun o => cell_of l1 o
  obtain ⟨g2, h2, k2, n2, l2, e2⟩ := tmp_row h1 [Value.int .i64 0, Value.int .i64 0, Value.int .i64 0, Value.int .i64 0, Value.int .i64 0, Value.int .u32 0, Value.int .u32 0, Value.int .u32 0, Value.slice none 0 0, Value.slice none 0 0, Value.int .i64 0, Value.int .i64 0, Value.int .i64 0, Value.int .u32 0, Value.int .u32 0, Value.slice none 0 0] [Value.int .i64 x.c.a1, Value.int .i64 x.c.a2, Value.int .i64 x.c.a3, Value.int .i64 x.c.a4, Value.int .i64 x.c.a5, Value.int .u32 x.c.a6, Value.int .u32 x.c.a7, Value.int .u32 x.c.a8, Value.slice x.s9.a x.s9.n x.s9.c, Value.slice x.s10.a x.s10.n x.s10.c, Value.int .i64 x.c.a11, Value.int .i64 x.c.a12, Value.int .i64 x.c.a13, Value.int .u32 x.c.a14, Value.int .u32 x.c.a15, Value.slice x.s16.a x.s16.n x.s16.c] rfl rfl rfl
  have c2 := fun o => cell_of l2 o
  have lt1 := look_lt l1
  have lt2 := look_lt l2
  have m2 := k2.look l1 (by simp)
  have d2 := fun o => cell_of m2 o
  obtain ⟨h3, k3, l3', e3⟩ := gput_row l2 14 (.int .u32 ((o.length : Nat) : Int)) rfl (by simp)
  have l3 : h3.look g2 = some (.row ⟨[Value.int .i64 x.c.a1, Value.int .i64 x.c.a2, Value.int .i64 x.c.a3, Value.int .i64 x.c.a4, Value.int .i64 x.c.a5, Value.int .u32 x.c.a6, Value.int .u32 x.c.a7, Value.int .u32 x.c.a8, Value.slice x.s9.a x.s9.n x.s9.c, Value.slice x.s10.a x.s10.n x.s10.c, Value.int .i64 x.c.a11, Value.int .i64 x.c.a12, Value.int .i64 x.c.a13, Value.int .u32 x.c.a14, Value.int .u32 ((o.length : Nat) : Int), Value.slice x.s16.a x.s16.n x.s16.c], 0, false⟩) := l3'
  obtain ⟨h4, k4, l4', e4⟩ := gput_row l3 6 (.int .u32 ((x.da.length : Nat) : Int)) rfl (by simp)
  have l4 : h4.look g2 = some (.row ⟨[Value.int .i64 x.c.a1, Value.int .i64 x.c.a2, Value.int .i64 x.c.a3, Value.int .i64 x.c.a4, Value.int .i64 x.c.a5, Value.int .u32 x.c.a6, Value.int .u32 ((x.da.length : Nat) : Int), Value.int .u32 x.c.a8, Value.slice x.s9.a x.s9.n x.s9.c, Value.slice x.s10.a x.s10.n x.s10.c, Value.int .i64 x.c.a11, Value.int .i64 x.c.a12, Value.int .i64 x.c.a13, Value.int .u32 x.c.a14, Value.int .u32 ((o.length : Nat) : Int), Value.slice x.s16.a x.s16.n x.s16.c], 0, false⟩) := l4'
  have g12 : g1 ≠ g2 := by omega
  have m3 := k3.look m2 (by simpa using g12)
  have m4 := k4.look m3 (by simpa using g12)
  have d3 := fun o => cell_of m3 o
  have d4 := fun o => cell_of m4 o
  have c4 := fun o => cell_of l4 o
  obtain ⟨g5, h5, k5, n5, l5, e5⟩ := tmp_row h4 [Value.int .i64 0, Value.int .i64 0, Value.int .i64 0, Value.int .i64 0, Value.int .i64 0, Value.int .u32 0, Value.int .u32 0, Value.int .u32 0, Value.slice none 0 0, Value.slice none 0 0] [Value.int .i64 x.c.a1, Value.int .i64 x.c.a2, Value.int .i64 x.c.a3, Value.int .i64 x.c.a4, Value.int .i64 x.c.a5, Value.int .u32 x.c.a6, Value.int .u32 ((x.da.length : Nat) : Int), Value.int .u32 x.c.a8, Value.slice x.s9.a x.s9.n x.s9.c, Value.slice x.s10.a x.s10.n x.s10.c] rfl rfl rfl
  have m5 := k5.look m4 (by simp)
  have p5 := k5.look l4 (by simp)
  have d5 := fun o => cell_of m5 o
  have lt4 := look_lt m4
  have lt4' := look_lt l4
  obtain ⟨h6, k6, l6', e6⟩ := gput_row l5 9 (.slice x.s17.a x.s17.n x.s17.c) rfl (by simp)
  have l6 : h6.look g5 = some (.row ⟨[Value.int .i64 x.c.a1, Value.int .i64 x.c.a2, Value.int .i64 x.c.a3, Value.int .i64 x.c.a4, Value.int .i64 x.c.a5, Value.int .u32 x.c.a6, Value.int .u32 ((x.da.length : Nat) : Int), Value.int .u32 x.c.a8, Value.slice x.s9.a x.s9.n x.s9.c, Value.slice x.s17.a x.s17.n x.s17.c], 0, false⟩) := l6'
  have c6 := fun o => cell_of l6 o
  have m6 := k6.look m5 (by simp; omega)
  have p6 := k6.look p5 (by simp; omega)
  have b1 := k1.1
  have b2 := k2.1
  have b3 := k3.1
  have b4 := k4.1
  have b5 := k5.1
  have b6 := k6.1
  have k06 : Keep h h6 [] := ((((k1.trans k2 (by simp)).trans k3 (fun z hz => .inr (by simp at hz; omega))).trans k4 (fun z hz => .inr (by simp at hz; omega))).trans k5 (by simp)).trans k6 (fun z hz => .inr (by simp at hz; omega))
  have ok6 := ok.keep k06 (by simp)
  obtain ⟨h7, qa, k7, n7, v7, e7⟩ := write_local (h := h6) (hdJ x.it) (s9 := x.s9) (s10 := x.s17) ok6.r9 ok6.r17 (by show x.c.nm.length ≤ _; omega) (by show x.ex.length ≤ _; omega) (R := R) (by omega)
  have ok7 := ok6.keep k7 (by simp)
  have m7 := k7.look m6 (by simp)
  have p7 := k7.look p6 (by simp)
  have c7 := fun o => cell_of p7 o
  obtain ⟨h8, qb, k8, n8, v8, e8⟩ := write_central (h := h7) (cnJ x.it o.length) (s9 := x.s9) (s10 := x.s10) (s16 := x.s16) ok7.r9 ok7.r10 ok7.r16 (by show x.c.nm.length ≤ _; omega) (by show x.c.ex.length ≤ _; omega) (by show x.c.cm.length ≤ _; omega) (R := R) (by omega)
  have ok8 := ok7.keep k8 (by simp)
  have m8 := k8.look m7 (by simp)
  have d8 := fun o => cell_of m8 o
  have k08 : Keep h h8 [] := (k06.trans k7 (by simp)).trans k8 (by simp)
  have way : ∀ (β : Type) (K0 : Sl → Sl → Sl → Sl → GH → Option β) (Kr : Sl → Int → GH → Option β), F_denote_Join_l0 (F_record_WriteLocal R) (F_record_WriteCentral R) (F_record_WriteEnd R) (F_record_FindEnd R) R (n + 1) y y4 y5 y6 y ((l.length : Nat) : Int) ((i : Nat) : Int) h K0 Kr = (bif (if (locW (hdJ x.it)).isSome then (0 : Int) else 18) != 0 then Kr ⟨none, 0, 0⟩ (if (locW (hdJ x.it)).isSome then (0 : Int) else 18) h7 else (bif (if (cenW (cnJ x.it o.length)).isSome then (0 : Int) else 18) != 0 then Kr ⟨none, 0, 0⟩ (if (cenW (cnJ x.it o.length)).isSome then (0 : Int) else 18) h8 else gappS 1 1 y5 qa h8 fun s109 h110 => exS (h110.cell ⟨g1, 0 + 17, none⟩) fun x111 => gappS 1 1 s109 x111 h110 fun s112 h113 => (bif sameAt g1 (0 + 17) 1 h8 h110 then gappS 1 1 y6 qb h113 fun s114 h115 => F_denote_Join_l0 (F_record_WriteLocal R) (F_record_WriteCentral R) (F_record_WriteEnd R) (F_record_FindEnd R) R n y y4 s112 s114 y ((l.length : Nat) : Int) ((i + 1 : Nat) : Int) h115 K0 Kr else none))) := by
    intro β K0 Kr
    have at1 := fun K => it.at_ (β := β) hi K
    simp only [← hx] at at1
    rw [F_denote_Join_l0_succ, decT (by omega), condT]
    refine (at1 _).trans ?_
    refine (e1 β _).trans ?_
    simp only [c1, hn5, Nat.zero_add, Nat.reduceAdd, nth_s, nth_0, exI_s, exS_s', veqO_i, veqO_s, condT, sameAt_1]
    rw [decF (by omega), condF, decF (by omega), condF]
    refine (e2 β _).trans ?_
    rw [u32w (x := ((o.length : Nat) : Int)) (by omega)]
    simp only [d2, Nat.zero_add, Nat.reduceAdd, nth_s, nth_0, exI_s, exS_s', veqO_i, veqO_s, condT, sameAt_1]
    refine (e3 β _).trans ?_
    rw [hw18]
    refine (e4 β _).trans ?_
    simp only [d2, d3, c4, Nat.zero_add, Nat.reduceAdd, nth_s, nth_0, exI_s, exS_s', veqO_i, veqO_s, condT, sameAt_1]
    refine (e5 β _).trans ?_
    simp only [d5, Nat.zero_add, Nat.reduceAdd, nth_s, nth_0, exI_s, exS_s', veqO_i, veqO_s, condT, sameAt_1]
    refine (e6 β _).trans ?_
    simp only [c6, Nat.zero_add, Nat.reduceAdd, nth_s, nth_0, exI_s, exS_s', veqO_i, veqO_s, condT, sameAt_1]
    refine (e7 β _).trans ?_
    simp only [c7, Nat.zero_add, Nat.reduceAdd, nth_s, nth_0, exI_s, exS_s', veqO_i, veqO_s, condT, sameAt_1]
    cases hL : ((if (locW (hdJ x.it)).isSome then (0 : Int) else 18) != 0)
    · rw [condF, condF]
      refine (e8 β _).trans ?_
      rw [i64w (x := ((i : Nat) : Int) + 1) (by omega), show ((i : Nat) : Int) + 1 = ((i + 1 : Nat) : Int) by omega]
    · rw [condT, condT]
  refine ⟨fun a b ha hb => ?_, fun hno => ?_⟩
  · obtain ⟨va, la⟩ := v7 a ha
    obtain ⟨vb, lb⟩ := v8 b hb
    have la' : a.length ≤ 30 + x.c.nm.length + x.ex.length := la
    have lb' : b.length ≤ 46 + x.c.nm.length + x.c.ex.length + x.c.cm.length := lb
    have j8 := j.step k08
    have lt5 := j.v5.lt
    have lt6 := j.v6.lt
    obtain ⟨h9, y9, j9, k9, n9, e9⟩ := j8.app5 (va.keep k8 (by simp)).row (by omega)
    have m9 := k9.look m8 (fun hm => by have := lt5 _ hm; omega)
    have d9 := fun o => cell_of m9 o
    have b7 := k7.1
    have b8 := k8.1
    have b9 := k9.1
    have jk := j.keep.1
    have dd9 : Rd h9 x.s18 x.da := ok8.r18.keep k9 (fun z hz hm => by have := j.n5 z hm; have := hr z (by simp [ItR.rows, hz]); omega)
    have ltb := vb.lt
    obtain ⟨hA, yA, jA, kA, nA, eA⟩ := j9.app5 dd9 (by simp; omega)
    have b9' := kA.1
    have db9 : Rd h9 qb b := vb.row.keep k9 (fun z hz hm => by have := n8 z hz; have := lt5 z hm; omega)
    have dbA : Rd hA qb b := db9.keep kA (fun z hz hm => by
      rcases n9 z hm with q | q
      · have := n8 z hz; have := lt5 z q; omega
      · have := ltb z hz; omega)
    obtain ⟨hB, yB, jB, kB, nB, eB⟩ := jA.app6 dbA (by omega)
    refine ⟨hB, yA, yB, jB, by simp; omega, by simp; omega, fun β K0 Kr => ?_⟩
    rw [way, ha, hb, show ((if (some a).isSome = true then (0 : Int) else 18) != 0) = false from rfl, show ((if (some b).isSome = true then (0 : Int) else 18) != 0) = false from rfl, condF, condF]
    refine (e9 β _).trans ?_
    simp only [d8, d9, Nat.zero_add, Nat.reduceAdd, nth_s, nth_0, exI_s, exS_s', veqO_i, veqO_s, condT, sameAt_1]
    refine (eA β _).trans ?_
    exact eB β _
  · by_cases c : locW (hdJ x.it) = none
    · refine ⟨h7, j.keep.trans (k06.trans k7 (by simp)) (by simp), fun β K0 Kr => ?_⟩
      rw [way, c]; rfl
    · obtain ⟨a, ha⟩ := Option.ne_none_iff_exists'.1 c
      have hb : cenW (cnJ x.it o.length) = none := hno.resolve_left c
      refine ⟨h8, j.keep.trans k08 (by simp), fun β K0 Kr => ?_⟩
      rw [way, ha, hb]; rfl
theorem join_loop {h0 : GH} {y y4 : Sl} {lo : Nat} {l : List ItR} (it0 : Its h0 y lo l) (hs : ∀ x ∈ l, Sm x.it) (hl : l.length ≤ 90) {R : Nat} (hR : 4000000 < R) : ∀ (k i n : Nat) (h : GH) (y5 y6 : Sl) (o t : List Int), i + k = l.length → k < n → JS h0 h y5 y6 o t → o.length ≤ i * 10000 → t.length ≤ i * 10000 →
    (∀ r, jn ((l.drop i).map ItR.it) o t = some r → ∃ h' y5' y6', JS h0 h' y5' y6' r.1 r.2 ∧ r.1.length ≤ l.length * 10000 ∧ r.2.length ≤ l.length * 10000 ∧ ∀ (β : Type) (K0 : Sl → Sl → Sl → Sl → GH → Option β) (Kr : Sl → Int → GH → Option β), F_denote_Join_l0 (F_record_WriteLocal R) (F_record_WriteCentral R) (F_record_WriteEnd R) (F_record_FindEnd R) R n y y4 y5 y6 y ((l.length : Nat) : Int) ((i : Nat) : Int) h K0 Kr = K0 y y4 y5' y6' h') ∧
    (jn ((l.drop i).map ItR.it) o t = none → ∃ h', Keep h0 h' [] ∧ ∀ (β : Type) (K0 : Sl → Sl → Sl → Sl → GH → Option β) (Kr : Sl → Int → GH → Option β), F_denote_Join_l0 (F_record_WriteLocal R) (F_record_WriteCentral R) (F_record_WriteEnd R) (F_record_FindEnd R) R n y y4 y5 y6 y ((l.length : Nat) : Int) ((i : Nat) : Int) h K0 Kr = Kr ⟨none, 0, 0⟩ 18 h')
  | 0, i, n, h, y5, y6, o, t, hi, hn, j, ho, ht => by
    obtain ⟨n, rfl⟩ : ∃ n', n = n' + 1 := ⟨n - 1, by omega⟩
    obtain rfl : i = l.length := by omega
    rw [List.drop_length]
    rw [List.map_nil, jn_nil]
    refine ⟨fun r hr => ?_, fun hr => by cases hr⟩
    cases hr
    refine ⟨h, y5, y6, j, ho, ht, fun β K0 Kr => ?_⟩
    rw [F_denote_Join_l0_succ, decF (by omega), condF]
  | k + 1, i, n, h, y5, y6, o, t, hi, hn, j, ho, ht => by
    obtain ⟨n, rfl⟩ : ∃ n', n = n' + 1 := ⟨n - 1, by omega⟩
    have hi1 : i < l.length := by omega
    have one := join_one (n := n) (y4 := y4) (it0.keep j.keep (by simp)) hi1 rfl j (it0.ok _ (List.getElem_mem hi1)).lt (hs _ (List.getElem_mem hi1)) hl ho ht hR
    have hd : (l.drop i).map ItR.it = l[i].it :: (l.drop (i + 1)).map ItR.it := by rw [List.drop_eq_getElem_cons hi1, List.map_cons]
    rw [hd, jn_cons]
    cases ha : locW (hdJ l[i].it) with
    | none =>
      obtain ⟨h', k', e'⟩ := one.2 (.inl ha)
      rw [jn1_no (.inl ha), Option.bind_none]
      exact ⟨fun r hr => (by cases hr), fun _ => ⟨h', k', e'⟩⟩
    | some a =>
      cases hb : cenW (cnJ l[i].it o.length) with
      | none =>
        obtain ⟨h', k', e'⟩ := one.2 (.inr hb)
        rw [jn1_no (.inr hb), Option.bind_none]
        exact ⟨fun r hr => (by cases hr), fun _ => ⟨h', k', e'⟩⟩
      | some b =>
        obtain ⟨h1, z5, z6, j1, o1, t1, e1⟩ := one.1 a b ha hb
        rw [jn1_some ha hb, Option.bind_some]
        have ih := join_loop (y4 := y4) it0 hs hl hR k (i + 1) n h1 z5 z6 _ _ (by omega) (by omega) j1 o1 t1
        refine ⟨fun r hr => ?_, fun hr => ?_⟩
        · obtain ⟨h', y5', y6', j', b1, b2, e'⟩ := ih.1 r hr
          exact ⟨h', y5', y6', j', b1, b2, fun β K0 Kr => (e1 β K0 Kr).trans (e' β K0 Kr)⟩
        · obtain ⟨h', k', e'⟩ := ih.2 hr
          exact ⟨h', k', fun β K0 Kr => (e1 β K0 Kr).trans (e' β K0 Kr)⟩
theorem jn_b8 : ∀ (l : List It) {o t : List Int}, (∀ x ∈ l, Sm x) → B8 o → B8 t → ∀ r, jn l o t = some r → B8 r.1 ∧ B8 r.2
  | [], o, t, hs, ho, ht, r, hr => by
    rw [jn_nil] at hr
    cases hr
    exact ⟨ho, ht⟩
  | x :: l, o, t, hs, ho, ht, r, hr => by
    have s := hs x (.head _)
    rw [jn_cons] at hr
    cases ha : locW (hdJ x) with
    | none => rw [jn1_no (.inl ha)] at hr; cases hr
    | some a =>
      cases hb : cenW (cnJ x o.length) with
      | none => rw [jn1_no (.inr hb)] at hr; cases hr
      | some b =>
        rw [jn1_some ha hb, Option.bind_some] at hr
        exact jn_b8 l (fun z hz => hs z (.tail _ hz)) (b8_app (b8_app ho (locW_b8 (x := hdJ x) s.nm.1 s.ex.1 a ha)) s.da.1) (b8_app ht (cenW_b8 (x := cnJ x _) s.nm.1 s.xx.1 s.cm.1 b hb)) r hr
theorem join_prog {h0 : GH} {y c : Sl} {lo : Nat} {l : List ItR} {cm : List Int} (it0 : Its h0 y lo l) (rc : Rd h0 c cm) (hc : B8 cm) (hc2 : cm.length ≤ 3000) (hs : ∀ x ∈ l, Sm x.it) (hl : l.length ≤ 90) {R : Nat} (hR : 4000000 < R) :
    ∃ h' q, Keep h0 h' [] ∧ (∀ z ∈ rowsOf q, h0.next ≤ z) ∧ ((joinP (l.map ItR.it) cm).1 = 0 → Bv h' q (joinP (l.map ItR.it) cm).2 ∧ (joinP (l.map ItR.it) cm).2.length ≤ l.length * 20000 + 3022) ∧ ((joinP (l.map ItR.it) cm).1 ≠ 0 → q = ⟨none, 0, 0⟩ ∧ (joinP (l.map ItR.it) cm).2 = []) ∧ B8 (joinP (l.map ItR.it) cm).2 ∧ ∀ (β : Type) (K : Sl → Int → GH → Option β), F_denote_Join R y c h0 K = K q (joinP (l.map ItR.it) cm).1 h' := by
  have hyn := it0.n
  have hlen : (l.map ItR.it).length = l.length := List.length_map _
  have J0 : JS h0 h0 ⟨none, 0, 0⟩ ⟨none, 0, 0⟩ [] [] := ⟨.refl _ _, Vec.nil, Vec.nil, by simp [rowsOf], by simp [rowsOf], by simp [rowsOf]⟩
  have lp := join_loop (y4 := c) it0 hs hl hR l.length 0 R h0 _ _ [] [] (by omega) (by omega) J0 (by simp) (by simp)
  have hjb := jn_b8 (l.map ItR.it) (o := []) (t := []) (fun x hx => by obtain ⟨z, hz, rfl⟩ := List.mem_map.1 hx; exact hs z hz) (by simp [B8]) (by simp [B8])
  rw [List.drop_zero] at lp
  have hP : joinP (l.map ItR.it) cm = jnE l.length cm (jn (l.map ItR.it) [] []) := by unfold joinP; rw [hlen, if_neg (by omega)]
  rw [hP]
  cases hj : jn (l.map ItR.it) [] [] with
  | none =>
    obtain ⟨h', k', e'⟩ := lp.2 hj
    refine ⟨h', ⟨none, 0, 0⟩, k', by simp [rowsOf], by simp [jnE], by simp [jnE], by simp [jnE, B8], fun β K => ?_⟩
    unfold F_denote_Join
    rw [F_denote_Join_gen, hyn, decF (by omega), condF]
    exact e' β _ _
  | some r =>
    obtain ⟨h1, y5, y6, j1, b1, b2, e1⟩ := lp.1 r hj
    have hb := hjb r hj
    have n5 := j1.v5.n
    have n6 := j1.v6.n
    obtain ⟨h2, qz, k2, n2, v2, e2⟩ := write_end (h := h1) (enJ l.length r.2.length r.1.length cm) (s7 := c) (rc.keep j1.keep (by simp)) (by show cm.length ≤ _; omega) (R := R) (by omega)
    have hk := j1.keep.1
    have start : ∀ (β : Type) (K : Sl → Int → GH → Option β), F_denote_Join R y c h0 K = (bif (if (endW (enJ l.length r.2.length r.1.length cm)).isSome then (0 : Int) else 18) != 0 then K ⟨none, 0, 0⟩ (if (endW (enJ l.length r.2.length r.1.length cm)).isSome then (0 : Int) else 18) h2 else gappS 1 1 y5 y6 h2 fun s124 h125 => gappS 1 1 s124 qz h125 fun s126 h127 => F_record_FindEnd R s126 h127 fun r128 h129 => (bif r128 != ((r.1.length + r.2.length : Nat) : Int) then K ⟨none, 0, 0⟩ 4 h129 else K s126 0 h129)) := by
      intro β K
      unfold F_denote_Join
      rw [F_denote_Join_gen, hyn, decF (by omega), condF]
      refine (e1 β _ _).trans ?_
      rw [n5, n6, hyn, decF (by omega), condF, decF (by omega), condF, u32w (x := ((r.1.length : Nat) : Int)) (by omega), u32w (x := ((r.2.length : Nat) : Int)) (by omega)]
      refine (e2 β _).trans ?_
      rw [i64w (by omega), show ((r.1.length : Nat) : Int) + ((r.2.length : Nat) : Int) = ((r.1.length + r.2.length : Nat) : Int) by omega]
    cases hz : endW (enJ l.length r.2.length r.1.length cm) with
    | none =>
      rw [hz] at start
      refine ⟨h2, ⟨none, 0, 0⟩, j1.keep.trans k2 (by simp), by simp [rowsOf], by simp [jnE, hz], by simp [jnE, hz], by simp [jnE, hz, B8], fun β K => ?_⟩
      rw [start]
      simp only [jnE, hz]
      rfl
    | some z =>
      obtain ⟨vz, lz⟩ := v2 z hz
      have lz' : z.length ≤ 22 + cm.length := lz
      have hzb := endW_b8 (x := enJ l.length r.2.length r.1.length cm) hc z hz
      have j2 := j1.step k2
      have lt5 := j1.v5.lt
      obtain ⟨h3, y9, j3, k3, n3, e3⟩ := j2.app5 (x := y6) j2.v6.row (by omega)
      have vz3 : Rd h3 qz z := vz.row.keep k3 (fun w hw hm => by have := n2 w hw; have := lt5 w hm; omega)
      obtain ⟨h4, yA, j4, k4, n4, e4⟩ := j3.app5 vz3 (by simp; omega)
      have hb8 : B8 (r.1 ++ r.2 ++ z) := b8_app (b8_app hb.1 hb.2) hzb
      have ef := fun β K => find_end j4.v5.row hb8 (by simp; omega) hR (β := β) K
      rw [hz, show ((if (some z).isSome = true then (0 : Int) else 18) != 0) = false from rfl] at start
      by_cases cf : findE (r.1 ++ r.2 ++ z) = ((r.1.length + r.2.length : Nat) : Int)
      · have hE : jnE l.length cm (some r) = (0, r.1 ++ r.2 ++ z) := by simp only [jnE, hz]; rw [if_pos cf]
        rw [hE]
        refine ⟨h4, yA, j4.keep, j4.n5, fun _ => ⟨j4.v5, by simp; omega⟩, fun q => absurd rfl q, hb8, fun β K => ?_⟩
        rw [start, condF]
        refine (e3 β _).trans ?_
        refine (e4 β _).trans ?_
        rw [ef, cf, bne_self_eq_false, condF]
      · have hE : jnE l.length cm (some r) = (4, []) := by simp only [jnE, hz]; rw [if_neg cf]
        rw [hE]
        refine ⟨h4, ⟨none, 0, 0⟩, j4.keep, by simp [rowsOf], fun q => by simp at q, fun _ => ⟨rfl, rfl⟩, by simp [B8], fun β K => ?_⟩
        rw [start, condF]
        refine (e3 β _).trans ?_
        refine (e4 β _).trans ?_
        rw [ef, bne_iff_ne.2 cf, condT]
end Go.Proofs.Ytibngikhlgmhaaa.Gx

