/- Local headers with their data, and all of an archive: the program's same, local, Scan. No condition. -/
import Derived.Test.YtibngikhlgmhaaaDnE
namespace Go.Proofs.Ytibngikhlgmhaaa.Gx
open Go
set_option linter.unusedVariables false
set_option linter.unusedSimpArgs false
theorem exBs_u8 {β : Type} : ∀ (l : List Int) (K : List Int → Option β), exBs (u8s l) K = K l
  | [], K => rfl
  | x :: l, K => exBs_u8 l _
theorem bytes_inj : ∀ {xs ys : List Int}, B8 xs → B8 ys → (xs.map fun n => UInt8.ofNat n.toNat) = (ys.map fun n => UInt8.ofNat n.toNat) → xs = ys
  | [], [], _, _, _ => rfl
  | [], y :: ys, _, _, h => by simp at h
  | x :: xs, [], _, _, h => by simp at h
  | x :: xs, y :: ys, hx, hy, h => by
    have h1 := hx x (by simp)
    have h2 := hy y (by simp)
    rw [List.map_cons, List.map_cons] at h
    obtain ⟨e1, e2⟩ := List.cons.inj h
    have e3 := congrArg UInt8.toNat e1
    rw [UInt8.toNat_ofNat', UInt8.toNat_ofNat'] at e3
    rw [bytes_inj (fun z hz => hx z (by simp [hz])) (fun z hz => hy z (by simp [hz])) e2, show x = y by omega]
theorem beqS_bytes {xs ys : List Int} (hx : B8 xs) (hy : B8 ys) : beqS (bytesB xs) (bytesB ys) = decide (xs = ys) := by
  unfold beqS bytesB
  by_cases e : xs = ys
  · rw [e, decT rfl, beq_self_eq_true]
  · rw [decF e, beq_eq_false_iff_ne]
    intro q
    exact e (bytes_inj hx hy (by simpa using q))
theorem bytes_equal {h : GH} {a b : Sl} {xs ys : List Int} (ra : Rd h a xs) (rb : Rd h b ys) (hx : B8 xs) (hy : B8 ys) (R : Nat) {β : Type} (K : Bool → GH → Option β) : F_bytes_Equal R a b h K = K (decide (xs = ys)) h := by
  unfold F_bytes_Equal
  rw [F_bytes_Equal_gen, ra.cells, exBs_u8, rb.cells, exBs_u8, beqS_bytes hx hy]
theorem den_same {h : GH} (hd : Hd) (c : Cn) {s9 t9 : Sl} (s10 t10 : Sl) (r9 : Rd h s9 hd.nm) (u9 : Rd h t9 c.nm) (h8 : B8 hd.nm) (h8' : B8 c.nm) (R : Nat) :
    ∃ h', Keep h h' [] ∧ ∀ (β : Type) (K : Bool → GH → Option β), F_denote_same R hd.a1 hd.a2 hd.a3 hd.a4 hd.a5 hd.a6 hd.a7 hd.a8 s9 s10 c.a1 c.a2 c.a3 c.a4 c.a5 c.a6 c.a7 c.a8 t9 t10 h K = K (decide (sameH hd c)) h' := by
  have k1 := keep_push h (.row ⟨[Value.int .i64 hd.a1, Value.int .i64 hd.a2, Value.int .i64 hd.a3, Value.int .i64 hd.a4, Value.int .i64 hd.a5, Value.int .u32 hd.a6, Value.int .u32 hd.a7, Value.int .u32 hd.a8, Value.slice s9.a s9.n s9.c, Value.slice s10.a s10.n s10.c], 0, false⟩) []
  have l1 : (h.push (.row ⟨[Value.int .i64 hd.a1, Value.int .i64 hd.a2, Value.int .i64 hd.a3, Value.int .i64 hd.a4, Value.int .i64 hd.a5, Value.int .u32 hd.a6, Value.int .u32 hd.a7, Value.int .u32 hd.a8, Value.slice s9.a s9.n s9.c, Value.slice s10.a s10.n s10.c], 0, false⟩)).look h.next = some (.row ⟨[Value.int .i64 hd.a1, Value.int .i64 hd.a2, Value.int .i64 hd.a3, Value.int .i64 hd.a4, Value.int .i64 hd.a5, Value.int .u32 hd.a6, Value.int .u32 hd.a7, Value.int .u32 hd.a8, Value.slice s9.a s9.n s9.c, Value.slice s10.a s10.n s10.c], 0, false⟩) := look_push_new
  obtain ⟨h1, eh1⟩ : ∃ h1, h1 = h.push (.row ⟨[Value.int .i64 hd.a1, Value.int .i64 hd.a2, Value.int .i64 hd.a3, Value.int .i64 hd.a4, Value.int .i64 hd.a5, Value.int .u32 hd.a6, Value.int .u32 hd.a7, Value.int .u32 hd.a8, Value.slice s9.a s9.n s9.c, Value.slice s10.a s10.n s10.c], 0, false⟩) := ⟨_, rfl⟩
  have n1 : h1.next = h.next + 1 := by rw [eh1]; rfl
  rw [← eh1] at k1 l1
  have k2 := keep_push h1 (.row ⟨[Value.int .i64 c.a1, Value.int .i64 c.a2, Value.int .i64 c.a3, Value.int .i64 c.a4, Value.int .i64 c.a5, Value.int .u32 c.a6, Value.int .u32 c.a7, Value.int .u32 c.a8, Value.slice t9.a t9.n t9.c, Value.slice t10.a t10.n t10.c], 0, false⟩) []
  have l2 : (h1.push (.row ⟨[Value.int .i64 c.a1, Value.int .i64 c.a2, Value.int .i64 c.a3, Value.int .i64 c.a4, Value.int .i64 c.a5, Value.int .u32 c.a6, Value.int .u32 c.a7, Value.int .u32 c.a8, Value.slice t9.a t9.n t9.c, Value.slice t10.a t10.n t10.c], 0, false⟩)).look h1.next = some (.row ⟨[Value.int .i64 c.a1, Value.int .i64 c.a2, Value.int .i64 c.a3, Value.int .i64 c.a4, Value.int .i64 c.a5, Value.int .u32 c.a6, Value.int .u32 c.a7, Value.int .u32 c.a8, Value.slice t9.a t9.n t9.c, Value.slice t10.a t10.n t10.c], 0, false⟩) := look_push_new
  obtain ⟨h2, eh2⟩ : ∃ h2, h2 = h1.push (.row ⟨[Value.int .i64 c.a1, Value.int .i64 c.a2, Value.int .i64 c.a3, Value.int .i64 c.a4, Value.int .i64 c.a5, Value.int .u32 c.a6, Value.int .u32 c.a7, Value.int .u32 c.a8, Value.slice t9.a t9.n t9.c, Value.slice t10.a t10.n t10.c], 0, false⟩) := ⟨_, rfl⟩
  rw [← eh2] at k2 l2
  have m1 := k2.look l1 (by simp)
  have c1 := fun o => cell_of m1 o
  have c2 := fun o => cell_of l2 o
  have k02 := k1.trans k2 (by simp)
  have eq9 := fun β K => bytes_equal (β := β) (r9.keep k02 (by simp)) (u9.keep k02 (by simp)) h8 h8' R K
  refine ⟨h2, k02, fun β K => ?_⟩
  unfold F_denote_same
  rw [F_denote_same_gen]
  refine (gnew_eq rfl _).trans ?_
  rw [← eh1]
  refine (gnew_eq rfl _).trans ?_
  rw [← eh2]
  simp only [c1, c2, Nat.zero_add, nth_s, nth_0, exI_s, exS_s', beq_int, cond_dec]
  rw [eq9]
  by_cases e1 : hd.a1 = c.a1
  · rw [if_pos e1]
    by_cases e2 : hd.a2 = c.a2
    · rw [if_pos e2]
      by_cases e3 : hd.a3 = c.a3
      · rw [if_pos e3]
        by_cases e4 : hd.a4 = c.a4
        · rw [if_pos e4]
          by_cases e5 : hd.a5 = c.a5
          · rw [if_pos e5]
            by_cases e6 : hd.a6 = c.a6
            · rw [if_pos e6]
              by_cases e7 : hd.a7 = c.a7
              · rw [if_pos e7]
                by_cases e8 : hd.a8 = c.a8
                · rw [if_pos e8]
                  by_cases e9 : hd.nm = c.nm
                  · rw [decT e9, decT (show sameH hd c from ⟨e1, e2, e3, e4, e5, e6, e7, e8, e9⟩)]
                  · rw [decF e9, decF (fun q : sameH hd c => e9 q.2.2.2.2.2.2.2.2)]
                · rw [if_neg e8, decF (fun q : sameH hd c => e8 q.2.2.2.2.2.2.2.1)]
              · rw [if_neg e7, decF (fun q : sameH hd c => e7 q.2.2.2.2.2.2.1)]
            · rw [if_neg e6, decF (fun q : sameH hd c => e6 q.2.2.2.2.2.1)]
          · rw [if_neg e5, decF (fun q : sameH hd c => e5 q.2.2.2.2.1)]
        · rw [if_neg e4, decF (fun q : sameH hd c => e4 q.2.2.2.1)]
      · rw [if_neg e3, decF (fun q : sameH hd c => e3 q.2.2.1)]
    · rw [if_neg e2, decF (fun q : sameH hd c => e2 q.2.1)]
  · rw [if_neg e1, decF (fun q : sameH hd c => e1 q.1)]
/-! ### an item put anew -/
def ItR.upd (x : ItR) (ex da : List Int) (s17 s18 : Sl) : ItR := ⟨x.c, ex, da, x.s9, x.s10, x.s16, s17, s18⟩
theorem set_item (ex da : List Int) (s17 s18 : Sl) : ∀ (l : List ItR) (i : Nat) (hi : i < l.length), ((itCells l).set (i * 18 + 16) (.slice s17.a s17.n s17.c)).set (i * 18 + 17) (.slice s18.a s18.n s18.c) = itCells (l.set i (l[i].upd ex da s17 s18))
  | x :: l, 0, hi => rfl
  | x :: l, i + 1, hi => by
    have hi' : i < l.length := by simpa using hi
    have ih := set_item ex da s17 s18 l i hi'
    have hx : x.cells.length = 18 := rfl
    show ((x.cells ++ itCells l).set ((i + 1) * 18 + 16) _).set ((i + 1) * 18 + 17) _ = x.cells ++ itCells (l.set i (l[i].upd ex da s17 s18))
    rw [List.set_append_right _ _ (by omega), List.set_append_right _ _ (by omega), hx, show (i + 1) * 18 + 16 - 18 = i * 18 + 16 by omega, show (i + 1) * 18 + 17 - 18 = i * 18 + 17 by omega, ih]
theorem allCells_items : ∀ l : List ItR, allCells (itCells l) = true
  | [] => rfl
  | x :: l => allCells_items l
theorem nlay_set {α : Type} (l : List α) (i : Nat) (hi : i < l.length) (v : α) : nlay l i [v] = l.set i v := by
  rw [nlay_eq, List.set_eq_take_append_cons_drop, if_pos hi]
  simp
theorem Cur.t0' {h : GH} {g : Nat} {s : Sl} {bs : List Int} {p : Nat} (C : Cur h g s bs (p : Nat) 0) (hp : p ≤ bs.length) : CurT h g s bs p 0 := ⟨fun _ => C, fun q => absurd hp (by omega)⟩
theorem locErr_le {bs : List Int} {p : Nat} (h : locErr bs p = 0) : p + locLen bs p ≤ bs.length := by
  unfold locErr at h
  split at h
  · rename_i q; exact absurd h q
  · split at h
    · cases h
    · omega
theorem oneErr_le {bs : List Int} {c : Cn} {p : Nat} (h8 : B8 bs) (h : oneErr bs c p = 0) : p + oneLen bs p ≤ bs.length ∧ 0 ≤ (locAt bs p).a7 := by
  have h7 := (fld_bd h8 (p + 18)).2
  have e7 : (locAt bs p).a7 = fld bs (p + 18) 4 := rfl
  unfold oneErr at h
  split at h
  · cases h
  · split at h
    · rename_i q; exact absurd h q
    · rename_i q
      have := locErr_le (Decidable.not_not.1 q)
      split at h
      · cases h
      · split at h
        · rename_i q; exact absurd h q
        · split at h
          · cases h
          · unfold oneLen; omega
set_option maxHeartbeats 1000000 in
theorem den_local {h : GH} {gc : Nat} {s y : Sl} {LB : List Int} {lo : Nat} {l : List ItR} {p i : Nat} (it : Its h y lo l) (hi : i < l.length) (C : Cur h gc s LB (p : Nat) 0) (hp : p ≤ LB.length) (h8 : B8 LB) (hm : LB.length ≤ 2000000) (hlo : lo ≤ h.next)
    (hs1 : ∀ z ∈ ownC gc s, z ∉ rowsOf y) (hs2 : ∀ x ∈ l, ∀ z ∈ x.rows, z ∉ ownC gc s) (hnm : B8 l[i].c.nm) (h15 : 0 ≤ l[i].c.a15 ∧ l[i].c.a15 ≤ 4294967295) {R : Nat} (hR : 4000000 < R) :
    ∃ h', Keep h h' (gc :: rowsOf y) ∧ (oneErr LB l[i].c p = 0 → ∃ s17 s18, Its h' y lo (l.set i (l[i].upd (oneIt LB l[i].c p).ex (oneIt LB l[i].c p).da s17 s18)) ∧ Cur h' gc s LB ((p + oneLen LB p : Nat) : Int) 0 ∧ (∀ x ∈ l.set i (l[i].upd (oneIt LB l[i].c p).ex (oneIt LB l[i].c p).da s17 s18), ∀ z ∈ x.rows, z ∉ ownC gc s)) ∧
      ∀ (β : Type) (a1 : Option Addr) (K : Int → GH → Option β), (exA y.a fun g24 o25 => within (i : Nat) y.n (F_denote_scanner_local R a1 (some ⟨gc, 0, none⟩) (some ⟨g24, o25 + ((i : Nat) : Int).toNat * 18, none⟩) h K)) = K (oneErr LB l[i].c p) h' := by
  have hyn := it.n
  have hmem := List.getElem_mem hi
  have hgc : ∀ z ∈ rowsOf y, z ≠ gc := fun z hz q => hs1 gc (by simp [ownC]) (q ▸ hz)
  -- where the items lie
  obtain ⟨gy, hya, hyl⟩ : ∃ gy, y.a = some ⟨gy, 0, none⟩ ∧ h.look gy = some (.row ⟨itCells l, 18, false⟩) := by
    rcases it.vec.at_ with ⟨q1, q2⟩ | ⟨r, q1, q2⟩
    · omega
    · exact ⟨r, q1, q2⟩
  have hyr : rowsOf y = [gy] := by simp [rowsOf, hya]
  have hgy : gy ≠ gc := hgc gy (by simp [hyr])
  have hlen := itCells_len l
  have cy : ∀ {h' : GH}, h'.look gy = some (.row ⟨itCells l, 18, false⟩) → ∀ j, j < 18 → h'.cell ⟨gy, i * 18 + j, none⟩ = l[i].cells[j]? := fun hl j hj => by
    rw [cell_of hl, nth_eq, itCells_get l i hi j hj]
  have start : ∀ (β : Type) (a1 : Option Addr) (K : Int → GH → Option β), (exA y.a fun g24 o25 => within (i : Nat) y.n (F_denote_scanner_local R a1 (some ⟨gc, 0, none⟩) (some ⟨g24, o25 + ((i : Nat) : Int).toNat * 18, none⟩) h K)) = F_denote_scanner_local R a1 (some ⟨gc, 0, none⟩) (some ⟨gy, i * 18, none⟩) h K := fun β a1 K => by
    rw [hya]
    simp only [exA_s]
    rw [within_t (by omega) (by omega), Int.toNat_natCast, Nat.zero_add]
  have q14 := cy hyl 14 (by omega)
  have sA : sameAt gy (i * 18 + 14) 1 h h = true := by rw [sameAt_1, q14]; simp only [ItR.cells, List.getElem?_cons_succ, List.getElem?_cons_zero, veqO_i]
  have hw15 : IntKind.wrap .i64 l[i].c.a15 = l[i].c.a15 := i64w (by omega)
  by_cases d0 : l[i].c.a15 = (p : Nat)
  · obtain ⟨h1, a1, a2, a3, a4, a5, a6, a7, a8, q9, q10, nm, ex, e1, k1, w1⟩ := (CL.start (C.t0' hp)).readLocal h8 (by omega) (R := R) (by omega)
    obtain ⟨g2, h2, k2, n2, l2, e2⟩ := tmp_row h1 [Value.int .i64 0, Value.int .i64 0, Value.int .i64 0, Value.int .i64 0, Value.int .i64 0, Value.int .u32 0, Value.int .u32 0, Value.int .u32 0, Value.slice none 0 0, Value.slice none 0 0] [Value.int .i64 a1, Value.int .i64 a2, Value.int .i64 a3, Value.int .i64 a4, Value.int .i64 a5, Value.int .u32 a6, Value.int .u32 a7, Value.int .u32 a8, Value.slice q9.a q9.n q9.c, Value.slice q10.a q10.n q10.c] rfl rfl rfl
    have c2 := fun o => cell_of l2 o
    have b1 := k1.1
    have b2 := k2.1
    have y1 := k1.look hyl (by simp; exact hgy)
    have y2 := k2.look y1 (by simp)
    have hgyl := look_lt hyl
    have k02 : Keep h h2 [gc] := k1.trans k2 (by simp)
    have way : ∀ (β : Type) (b1 : Option Addr) (K : Int → GH → Option β), F_denote_scanner_local R b1 (some ⟨gc, 0, none⟩) (some ⟨gy, i * 18, none⟩) h K = (bif locErr LB p != 0 then K (locErr LB p) h2 else F_denote_same R a1 a2 a3 a4 a5 a6 a7 a8 q9 q10 l[i].c.a1 l[i].c.a2 l[i].c.a3 l[i].c.a4 l[i].c.a5 l[i].c.a6 l[i].c.a7 l[i].c.a8 l[i].s9 l[i].s10 h2 fun r46 h47 => (bif !r46 then K 15 h47 else exS (h47.cell ⟨g2, 0 + 9, none⟩) fun x48 => F_denote_checkExtra R x48 h47 fun r49 h50 => (bif r49 != 0 then K r49 h50 else exI .u32 (h50.cell ⟨g2, 0 + 6, none⟩) fun x51 => F_field_Cursor_Left R (some ⟨gc, 0, none⟩) h50 fun r52 h53 => (bif sameAt g2 (0 + 6) 1 h50 h53 then (bif decide ((IntKind.wrap .i64 x51) > r52) then K 14 h53 else exS (h53.cell ⟨g2, 0 + 9, none⟩) fun x54 => exI .u32 (h53.cell ⟨g2, 0 + 6, none⟩) fun x55 => F_field_Cursor_Bytes R (some ⟨gc, 0, none⟩) (IntKind.wrap .i64 x55) h53 fun r56 h57 => gput gy (i * 18 + 16) [Value.slice x54.a x54.n x54.c] h57 fun h60 => gput gy (i * 18 + 17) [Value.slice r56.a r56.n r56.c] h60 fun h63 => (bif sameAt g2 (0 + 9) 1 h53 h57 then K 0 h63 else none)) else none)))) := by
      intro β b1 K
      have q := fun j hj => cy y2 j hj
      have qq0 := q 0 (by omega)
      rw [Nat.add_zero] at qq0
      unfold F_denote_scanner_local
      rw [F_denote_scanner_local_gen]
      simp only [exA_s, Nat.add_zero]
      rw [q14]
      simp only [ItR.cells, List.getElem?_cons_succ, List.getElem?_cons_zero, exI_s]
      rw [at_cur C, sA, condT, hw15, d0, bne_self_eq_false, condF, e1]
      refine (e2 β _).trans ?_
      simp only [c2, Nat.zero_add, Nat.reduceAdd, Nat.add_assoc, nth_s, nth_0, exI_s, exS_s']
      rw [qq0, q 1 (by omega), q 2 (by omega), q 3 (by omega), q 4 (by omega), q 5 (by omega), q 6 (by omega), q 7 (by omega), q 8 (by omega), q 9 (by omega)]
      simp only [ItR.cells, List.getElem?_cons_succ, List.getElem?_cons_zero, exI_s, exS_s']
    unfold oneErr
    rw [if_neg (by simpa using d0)]
    by_cases d1 : locErr LB p = 0
    · obtain ⟨hh, hC⟩ := w1 d1
      have o9 := hC.sl q9 nm (by simp)
      have o10 := hC.sl q10 ex (by simp)
      have hle := locErr_le d1
      have C1 := (hC.cur.ok (by omega))
      rw [if_neg (by simpa using d1)]
      have hnm9 : B8 nm := by have : nm = (locAt LB p).nm := by rw [← hh]
                              rw [this]; exact b8_cut h8 _ _
      have hex : ex = (locAt LB p).ex := by rw [← hh]
      have hex8 : B8 ex := by rw [hex]; exact b8_cut h8 _ _
      have hexl : ex.length ≤ 2000000 := by rw [hex]; show (cutL _ _ _).length ≤ _; unfold cutL; simp; omega
      have h7 : a7 = (locAt LB p).a7 := by rw [← hh]
      have h7b := (fld_bd h8 (p + 18)).2
      have e7 : (locAt LB p).a7 = fld LB (p + 18) 4 := rfl
      have it2 := it.keep' k02 (fun z hz => by simpa using hgc z hz) (fun x hx z hz hm => by simp at hm; exact hs2 x hx z hz (by simp [ownC, hm]))
      have ok2 := it2.ok _ hmem
      obtain ⟨h3, k3, e3⟩ := den_same (h := h2) ⟨a1, a2, a3, a4, a5, a6, a7, a8, nm, ex⟩ l[i].c q10 l[i].s10 (o9.1.keep k2 (by simp)) ok2.r9 hnm9 hnm R
      have e3 : ∀ (β : Type) (K : Bool → GH → Option β), F_denote_same R a1 a2 a3 a4 a5 a6 a7 a8 q9 q10 l[i].c.a1 l[i].c.a2 l[i].c.a3 l[i].c.a4 l[i].c.a5 l[i].c.a6 l[i].c.a7 l[i].c.a8 l[i].s9 l[i].s10 h2 K = K (decide (sameH ⟨a1, a2, a3, a4, a5, a6, a7, a8, nm, ex⟩ l[i].c)) h3 := e3
      rw [hh] at e3
      have b3 := k3.1
      have l3 := k3.look l2 (by simp)
      have c3 := fun o => cell_of l3 o
      by_cases d2 : sameH (locAt LB p) l[i].c
      · rw [if_neg (by simpa using d2)]
        obtain ⟨h4, k4, e4⟩ := check_extra ((o10.1.keep k2 (by simp)).keep k3 (by simp)) hex8 hexl hR
        rw [hex] at e4
        have b4 := k4.1
        have l4 := k4.look l3 (by simp)
        have c4 := fun o => cell_of l4 o
        by_cases d3 : chkX (locAt LB p).ex = 0
        · rw [if_neg (by simpa using d3)]
          have C4 := ((C1.keep k2 (by simp)).keep k3 (by simp)).keep k4 (by simp)
          have hleft := fun β K => left_cur (β := β) C4 ⟨by omega, by omega⟩ (by omega) R K
          have sB : sameAt g2 6 1 h4 h4 = true := by simp only [sameAt_1, c4, nth_s, nth_0, veqO_i]
          have hw7 : IntKind.wrap .i64 a7 = a7 := i64w (by omega)
          by_cases d4 : (locAt LB p).a7 > (LB.length : Int) - ((p + locLen LB p : Nat) : Int)
          · rw [if_pos d4]
            refine ⟨h4, ((k02.trans k3 (by simp)).trans k4 (by simp)).mono (by simp), fun q => (by cases q), fun β b1 K => ?_⟩
            rw [start, way, d1, bne_self_eq_false, condF]
            refine (e3 β _).trans ?_
            rw [decT d2, notT, condF]
            simp only [c3, Nat.zero_add, nth_s, nth_0, exI_s, exS_s']
            refine (e4 β _).trans ?_
            rw [d3, bne_self_eq_false, condF]
            simp only [c4, Nat.zero_add, nth_s, nth_0, exI_s, exS_s']
            rw [hleft, sB, condT, leftP, if_pos rfl, hw7, h7, decT d4, condT]
          · rw [if_neg d4]
            obtain ⟨h5, s18, da, e5, C5, v5, k5, n5, w5⟩ := (C4.t0' (by omega)).bytes (by omega) a7.toNat R
            rw [Int.toNat_of_nonneg (by omega)] at e5
            have hoff : p + locLen LB p + 0 + a7.toNat ≤ LB.length := by omega
            have hda := w5 hoff
            have b5 := k5.1
            have hgcl := C.lt gc (by simp [ownC])
            have l5 := k5.look l4 (by simp; omega)
            have c5 := fun o => cell_of l5 o
            have y5 := (k5.look ((k4.look (k3.look y2 (by simp)) (by simp))) (by simp; exact hgy))
            have sC : sameAt g2 9 1 h4 h5 = true := by simp only [sameAt_1, c4, c5, nth_s, nth_0, veqO_s]
            have C5' := C5.ok (by omega)
            have k05 : Keep h h5 [gc] := (((k02.trans k3 (by simp)).trans k4 (by simp)).trans k5 (fun z hz => .inl hz))
            have it5 := it.keep' k05 (fun z hz => by simpa using hgc z hz) (fun x hx z hz hm => by simp at hm; exact hs2 x hx z hz (by simp [ownC, hm]))
            have k6 := keep_put h5 gy (some (.row ⟨(itCells l).set (i * 18 + 16) (.slice q10.a q10.n q10.c), 18, false⟩))
            obtain ⟨h6, eh6⟩ : ∃ h6, h6 = h5.put gy (some (.row ⟨(itCells l).set (i * 18 + 16) (.slice q10.a q10.n q10.c), 18, false⟩)) := ⟨_, rfl⟩
            rw [← eh6] at k6
            have y6 : h6.look gy = some (.row ⟨(itCells l).set (i * 18 + 16) (.slice q10.a q10.n q10.c), 18, false⟩) := by rw [eh6]; exact look_put_same (look_lt y5)
            have k7 := keep_put h6 gy (some (.row ⟨itCells (l.set i (l[i].upd ex da q10 s18)), 18, false⟩))
            obtain ⟨h7', eh7⟩ : ∃ h7', h7' = h6.put gy (some (.row ⟨itCells (l.set i (l[i].upd ex da q10 s18)), 18, false⟩)) := ⟨_, rfl⟩
            rw [← eh7] at k7
            have y7 : h7'.look gy = some (.row ⟨itCells (l.set i (l[i].upd ex da q10 s18)), 18, false⟩) := by rw [eh7]; exact look_put_same (look_lt y6)
            have k67 : Keep h5 h7' [gy] := k6.trans k7 (by simp)
            have r10 : Rd h5 q10 ex := (((o10.1.keep k2 (by simp)).keep k3 (by simp)).keep k4 (by simp)).keep k5 (fun z hz hm => by have := (o10.2 z hz).1; have := C.lt gc (by simp [ownC]); simp at hm; omega)
            have new10 : ∀ z ∈ rowsOf q10, h.next ≤ z := fun z hz => (o10.2 z hz).1
            have new18 : ∀ z ∈ rowsOf s18, h.next ≤ z := fun z hz => by have := n5 z hz; omega
            have hclt := C.lt
            have hux : ∀ z ∈ (l[i].upd ex da q10 s18).rows, z ∈ l[i].rows ∨ h.next ≤ z := fun z hz => by
              simp only [ItR.upd, ItR.rows, List.mem_append] at hz ⊢
              rcases hz with (((hz | hz) | hz) | hz) | hz
              · exact .inl (.inl (.inl (.inl (.inl hz))))
              · exact .inl (.inl (.inl (.inl (.inr hz))))
              · exact .inl (.inl (.inl (.inr hz)))
              · exact .inr (new10 z hz)
              · exact .inr (new18 z hz)
            have hset : ∀ x ∈ l.set i (l[i].upd ex da q10 s18), x = l[i].upd ex da q10 s18 ∨ x ∈ l := fun x hx => (List.mem_or_eq_of_mem_set hx).symm
            have it7 : Its h7' y lo (l.set i (l[i].upd ex da q10 s18)) := by
              refine ⟨⟨by rw [itCells_len, List.length_set, hyn], it5.vec.c, allCells_items _, .inr ⟨gy, hya, y7⟩⟩, fun x hx => ?_, fun x hx z hz => ?_, it5.lo⟩
              · rcases hset x hx with rfl | hx
                · have o := (it5.ok _ hmem).keep k67 (fun z hz hm => by simp at hm; subst hm; exact (it5.own _ hmem _ hz).2 (by simp [hyr]))
                  exact ⟨o.r9, o.r10, o.r16, r10.keep k67 (fun z hz hm => by simp at hm; subst hm; have := new10 _ hz; omega), v5.row.keep k67 (fun z hz hm => by simp at hm; subst hm; have := new18 _ hz; omega)⟩
                · exact (it5.ok x hx).keep k67 (fun z hz hm => by simp at hm; subst hm; exact (it5.own x hx _ hz).2 (by simp [hyr]))
              · rcases hset x hx with rfl | hx
                · rcases hux z hz with q | q
                  · exact it5.own _ hmem z q
                  · exact ⟨by omega, by rw [hyr]; simp; omega⟩
                · exact it5.own x hx z hz
            refine ⟨h7', (k05.mono (o1 := gc :: rowsOf y) (by simp)).trans k67 (fun z hz => .inl (by simp at hz; simp [hyr, hz])), fun _ => ⟨q10, s18, ?_, ?_, fun x hx z hz hm => ?_⟩, fun β b1 K => ?_⟩
            · have x1 : (oneIt LB l[i].c p).ex = ex := hex.symm
              have x2 : (oneIt LB l[i].c p).da = da := by rw [hda]; unfold oneIt cutL; rw [h7]; rfl
              rw [x1, x2]; exact it7
            · have := C5'.keep k67 (fun z hz hm => by simp at hm; subst hm; exact hs1 _ hz (by simp [hyr]))
              rw [show p + oneLen LB p = p + locLen LB p + (0 + a7.toNat) by unfold oneLen; rw [← h7]; omega]
              exact this
            · have x1 : (oneIt LB l[i].c p).ex = ex := hex.symm
              have x2 : (oneIt LB l[i].c p).da = da := by rw [hda]; unfold oneIt cutL; rw [h7]; rfl
              rw [x1, x2] at hx
              rcases hset x hx with rfl | hx
              · rcases hux z hz with q | q
                · exact hs2 _ hmem z q hm
                · have := hclt z hm; omega
              · exact hs2 x hx z hz hm
            · rw [start, way, d1, bne_self_eq_false, condF]
              refine (e3 β _).trans ?_
              rw [decT d2, notT, condF]
              simp only [c3, Nat.zero_add, nth_s, nth_0, exI_s, exS_s']
              refine (e4 β _).trans ?_
              rw [d3, bne_self_eq_false, condF]
              simp only [c4, Nat.zero_add, nth_s, nth_0, exI_s, exS_s']
              rw [hleft, sB, condT, leftP, if_pos rfl, hw7, decF (by rw [h7]; exact d4), condF]
              simp only [c4, Nat.zero_add, nth_s, nth_0, exI_s, exS_s']
              rw [hw7, e5, gput_eq y5 rfl (by rw [hlen]; simp; omega), nlay_set _ _ (by rw [hlen]; omega), ← eh6, gput_eq y6 rfl (by rw [List.length_set, hlen]; simp; omega), nlay_set _ _ (by rw [List.length_set, hlen]; omega), set_item ex da q10 s18 l i hi, ← eh7, sC, condT]
        · rw [if_pos d3]
          refine ⟨h4, ((k02.trans k3 (by simp)).trans k4 (by simp)).mono (by simp), fun q => absurd q d3, fun β b1 K => ?_⟩
          rw [start, way, d1, bne_self_eq_false, condF]
          refine (e3 β _).trans ?_
          rw [decT d2, notT, condF]
          simp only [c3, Nat.zero_add, nth_s, nth_0, exI_s, exS_s']
          refine (e4 β _).trans ?_
          rw [bne_iff_ne.2 d3, condT]
      · rw [if_pos d2]
        refine ⟨h3, (k02.trans k3 (by simp)).mono (by simp), fun q => (by cases q), fun β b1 K => ?_⟩
        rw [start, way, d1, bne_self_eq_false, condF]
        refine (e3 β _).trans ?_
        rw [decF d2, notF, condT]
    · rw [if_pos d1]
      refine ⟨h2, k02.mono (by simp), fun q => absurd q d1, fun β b1 K => ?_⟩
      rw [start, way, bne_iff_ne.2 d1, condT]
  · have hE : oneErr LB l[i].c p = 14 := by unfold oneErr; rw [if_pos d0]
    rw [hE]
    refine ⟨h, .refl _ _, fun q => (by cases q), fun β b1 K => ?_⟩
    rw [start]
    unfold F_denote_scanner_local
    rw [F_denote_scanner_local_gen]
    simp only [exA_s, Nat.add_zero]
    rw [q14]
    simp only [ItR.cells, List.getElem?_cons_succ, List.getElem?_cons_zero, exI_s]
    rw [at_cur C, sA, condT, hw15, bne_iff_ne.2 d0, condT]
end Go.Proofs.Ytibngikhlgmhaaa.Gx

