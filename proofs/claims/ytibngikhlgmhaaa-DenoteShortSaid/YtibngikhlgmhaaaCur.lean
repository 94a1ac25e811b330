/- Clones of rows of bytes, numbers of bytes, the program's cursor: what each call comes to. No condition. -/
import Derived.Test.YtibngikhlgmhaaaVec
import Derived.Test.YtibngikhlgmhaaaGxx
namespace Go.Proofs.Ytibngikhlgmhaaa.Gx
open Go
set_option linter.unusedVariables false
/-- bytes as a number, the lowest first -/
def le : List Int → Int
  | [] => 0
  | b :: r => b + 256 * le r
theorem le_app : ∀ (a : List Int) (b : Int), le (a ++ [b]) = le a + 256 ^ a.length * b
  | [], b => by simp [le]
  | x :: a, b => by simp only [List.cons_append, le, le_app a b, List.length_cons, Int.pow_succ, Int.mul_add]; rw [Int.mul_comm (256 ^ a.length) 256, Int.mul_assoc, Int.add_assoc]
theorem le_bound : ∀ {a : List Int}, B8 a → 0 ≤ le a ∧ le a < 256 ^ a.length
  | [], _ => by simp [le]
  | x :: a, h => by
    have h1 := h x (.head _)
    have h2 := le_bound (a := a) fun b hb => h b (.tail _ hb)
    simp only [le, List.length_cons, Int.pow_succ]
    omega
theorem u32_max : IntKind.u32.max = 4294967295 := by decide +kernel
theorem u32w {x : Int} (h : 0 ≤ x ∧ x ≤ 4294967295) : IntKind.wrap .u32 x = x := by
  have e := IntWalk.u32_in x (by omega)
  exact e
theorem or_add {a b : Nat} {i : Nat} (ha : a < 2 ^ i) (hb : b * 2 ^ i + a < 2 ^ 32) : (BitVec.ofNat 32 a ||| BitVec.ofNat 32 (b * 2 ^ i)).toNat = a + b * 2 ^ i := by
  have h1 : b * 2 ^ i < 2 ^ 32 := by omega
  rw [BitVec.toNat_or, BitVec.toNat_ofNat, BitVec.toNat_ofNat, Nat.mod_eq_of_lt (by omega), Nat.mod_eq_of_lt h1, Nat.or_comm]
  have := Nat.shiftLeft_add_eq_or_of_lt ha b
  rw [Nat.shiftLeft_eq] at this
  omega
theorem pow_cast (n : Nat) : ((256 ^ n : Nat) : Int) = (256 : Int) ^ n := Int.natCast_pow 256 n
theorem or_byte {acc b : Int} {n : Nat} (hn : n ≤ 3) (ha : 0 ≤ acc ∧ acc < 256 ^ n) (hb : 0 ≤ b ∧ b ≤ 255) :
    IntKind.wrap .u32 (BitVec.ofInt (IntKind.bits .u32) acc ||| BitVec.ofInt (IntKind.bits .u32) (shlI .u32 (IntKind.wrap .u32 b) (IntKind.wrap .i64 (8 * (n : Int))))).toNat = acc + 256 ^ n * b := by
  obtain ⟨a, rfl⟩ : ∃ a : Nat, acc = a := ⟨acc.toNat, by omega⟩
  obtain ⟨c, rfl⟩ : ∃ c : Nat, b = c := ⟨b.toNat, by omega⟩
  have hbits : IntKind.bits .u32 = 32 := rfl
  rw [hbits, u32w (by omega : 0 ≤ (c : Int) ∧ (c : Int) ≤ 4294967295), i64w (by omega), show 8 * (n : Int) = ((8 * n : Nat) : Int) by omega]
  have hp : (2 : Nat) ^ (8 * n) = 256 ^ n := by rw [Nat.pow_mul]
  have ha1 : a < 256 ^ n := by have := ha.2; rw [← pow_cast] at this; omega
  have ha2 : a < 2 ^ (8 * n) := by rw [hp]; exact ha1
  have hc : c * 2 ^ (8 * n) + a < 2 ^ 32 := by
    have h1 : c ≤ 255 := by omega
    have h2 : c * 2 ^ (8 * n) ≤ 255 * 2 ^ (8 * n) := Nat.mul_le_mul_right _ h1
    have h3 : (2 : Nat) ^ (8 * n) ≤ 2 ^ 24 := Nat.pow_le_pow_right (by omega) (by omega)
    omega
  have hs : shlI .u32 (c : Int) ((8 * n : Nat) : Int) = ((c * 2 ^ (8 * n) : Nat) : Int) := by
    have hm : min ((8 * n : Nat) : Int).toNat (IntKind.bits .u32) = 8 * n := by rw [hbits, Int.toNat_natCast]; omega
    have hq : ((c : Int) * 2 ^ (8 * n)) = ((c * 2 ^ (8 * n) : Nat) : Int) := by rw [Int.natCast_mul, Int.natCast_pow]; rfl
    rw [shlI, hm, hq, u32w (by omega)]
  have e1 : BitVec.ofInt 32 (a : Int) = BitVec.ofNat 32 a := BitVec.ofInt_natCast 32 a
  have e2 : BitVec.ofInt 32 ((c * 2 ^ (8 * n) : Nat) : Int) = BitVec.ofNat 32 (c * 2 ^ (8 * n)) := BitVec.ofInt_natCast 32 _
  rw [hs, e1, e2, or_add ha2 hc, u32w (by omega), hp, Int.natCast_add, Int.natCast_mul, pow_cast, Int.mul_comm (c : Int)]
/-! ### clones -/
theorem clone_rd {h : GH} {s : Sl} {bs : List Int} (r : Rd h s bs) (hm : bs.length ≤ 274877906944) (R : Nat) : ∃ h' q, (∀ (β : Type) (K : Sl → GH → Option β), F_bytes_Clone R s h K = K q h') ∧ Bv h' q bs ∧ Keep h h' [] ∧ ∀ k ∈ rowsOf q, h.next ≤ k := by
  rcases r.at_ with ⟨h1, h2, h3⟩ | ⟨g, o, b, h1, _⟩
  · have : bs = [] := List.length_eq_zero_iff.1 (by rw [← r.n, h2])
    subst this
    refine ⟨h, ⟨none, 0, 0⟩, fun β K => ?_, Vec.nil, .refl _ _, by simp [rowsOf]⟩
    unfold F_bytes_Clone; rw [F_bytes_Clone_gen, h1]; rfl
  · have k0 := keep_push h (.row ⟨[], 1, false⟩) []
    have v0 : Bv (h.push (.row ⟨[], 1, false⟩)) ⟨some ⟨h.next, 0, none⟩, 0, 0⟩ [] := Vec.new rfl (by simp)
    obtain ⟨h', q, e, v, k, n⟩ := app_bytes v0 (r.keep k0 (by simp)) (by simpa using hm)
    refine ⟨h', q, fun β K => ?_, by simpa using v, k0.trans k fun x hx => .inr (by simp [rowsOf] at hx; omega), fun x hx => ?_⟩
    · unfold F_bytes_Clone; rw [F_bytes_Clone_gen, h1, isNone_s, condF, gnew_eq rfl]
      exact e β K
    · rcases n x hx with h' | h'
      · simp [rowsOf] at h'; omega
      · have := k0.1; omega
theorem rd_nil {h : GH} : Rd h ⟨none, 0, 0⟩ [] := Row.nil
/-! ### the program's cursor -/
structure Cur (h : GH) (g : Nat) (s : Sl) (bs : List Int) (at_ err : Int) : Prop where
  hd : h.look g = some (.row ⟨[.slice s.a s.n s.c, .int .i64 at_, .int .i64 err, .bool true], 0, false⟩)
  rd : Bv h s bs
  ne : g ∉ rowsOf s
def ownC (g : Nat) (s : Sl) : List Nat := g :: rowsOf s
section
variable {h : GH} {g : Nat} {s : Sl} {bs : List Int} {at_ err : Int}
theorem Cur.lt (C : Cur h g s bs at_ err) : ∀ k ∈ ownC g s, k < h.next := fun k hk => by
  rcases List.mem_cons.1 hk with rfl | hk
  · exact look_lt C.hd
  · exact C.rd.lt k hk
theorem Cur.keep {h' : GH} {own : List Nat} (C : Cur h g s bs at_ err) (k : Keep h h' own) (hd : ∀ x ∈ ownC g s, x ∉ own) : Cur h' g s bs at_ err :=
  ⟨k.look C.hd (hd g (by simp [ownC])), C.rd.keep k fun x hx => hd x (by simp [ownC, hx]), C.ne⟩
theorem Cur.c0 (C : Cur h g s bs at_ err) : h.cell ⟨g, 0 + 0, none⟩ = some (.slice s.a s.n s.c) := by rw [cell_of C.hd]; rfl
theorem Cur.c1 (C : Cur h g s bs at_ err) : h.cell ⟨g, 0 + 1, none⟩ = some (.int .i64 at_) := by rw [cell_of C.hd]; rfl
theorem Cur.c2 (C : Cur h g s bs at_ err) : h.cell ⟨g, 0 + 2, none⟩ = some (.int .i64 err) := by rw [cell_of C.hd]; rfl
theorem Cur.c3 (C : Cur h g s bs at_ err) : h.cell ⟨g, 0 + 3, none⟩ = some (.bool true) := by rw [cell_of C.hd]; rfl
theorem Cur.upd (C : Cur h g s bs at_ err) (j : Nat) (v : Value) {a' e' : Int} (hc : nlay [.slice s.a s.n s.c, .int .i64 at_, .int .i64 err, .bool true] (0 + j) [v] = [.slice s.a s.n s.c, .int .i64 a', .int .i64 e', .bool true]) (hj : j < 4) (ha : allCells [v] = true) :
    ∃ h', (∀ (β : Type) (K : GH → Option β), gput g (0 + j) [v] h K = K h') ∧ Cur h' g s bs a' e' ∧ Keep h h' [g] := by
  refine ⟨h.put g (some (.row ⟨[.slice s.a s.n s.c, .int .i64 a', .int .i64 e', .bool true], 0, false⟩)), fun β K => ?_, ⟨look_put_same (look_lt C.hd), C.rd.keep (keep_put h g _) fun x hx hm => C.ne (List.mem_singleton.1 hm ▸ hx), C.ne⟩, keep_put h g _⟩
  rw [gput_eq C.hd ha (by simp; omega), hc]
theorem open_cur {a : Sl} (r : Rd h a bs) (hm : bs.length ≤ 274877906944) (R : Nat) : ∃ h' g s, (∀ (β : Type) (K : Option Addr → GH → Option β), F_field_Open R a h K = K (some ⟨g, 0, none⟩) h') ∧ Cur h' g s bs 0 0 ∧ Keep h h' [] ∧ ∀ k ∈ ownC g s, h.next ≤ k := by
  obtain ⟨h1, q, e1, v1, k1, n1⟩ := clone_rd r hm R
  have k2 := keep_push h1 (.row ⟨[.slice q.a q.n q.c, .int .i64 0, .int .i64 0, .bool true], 0, false⟩) []
  refine ⟨_, h1.next, q, fun β K => ?_, ⟨look_push_new, v1.keep k2 (by simp), fun hm => by have := v1.lt _ hm; omega⟩, k1.trans k2 (by simp), fun k hk => ?_⟩
  · unfold F_field_Open; rw [F_field_Open_gen, e1, gnew_eq rfl]
  · rcases List.mem_cons.1 hk with rfl | hk
    · exact k1.1
    · exact n1 k hk
variable {β : Type}
theorem err_cur (C : Cur h g s bs at_ err) (R : Nat) (K : Int → GH → Option β) : F_field_Cursor_Err R (some ⟨g, 0, none⟩) h K = K err h := by
  unfold F_field_Cursor_Err; rw [F_field_Cursor_Err_gen]
  simp only [isNone_s, condF, exA_s, C.c3, exB_s, notT, C.c2, exI_s]
def leftP (n : Nat) (at_ err : Int) : Int := if err = 0 then n - at_ else 0
theorem left_cur (C : Cur h g s bs at_ err) (hat : 0 ≤ at_ ∧ at_ ≤ bs.length) (hm : bs.length ≤ 274877906944) (R : Nat) (K : Int → GH → Option β) : F_field_Cursor_Left R (some ⟨g, 0, none⟩) h K = K (leftP bs.length at_ err) h := by
  unfold F_field_Cursor_Left; rw [F_field_Cursor_Left_gen, err_cur C]
  by_cases he : err = 0
  · rw [he, bne_self_eq_false, condF]
    simp only [exA_s, C.c0, exS_s, C.c1, exI_s, leftP, if_true]
    rw [C.rd.n, i64w (by omega)]
  · rw [bne_iff_ne.2 he, condT, leftP, if_neg he]
theorem at_cur (C : Cur h g s bs at_ err) (R : Nat) (K : Int → GH → Option β) : F_field_Cursor_At R (some ⟨g, 0, none⟩) h K = K at_ h := by
  unfold F_field_Cursor_At; rw [F_field_Cursor_At_gen]
  simp only [isNone_s, condF, exA_s, C.c1, exI_s]
/-- what is taken: bytes, the place behind, the error -/
def takeP (bs : List Int) (at_ err n : Int) : List Int × Int × Int :=
  if err ≠ 0 then ([], at_, err) else if n < 0 then ([], at_, 2) else if n > bs.length - at_ then ([], at_, 3) else ((bs.drop at_.toNat).take n.toNat, at_ + n, 0)
theorem takeP_at {n : Int} (hat : 0 ≤ at_ ∧ at_ ≤ bs.length) : 0 ≤ (takeP bs at_ err n).2.1 ∧ (takeP bs at_ err n).2.1 ≤ bs.length := by
  unfold takeP; (repeat' split) <;> simp only [] <;> omega
theorem take_cur (C : Cur h g s bs at_ err) (hat : 0 ≤ at_ ∧ at_ ≤ bs.length) (hm : bs.length ≤ 274877906944) (n : Int) (R : Nat) : ∃ h' q, (∀ (β : Type) (K : Sl → GH → Option β), F_field_Cursor_take R (some ⟨g, 0, none⟩) n h K = K q h') ∧
    Cur h' g s bs (takeP bs at_ err n).2.1 (takeP bs at_ err n).2.2 ∧ Rd h' q (takeP bs at_ err n).1 ∧ Keep h h' [g] ∧ (∀ k ∈ rowsOf q, k ∈ rowsOf s) := by
  have gen : ∀ (β : Type) (K : Sl → GH → Option β), F_field_Cursor_take R (some ⟨g, 0, none⟩) n h K = _ := fun β K => by
    unfold F_field_Cursor_take; rw [F_field_Cursor_take_gen, err_cur C]
  by_cases he : err = 0
  · subst he
    by_cases hn : n < 0
    · obtain ⟨h', e, C', k⟩ := C.upd 2 (.int .i64 2) (a' := at_) (e' := 2) rfl (by omega) rfl
      refine ⟨h', ⟨none, 0, 0⟩, fun β K => ?_, by simpa [takeP, hn] using C', by simpa [takeP, hn] using rd_nil, k, by simp [rowsOf]⟩
      rw [gen, bne_self_eq_false, condF, decT hn, condT, exA_s, e]
    · by_cases hl : n > bs.length - at_
      · obtain ⟨h', e, C', k⟩ := C.upd 2 (.int .i64 3) (a' := at_) (e' := 3) rfl (by omega) rfl
        refine ⟨h', ⟨none, 0, 0⟩, fun β K => ?_, by simpa [takeP, hn, hl] using C', by simpa [takeP, hn, hl] using rd_nil, k, by simp [rowsOf]⟩
        rw [gen, bne_self_eq_false, condF, decF hn, condF]
        simp only [exA_s, C.c0, exS_s, C.c1, exI_s]
        rw [C.rd.n, i64w (by omega), decT hl, condT, e]
      · obtain ⟨h', e, C', k⟩ := C.upd 1 (.int .i64 (at_ + n)) (a' := at_ + n) (e' := 0) rfl (by omega) rfl
        have hq : takeP bs at_ 0 n = ((bs.drop at_.toNat).take n.toNat, at_ + n, 0) := by simp [takeP, hn, hl]
        rw [hq]
        have hcut := C'.rd.row.cut (lo := at_.toNat) (hi := (at_ + n).toNat) (mx := (at_ + n).toNat) (by omega) (by omega) (by omega) (by rw [C'.rd.c, C'.rd.n]; omega)
        refine ⟨h', ⟨addO s.a (at_.toNat * 1), (at_ + n).toNat - at_.toNat, (at_ + n).toNat - at_.toNat⟩, fun β K => ?_, C', by rw [show n.toNat = (at_ + n).toNat - at_.toNat by omega]; exact hcut, k, fun x hx => ?_⟩
        · rw [gen, bne_self_eq_false, condF, decF hn, condF]
          simp only [exA_s, C.c0, exS_s, C.c1, exI_s]
          rw [C.rd.n, i64w (by omega), decF hl, condF, i64w (by omega), e]
          simp only [C'.c0, C'.c1, exS_s, exI_s]
          rw [i64w (by omega), bnd_t (by omega) (by rw [C'.rd.c, C'.rd.n]; omega), bnd_t (by omega) (by omega), bnd_t (by omega) (by omega), show at_ + n - n = at_ by omega]
        · cases hs : s.a with
          | none => simp [rowsOf, addO, hs] at hx
          | some a => simpa [rowsOf, addO, hs] using hx
  · refine ⟨h, ⟨none, 0, 0⟩, fun β K => ?_, by simpa [takeP, he] using C, by simpa [takeP, he] using rd_nil, .refl _ _, by simp [rowsOf]⟩
    rw [gen, bne_iff_ne.2 he, condT]
theorem number_loop {q : Sl} {ns : List Int} (r : Rd h q ns) (h8 : B8 ns) (hl : ns.length ≤ 4) (F : Option Addr → Int → GH → (Sl → GH → Option β) → Option β) (R : Nat) : ∀ (k n i : Nat), i + k = ns.length → k < n → ∀ K : Int → GH → Option β,
    F_field_Cursor_number_l0 F R n (le (ns.take i)) q ((ns.length : Nat) : Int) (i : Nat) h K = K (le ns) h
  | 0, n, i, hi, hn, K => by
    obtain ⟨n, rfl⟩ : ∃ k, n = k + 1 := ⟨n - 1, by omega⟩
    rw [F_field_Cursor_number_l0_succ, decF (by omega), condF, List.take_of_length_le (by omega)]
  | k + 1, n, i, hi, hn, K => by
    obtain ⟨n, rfl⟩ : ∃ k, n = k + 1 := ⟨n - 1, by omega⟩
    have hlt : i < ns.length := by omega
    have hb := h8 _ (List.getElem_mem hlt)
    have hacc := le_bound (a := ns.take i) fun b hb => h8 b (List.mem_of_mem_take hb)
    rw [List.length_take, Nat.min_eq_left (by omega)] at hacc
    have hg : ns.getD ((i : Nat) : Int).toNat 0 = ns[i] := by rw [Int.toNat_natCast, List.getD_eq_getElem?_getD, List.getElem?_eq_getElem hlt]; rfl
    have hle : le (ns.take (i + 1)) = le (ns.take i) + 256 ^ i * ns[i] := by
      rw [List.take_add_one, List.getElem?_eq_getElem hlt]
      show le (ns.take i ++ [ns[i]]) = _
      rw [le_app, List.length_take, Nat.min_eq_left (by omega)]
    rw [F_field_Cursor_number_l0_succ, decT (by omega), condT, r.byte (by omega) (by omega), hg, decF (by rw [i64w (by omega)]; omega), condF, or_byte (by omega) hacc hb, ← hle, i64w (by omega), show ((i : Nat) : Int) + 1 = ((i + 1 : Nat) : Int) by omega]
    exact number_loop r h8 hl F R k n (i + 1) (by omega) (by omega) K
theorem number_cur (C : Cur h g s bs at_ err) (h8 : B8 bs) (hat : 0 ≤ at_ ∧ at_ ≤ bs.length) (hm : bs.length ≤ 274877906944) {n : Int} (hn : 0 ≤ n ∧ n ≤ 4) {R : Nat} (hR : 8 < R) : ∃ h', (∀ (β : Type) (K : Int → GH → Option β), F_field_Cursor_number R (some ⟨g, 0, none⟩) n h K = K (le (takeP bs at_ err n).1) h') ∧
    Cur h' g s bs (takeP bs at_ err n).2.1 (takeP bs at_ err n).2.2 ∧ Keep h h' [g] := by
  obtain ⟨h', q, e, C', r, k, _⟩ := take_cur C hat hm n R
  have hl : (takeP bs at_ err n).1.length ≤ 4 := by unfold takeP; (repeat' split) <;> simp <;> omega
  have h8' : B8 (takeP bs at_ err n).1 := by
    unfold takeP
    (repeat' split) <;> first | (intro b hb; cases hb; done) | (intro b hb; exact h8 b (List.mem_of_mem_drop (List.mem_of_mem_take hb)))
  refine ⟨h', fun β K => ?_, C', k⟩
  unfold F_field_Cursor_number; rw [F_field_Cursor_number_gen, e, r.n]
  exact number_loop r h8' hl _ R (takeP bs at_ err n).1.length R 0 (by simp) (by omega) _
theorem le_take (h8 : B8 bs) (n : Int) (hn : n ≤ 4) : 0 ≤ le (takeP bs at_ err n).1 ∧ le (takeP bs at_ err n).1 ≤ 4294967295 ∧ (n ≤ 2 → le (takeP bs at_ err n).1 ≤ 65535) := by
  have h8' : B8 (takeP bs at_ err n).1 := by
    unfold takeP
    (repeat' split) <;> first | (intro b hb; cases hb; done) | (intro b hb; exact h8 b (List.mem_of_mem_drop (List.mem_of_mem_take hb)))
  have hb := le_bound h8'
  have hl : (takeP bs at_ err n).1.length ≤ n.toNat := by unfold takeP; (repeat' split) <;> simp <;> omega
  have hp : ∀ m : Nat, (takeP bs at_ err n).1.length ≤ m → le (takeP bs at_ err n).1 < 256 ^ m := fun m hm => by
    have h1 : (256 : Nat) ^ (takeP bs at_ err n).1.length ≤ 256 ^ m := Nat.pow_le_pow_right (by omega) hm
    have h2 := pow_cast (takeP bs at_ err n).1.length
    have h3 := pow_cast m
    rw [← h3]; rw [← h2] at hb; omega
  have h4 := hp 4 (by omega)
  have e4 : (256 : Int) ^ 4 = 4294967296 := by decide +kernel
  have e2 : (256 : Int) ^ 2 = 65536 := by decide +kernel
  refine ⟨hb.1, by omega, fun h => ?_⟩
  have h2 := hp 2 (by omega)
  omega
theorem u16_cur (C : Cur h g s bs at_ err) (h8 : B8 bs) (hat : 0 ≤ at_ ∧ at_ ≤ bs.length) (hm : bs.length ≤ 274877906944) {R : Nat} (hR : 8 < R) : ∃ h', (∀ (β : Type) (K : Int → GH → Option β), F_field_Cursor_U16 R (some ⟨g, 0, none⟩) h K = K (le (takeP bs at_ err 2).1) h') ∧
    Cur h' g s bs (takeP bs at_ err 2).2.1 (takeP bs at_ err 2).2.2 ∧ Keep h h' [g] := by
  obtain ⟨h', e, C', k⟩ := number_cur C h8 hat hm (n := 2) (by omega) hR
  have hb := le_take (at_ := at_) (err := err) h8 2 (by omega)
  refine ⟨h', fun β K => ?_, C', k⟩
  unfold F_field_Cursor_U16; rw [F_field_Cursor_U16_gen, e, i64w (by omega)]
theorem u32_cur (C : Cur h g s bs at_ err) (h8 : B8 bs) (hat : 0 ≤ at_ ∧ at_ ≤ bs.length) (hm : bs.length ≤ 274877906944) {R : Nat} (hR : 8 < R) : ∃ h', (∀ (β : Type) (K : Int → GH → Option β), F_field_Cursor_U32 R (some ⟨g, 0, none⟩) h K = K (le (takeP bs at_ err 4).1) h') ∧
    Cur h' g s bs (takeP bs at_ err 4).2.1 (takeP bs at_ err 4).2.2 ∧ Keep h h' [g] := by
  obtain ⟨h', e, C', k⟩ := number_cur C h8 hat hm (n := 4) (by omega) hR
  refine ⟨h', fun β K => ?_, C', k⟩
  unfold F_field_Cursor_U32; rw [F_field_Cursor_U32_gen, e]
theorem bytes_cur (C : Cur h g s bs at_ err) (hat : 0 ≤ at_ ∧ at_ ≤ bs.length) (hm : bs.length ≤ 274877906944) (n : Int) (R : Nat) : ∃ h' q, (∀ (β : Type) (K : Sl → GH → Option β), F_field_Cursor_Bytes R (some ⟨g, 0, none⟩) n h K = K q h') ∧
    Cur h' g s bs (takeP bs at_ err n).2.1 (takeP bs at_ err n).2.2 ∧ Bv h' q (takeP bs at_ err n).1 ∧ Keep h h' [g] ∧ (∀ k ∈ rowsOf q, h.next ≤ k) := by
  obtain ⟨h1, q1, e1, C1, r1, k1, _⟩ := take_cur C hat hm n R
  have hl : (takeP bs at_ err n).1.length ≤ bs.length := by unfold takeP; (repeat' split) <;> simp; omega
  obtain ⟨h2, q2, e2, v2, k2, n2⟩ := clone_rd r1 (by omega) R
  refine ⟨h2, q2, fun β K => ?_, C1.keep k2 (by simp), v2, k1.trans k2 (by simp), fun k hk => by have := n2 k hk; have := k1.1; omega⟩
  unfold F_field_Cursor_Bytes; rw [F_field_Cursor_Bytes_gen, e1, e2]
end
end Go.Proofs.Ytibngikhlgmhaaa.Gx

