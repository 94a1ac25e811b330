/- Cursors that read on and on: where they stand behind so many bytes, the program's. No condition. -/
import Derived.Test.YtibngikhlgmhaaaCur
namespace Go.Proofs.Ytibngikhlgmhaaa.Gx
open Go
set_option linter.unusedVariables false
set_option linter.unusedSimpArgs false
/-- a number of n bytes at a place -/
def fld (bs : List Int) (p n : Nat) : Int := le ((bs.drop p).take n)
theorem b8_cut {bs : List Int} (h8 : B8 bs) (p n : Nat) : B8 ((bs.drop p).take n) := fun b hb => h8 b (List.mem_of_mem_drop (List.mem_of_mem_take hb))
theorem fld_bd {bs : List Int} (h8 : B8 bs) (p : Nat) : (0 ≤ fld bs p 2 ∧ fld bs p 2 ≤ 65535) ∧ 0 ≤ fld bs p 4 ∧ fld bs p 4 ≤ 4294967295 := by
  have h := fun n => le_bound (b8_cut h8 p n)
  have hl : ∀ n, ((bs.drop p).take n).length ≤ n := fun n => by simp; omega
  have hp : ∀ n : Nat, fld bs p n < 256 ^ n := fun n => by
    have h1 : (256 : Nat) ^ ((bs.drop p).take n).length ≤ 256 ^ n := Nat.pow_le_pow_right (by omega) (hl n)
    have h2 := pow_cast ((bs.drop p).take n).length
    have h3 := pow_cast n
    have h4 := h n
    unfold fld
    rw [← h3]; rw [← h2] at h4; omega
  have e4 : (256 : Int) ^ 4 = 4294967296 := by decide +kernel
  have e2 : (256 : Int) ^ 2 = 65536 := by decide +kernel
  have a2 := hp 2
  have a4 := hp 4
  have b2 := (h 2).1
  have b4 := (h 4).1
  unfold fld at *
  exact ⟨⟨b2, by omega⟩, b4, by omega⟩
/-- t bytes were asked for from p on: they were there, or they were not -/
structure CurT (h : GH) (g : Nat) (s : Sl) (bs : List Int) (p t : Nat) : Prop where
  ok : p + t ≤ bs.length → Cur h g s bs ((p + t : Nat) : Int) 0
  no : ¬ p + t ≤ bs.length → ∃ a : Int, (0 ≤ a ∧ a ≤ bs.length) ∧ Cur h g s bs a 3
theorem CurT.lt {h : GH} {g : Nat} {s : Sl} {bs : List Int} {p t : Nat} (C : CurT h g s bs p t) : ∀ k ∈ ownC g s, k < h.next := by
  by_cases c : p + t ≤ bs.length
  · exact (C.ok c).lt
  · obtain ⟨a, _, C⟩ := C.no c; exact C.lt
theorem CurT.keep {h h' : GH} {g : Nat} {s : Sl} {bs : List Int} {p t : Nat} {own : List Nat} (C : CurT h g s bs p t) (k : Keep h h' own) (hd : ∀ x ∈ ownC g s, x ∉ own) : CurT h' g s bs p t :=
  ⟨fun c => (C.ok c).keep k hd, fun c => by obtain ⟨a, ha, C⟩ := C.no c; exact ⟨a, ha, C.keep k hd⟩⟩
section
variable {h : GH} {g : Nat} {s : Sl} {bs : List Int} {p t : Nat}
theorem CurT.err (C : CurT h g s bs p t) (R : Nat) {β : Type} (K : Int → GH → Option β) : F_field_Cursor_Err R (some ⟨g, 0, none⟩) h K = K (if p + t ≤ bs.length then 0 else 3) h := by
  by_cases c : p + t ≤ bs.length
  · rw [if_pos c, err_cur (C.ok c)]
  · obtain ⟨a, _, C⟩ := C.no c; rw [if_neg c, err_cur C]
theorem takeP_ok (bs : List Int) {p n : Nat} (h : p + n ≤ bs.length) : takeP bs (p : Nat) 0 (n : Nat) = ((bs.drop p).take n, ((p + n : Nat) : Int), 0) := by
  unfold takeP
  rw [if_neg (by simp), if_neg (by omega), if_neg (by omega), Int.toNat_natCast, Int.toNat_natCast]
  congr 2
theorem takeP_no (bs : List Int) {p n : Nat} (h : ¬ p + n ≤ bs.length) : takeP bs (p : Nat) 0 (n : Nat) = ([], ((p : Nat) : Int), 3) := by
  unfold takeP
  rw [if_neg (by simp), if_neg (by omega), if_pos (by omega)]
theorem takeP_bad (bs : List Int) (a : Int) (n : Int) : takeP bs a 3 n = ([], a, 3) := by
  unfold takeP
  rw [if_pos (by omega)]
theorem CurT.of (C : CurT h g s bs p t) (n : Nat) : ∃ a e : Int, (0 ≤ a ∧ a ≤ bs.length) ∧ Cur h g s bs a e ∧ (∀ h', Cur h' g s bs (takeP bs a e n).2.1 (takeP bs a e n).2.2 → CurT h' g s bs p (t + n)) ∧ (p + t + n ≤ bs.length → (takeP bs a e n).1 = (bs.drop (p + t)).take n) := by
  by_cases c : p + t ≤ bs.length
  · refine ⟨_, _, ⟨by omega, by omega⟩, C.ok c, fun h' C' => ?_, fun c2 => ?_⟩
    · by_cases c2 : p + t + n ≤ bs.length
      · rw [takeP_ok bs c2] at C'
        exact ⟨fun _ => by rw [show p + (t + n) = p + t + n by omega]; exact C', fun q => absurd c2 (by omega)⟩
      · rw [takeP_no bs c2] at C'
        exact ⟨fun q => absurd c2 (by omega), fun _ => ⟨((p + t : Nat) : Int), ⟨by omega, by omega⟩, C'⟩⟩
    · rw [takeP_ok bs c2]
  · obtain ⟨a, ha, C⟩ := C.no c
    refine ⟨a, 3, ha, C, fun h' C' => ?_, fun c2 => absurd c (by omega)⟩
    rw [takeP_bad] at C'
    exact ⟨fun q => absurd c (by omega), fun _ => ⟨a, ha, C'⟩⟩
theorem CurT.u16 (C : CurT h g s bs p t) (h8 : B8 bs) (hm : bs.length ≤ 274877906944) {R : Nat} (hR : 8 < R) : ∃ h' v, (∀ (β : Type) (K : Int → GH → Option β), F_field_Cursor_U16 R (some ⟨g, 0, none⟩) h K = K v h') ∧ CurT h' g s bs p (t + 2) ∧ Keep h h' [g] ∧ (0 ≤ v ∧ v ≤ 65535) ∧ (p + t + 2 ≤ bs.length → v = fld bs (p + t) 2) := by
  obtain ⟨a, e, ha, C0, nx, vl⟩ := C.of 2
  obtain ⟨h', e1, C1, k1⟩ := u16_cur C0 h8 ha hm hR
  have hb := le_take (at_ := a) (err := e) h8 2 (by omega)
  exact ⟨h', _, e1, nx h' C1, k1, ⟨hb.1, hb.2.2 (by omega)⟩, fun c => congrArg le (vl c)⟩
theorem CurT.u32 (C : CurT h g s bs p t) (h8 : B8 bs) (hm : bs.length ≤ 274877906944) {R : Nat} (hR : 8 < R) : ∃ h' v, (∀ (β : Type) (K : Int → GH → Option β), F_field_Cursor_U32 R (some ⟨g, 0, none⟩) h K = K v h') ∧ CurT h' g s bs p (t + 4) ∧ Keep h h' [g] ∧ (0 ≤ v ∧ v ≤ 4294967295) ∧ (p + t + 4 ≤ bs.length → v = fld bs (p + t) 4) := by
  obtain ⟨a, e, ha, C0, nx, vl⟩ := C.of 4
  obtain ⟨h', e1, C1, k1⟩ := u32_cur C0 h8 ha hm hR
  have hb := le_take (at_ := a) (err := e) h8 4 (by omega)
  exact ⟨h', _, e1, nx h' C1, k1, ⟨hb.1, hb.2.1⟩, fun c => congrArg le (vl c)⟩
theorem CurT.bytes (C : CurT h g s bs p t) (hm : bs.length ≤ 274877906944) (n : Nat) (R : Nat) : ∃ h' q vs, (∀ (β : Type) (K : Sl → GH → Option β), F_field_Cursor_Bytes R (some ⟨g, 0, none⟩) (n : Nat) h K = K q h') ∧ CurT h' g s bs p (t + n) ∧ Bv h' q vs ∧ Keep h h' [g] ∧ (∀ k ∈ rowsOf q, h.next ≤ k) ∧ (p + t + n ≤ bs.length → vs = (bs.drop (p + t)).take n) := by
  obtain ⟨a, e, ha, C0, nx, vl⟩ := C.of n
  obtain ⟨h', q, e1, C1, v1, k1, n1⟩ := bytes_cur C0 ha hm n R
  exact ⟨h', q, _, e1, nx h' C1, v1, k1, n1, vl⟩
end
end Go.Proofs.Ytibngikhlgmhaaa.Gx

