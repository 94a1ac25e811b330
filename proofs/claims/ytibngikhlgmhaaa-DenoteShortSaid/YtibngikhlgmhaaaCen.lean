/- Central headers that may be: the program's word and the document's are one. No condition. -/
import Derived.Test.YtibngikhlgmhaaaDos
import Derived.Test.YtibngikhlgmhaaaExtB
import Derived.Test.YtibngikhlgmhaaaInt
namespace Go.Proofs.Ytibngikhlgmhaaa.Gx
open Go
set_option linter.unusedVariables false
set_option linter.unusedSimpArgs false
def two (x : Int) : Prop := 0 ≤ x ∧ x ≤ 65535
instance (x : Int) : Decidable (two x) := inferInstanceAs (Decidable (_ ∧ _))
theorem halves_loop {R : Nat} {h : GH} {g c : Nat} {e : Nat} {ro : Bool} {l : List Int} (hg : h.look g = some (.row ⟨i64s l, e, ro⟩)) (hl : l.length ≤ 1000000) :
    ∀ (n i : Nat), i ≤ l.length → l.length < n + i → ∀ {β : Type} (K0 : GH → Option β) (Kr : Bool → GH → Option β),
      F_denote_halves_l0 R n ⟨some ⟨g, 0, none⟩, l.length, c⟩ (l.length : Nat) (i : Nat) h K0 Kr = if ∀ x ∈ l.drop i, two x then K0 h else Kr false h := by
  intro n
  induction n with
  | zero => intro i h1 h2; omega
  | succ n ih =>
    intro i h1 h2 β K0 Kr
    rw [F_denote_halves_l0_succ, cond_dec]
    by_cases hi : i < l.length
    · rw [if_pos (by omega)]
      have hd : l.drop i = l[i] :: l.drop (i + 1) := List.drop_eq_getElem_cons hi
      simp only [exA_s, within_t (show (0 : Int) ≤ (i : Nat) by omega) (show ((i : Nat) : Int) < (l.length : Nat) by omega), cell_look, hg, rowCell_row, Nat.zero_add, Int.toNat_natCast, Nat.mul_one, nth_i64s hi, exI_s, cond_dec]
      rw [i64w (by omega), show ((i : Nat) : Int) + 1 = ((i + 1 : Nat) : Int) from rfl, ih (i + 1) (by omega) (by omega)]
      by_cases c1 : l[i] < 0
      · rw [if_pos c1, if_neg]; intro hall; have := hall l[i] (by rw [hd]; exact List.mem_cons_self); unfold two at this; omega
      rw [if_neg c1]
      by_cases c2 : l[i] > 65535
      · rw [if_pos c2, if_neg]; intro hall; have := hall l[i] (by rw [hd]; exact List.mem_cons_self); unfold two at this; omega
      rw [if_neg c2]
      by_cases c3 : ∀ x ∈ l.drop (i + 1), two x
      · rw [if_pos c3, if_pos]; rw [hd]; intro x hx; rcases List.mem_cons.1 hx with rfl | hx
        · unfold two; omega
        · exact c3 x hx
      · rw [if_neg c3, if_neg]; intro hall; exact c3 fun x hx => hall x (by rw [hd]; exact List.mem_cons_of_mem _ hx)
    · rw [if_neg (by omega), if_pos]; rw [List.drop_eq_nil_of_le (by omega)]; simp
theorem refhalves_loop {R : Nat} {h : GH} {g c : Nat} {e : Nat} {ro : Bool} {l : List Int} (p q : Option Addr) (hg : h.look g = some (.row ⟨i64s l, e, ro⟩)) (hl : l.length ≤ 1000000) :
    ∀ (n i : Nat), i ≤ l.length → l.length < n + i → ∀ {β : Type} (F1 : Int → GH → (Bool → GH → Option β) → Option β) (F2 : Int → GH → (Int → GH → Option β) → Option β) (F3 : Sl → GH → (Int → GH → Option β) → Option β) (F4 : Int → Int → GH → (Int → Int → Int → Int → Int → Int → Int → GH → Option β) → Option β) (K0 : Option Addr → Option Addr → GH → Option β) (Kr : Int → GH → Option β),
      F_ref26_CheckCentral_l0 F1 F2 F3 F4 R n p q ⟨some ⟨g, 0, none⟩, l.length, c⟩ (i : Nat) h K0 Kr = if ∀ x ∈ l.drop i, two x then K0 p q h else Kr 18 h := by
  intro n
  induction n with
  | zero => intro i h1 h2; omega
  | succ n ih =>
    intro i h1 h2 β F1 F2 F3 F4 K0 Kr
    rw [F_ref26_CheckCentral_l0_succ, cond_dec]; dsimp only
    by_cases hi : i < l.length
    · rw [if_pos (by omega)]
      have hd : l.drop i = l[i] :: l.drop (i + 1) := List.drop_eq_getElem_cons hi
      simp only [exA_s, within_t (show (0 : Int) ≤ (i : Nat) by omega) (show ((i : Nat) : Int) < (l.length : Nat) by omega), cell_look, hg, rowCell_row, Nat.zero_add, Int.toNat_natCast, Nat.mul_one, nth_i64s hi, exI_s, cond_dec]
      rw [i64w (by omega), show ((i : Nat) : Int) + 1 = ((i + 1 : Nat) : Int) from rfl, ih (i + 1) (by omega) (by omega)]
      by_cases c1 : l[i] < 0
      · rw [if_pos c1, if_neg]; intro hall; have := hall l[i] (by rw [hd]; exact List.mem_cons_self); unfold two at this; omega
      rw [if_neg c1]
      by_cases c2 : l[i] > 65535
      · rw [if_pos c2, if_neg]; intro hall; have := hall l[i] (by rw [hd]; exact List.mem_cons_self); unfold two at this; omega
      rw [if_neg c2]
      by_cases c3 : ∀ x ∈ l.drop (i + 1), two x
      · rw [if_pos c3, if_pos]; rw [hd]; intro x hx; rcases List.mem_cons.1 hx with rfl | hx
        · unfold two; omega
        · exact c3 x hx
      · rw [if_neg c3, if_neg]; intro hall; exact c3 fun x hx => hall x (by rw [hd]; exact List.mem_cons_of_mem _ hx)
    · rw [if_neg (by omega), if_pos]; rw [List.drop_eq_nil_of_le (by omega)]; simp
def knownP (m : Int) : Bool := decide (0 ≤ m ∧ m ≤ 9 ∧ m ≠ 7)
def moreP (m : Int) : Bool := decide (m = 6 ∨ m = 8 ∨ m = 9)
section
variable {β : Type}
theorem known_eq (R : Nat) (m : Int) (h : GH) (K : Bool → GH → Option β) : F_method_known R m h K = K (knownP m) h := by
  unfold F_method_known; rw [F_method_known_gen]; simp only [beq_int, cond_dec, knownP]
  by_cases c0 : m ≥ 0
  · by_cases c1 : m ≤ 6
    · rw [if_pos c0, if_pos c1, decT (by omega)]
    · by_cases c8 : m = 8
      · rw [if_pos c0, if_neg c1, if_pos c8, decT (by omega)]
      · rw [if_pos c0, if_neg c1, if_neg c8]; congr 1; rw [decide_eq_decide]; omega
  · by_cases c8 : m = 8
    · omega
    · rw [if_neg c0, if_neg c8]; congr 1; rw [decide_eq_decide]; omega
theorem refknown_eq (R : Nat) (m : Int) (h : GH) (K : Bool → GH → Option β) : F_ref25_Known R m h K = K (knownP m) h := by
  unfold F_ref25_Known; rw [F_ref25_Known_gen]; simp only [beq_int, bne_int, cond_dec, knownP]
  by_cases c0 : m ≥ 0
  · by_cases c1 : m ≤ 9
    · rw [if_pos c0, if_pos c1]; congr 1; rw [decide_eq_decide]; omega
    · rw [if_pos c0, if_neg c1, decF (by omega)]
  · rw [if_neg c0, decF (by omega)]
theorem leveled_eq (R : Nat) (m : Int) (h : GH) (K : Bool → GH → Option β) : F_method_leveled R m h K = K (decide (m = 8 ∨ m = 9)) h := by
  unfold F_method_leveled; rw [F_method_leveled_gen]; simp only [beq_int, cond_dec]
  by_cases c8 : m = 8
  · rw [if_pos c8, decT (.inl c8)]
  · rw [if_neg c8]; congr 1; rw [decide_eq_decide]; omega
theorem allowed_eq (R : Nat) (m : Int) (h : GH) (K : Int → GH → Option β) : F_method_Allowed R m h K = K (if moreP m = true then 6 else 0) h := by
  unfold F_method_Allowed; rw [F_method_Allowed_gen]; simp only [leveled_eq, beq_int, cond_dec, moreP, decide_eq_true_eq]
  by_cases c6 : m = 6
  · rw [if_pos c6, if_pos (.inl c6)]
  · rw [if_neg c6]
    by_cases c8 : m = 8 ∨ m = 9
    · rw [if_pos c8, if_pos (.inr c8)]
    · rw [if_neg c8, if_neg (by omega)]
theorem refallowed_eq (R : Nat) (m : Int) (h : GH) (K : Int → GH → Option β) : F_ref25_Allowed R m h K = K (if moreP m = true then 6 else 0) h := by
  unfold F_ref25_Allowed; rw [F_ref25_Allowed_gen]; simp only [beq_int, cond_dec, moreP, decide_eq_true_eq]
  by_cases c6 : m = 6
  · rw [if_pos c6, if_pos (.inl c6)]
  · by_cases c8 : m = 8
    · rw [if_neg c6, if_pos c8, if_pos (.inr (.inl c8))]
    · by_cases c9 : m = 9
      · rw [if_neg c6, if_neg c8, if_pos c9, if_pos (.inr (.inr c9))]
      · rw [if_neg c6, if_neg c8, if_neg c9, if_neg (by omega)]
def needP (m : Int) : Int := if m = 8 then 20 else if m = 9 then 21 else if knownP m = true then 10 else 0
theorem need_eq (R : Nat) (m : Int) (h : GH) (K : Int → GH → Option β) : F_method_Need R m h K = K (needP m) h := by
  unfold F_method_Need; rw [F_method_Need_gen]; simp only [known_eq, beq_int, cond_dec, needP]
  by_cases c8 : m = 8
  · rw [if_pos c8, if_pos c8]
  · by_cases c9 : m = 9
    · rw [if_neg c8, if_pos c9, if_neg c8, if_pos c9]
    · rw [if_neg c8, if_neg c9, if_neg c8, if_neg c9]
      cases knownP m <;> rfl
end
theorem needP_0 (m : Int) : needP m = 0 ↔ ¬ knownP m = true := by
  unfold needP
  by_cases c8 : m = 8
  · rw [if_pos c8]; subst c8; decide
  · by_cases c9 : m = 9
    · rw [if_neg c8, if_pos c9]; subst c9; decide
    · rw [if_neg c8, if_neg c9]; cases knownP m <;> decide
theorem wrap_0 (v : BitVec 64) : IntKind.wrap .i64 v.toNat = 0 ↔ v = 0#64 := by
  constructor
  · intro h
    have hv := v.isLt
    have := IntWalk.i64_in
    simp only [IntKind.wrap] at h
    apply BitVec.eq_of_toNat_eq
    rw [BitVec.toNat_ofNat]
    simp [IntKind.bits, IntKind.signed] at h
    omega
  · rintro rfl; rfl
theorem andnot0 (x : Int) (h : two x) : IntKind.wrap .i64 (BitVec.ofInt (IntKind.bits .i64) x &&& ~~~ BitVec.ofInt (IntKind.bits .i64) 0).toNat = x := by
  obtain ⟨a, rfl⟩ : ∃ a : Nat, x = a := ⟨x.toNat, by unfold two at h; omega⟩
  unfold two at h
  rw [bits64, BitVec.ofInt_natCast, show (~~~ BitVec.ofInt 64 0) = BitVec.allOnes 64 by decide, BitVec.and_allOnes, BitVec.toNat_ofNat, Nat.mod_eq_of_lt (by omega), i64w (by omega)]
theorem andnot6 (x : Int) (h : two x) : IntKind.wrap .i64 (BitVec.ofInt (IntKind.bits .i64) x &&& ~~~ BitVec.ofInt (IntKind.bits .i64) 6).toNat = 0 ↔ (x = 0 ∨ x = 2 ∨ x = 4 ∨ x = 6) := by
  obtain ⟨a, rfl⟩ : ∃ a : Nat, x = a := ⟨x.toNat, by unfold two at h; omega⟩
  unfold two at h
  rw [bits64, BitVec.ofInt_natCast, show BitVec.ofInt 64 6 = 6#64 by decide]
  constructor
  · intro h0
    have hv := (wrap_0 _).1 h0
    have e : BitVec.ofNat 64 a = BitVec.ofNat 64 a &&& 6#64 := by
      apply BitVec.eq_of_getLsbD_eq
      intro i hi
      have := congrArg (fun v => v.getLsbD i) hv
      simp only [BitVec.getLsbD_and, BitVec.getLsbD_not, hi, decide_true, Bool.true_and, BitVec.getLsbD_zero] at this ⊢
      cases h1 : (BitVec.ofNat 64 a).getLsbD i <;> cases h2 : (6#64).getLsbD i <;> simp_all
    have e2 := congrArg BitVec.toNat e
    rw [BitVec.toNat_and, BitVec.toNat_ofNat, BitVec.toNat_ofNat, Nat.mod_eq_of_lt (by omega)] at e2
    have h6 : a ≤ 6 := by rw [e2]; exact Nat.and_le_right
    have : a = 0 ∨ a = 1 ∨ a = 2 ∨ a = 3 ∨ a = 4 ∨ a = 5 ∨ a = 6 := by omega
    rcases this with rfl | rfl | rfl | rfl | rfl | rfl | rfl <;> first | omega | exact absurd e2 (by decide)
  · intro hx
    have : a = 0 ∨ a = 2 ∨ a = 4 ∨ a = 6 := by omega
    rcases this with rfl | rfl | rfl | rfl <;> decide
end Go.Proofs.Ytibngikhlgmhaaa.Gx

