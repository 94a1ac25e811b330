/- Whether lengths have words, the document's words. No condition. -/
import Derived.Test.YtephmpbccajaaaaTurn
namespace Go.Proofs.Ytephmpbccajaaaa.Gx
open Go Go.RowKit
set_option linter.unusedVariables false
set_option linter.unusedSimpArgs false
/-- what a length takes of the code -/
def twN (x : Int) : Nat := 2 ^ (16 - x).toNat
def wgt (zs : List Int) : Nat := (zs.map twN).sum
def checkE (zs : List Int) : Int := if rightP zs = true then (if wgt zs = 65536 then 0 else 6) else 2
theorem twN_le (x : Int) (h : lenP x) : 1 ≤ twN x ∧ twN x ≤ 32768 := by
  unfold lenP at h
  unfold twN
  have h1 : (16 - x).toNat ≤ 15 := by omega
  exact ⟨Nat.pow_pos (by omega), Nat.le_trans (Nat.pow_le_pow_right (by omega) h1) (by decide)⟩
theorem two_loop (R : Nat) (m : Nat) (hm : m ≤ 16) {β : Type} (h : GH) (K : Int → GH → Option β) : ∀ (k n i : Nat), i + k = m → k < n → F_ref06_two_l0 R n (m : Nat) ((2 ^ i : Nat) : Int) (i : Nat) h K = K ((2 ^ m : Nat) : Int) h
  | k, 0, i, h1, h2 => by omega
  | 0, n + 1, i, h1, h2 => by rw [F_ref06_two_l0_succ, decF (by omega), condF, show i = m by omega]
  | k + 1, n + 1, i, h1, h2 => by
    have hp : 2 ^ (i + 1) ≤ 2 ^ 16 := Nat.pow_le_pow_right (by omega) (by omega)
    have hp1 : 2 ^ (i + 1) = 2 ^ i * 2 := Nat.pow_succ 2 i
    have hp2 : (2 : Nat) ^ 16 = 65536 := by decide
    rw [F_ref06_two_l0_succ, decT (by omega), condT, i64w (by omega), i64w (by omega), show ((2 ^ i : Nat) : Int) * 2 = ((2 ^ (i + 1) : Nat) : Int) by omega, show ((i : Nat) : Int) + 1 = ((i + 1 : Nat) : Int) from rfl]
    exact two_loop R m hm h K k n (i + 1) (by omega) (by omega)
theorem two_eq {R : Nat} (hR : 4000000 < R) {x : Int} (hx : lenP x) {β : Type} (h : GH) (K : Int → GH → Option β) : F_ref06_two R (IntKind.wrap .i64 (16 - x)) h K = K ((twN x : Nat) : Int) h := by
  unfold lenP at hx
  unfold F_ref06_two; rw [F_ref06_two_gen, i64w (by omega)]
  have := two_loop R (16 - x).toNat (by omega) h (fun w6 h7 => K w6 h7) (16 - x).toNat R 0 (by omega) (by omega)
  rw [show ((16 - x).toNat : Int) = 16 - x by omega] at this
  exact this
theorem shl1_tw {x : Int} (hx : lenP x) : shlI .i64 1 (IntKind.wrap .i64 (16 - x)) = ((twN x : Nat) : Int) := by
  have ht := twN_le x hx
  unfold lenP at hx
  have h1 : min (16 - x).toNat (IntKind.bits .i64) = (16 - x).toNat := by rw [bits64]; omega
  have h2 : (1 : Int) * 2 ^ (16 - x).toNat = ((twN x : Nat) : Int) := by unfold twN; rw [Int.one_mul, Int.natCast_pow]; rfl
  unfold shlI
  rw [i64w (x := 16 - x) (by omega), h1, h2, i64w (by omega)]
theorem wgt_drop {zs : List Int} {i : Nat} (hi : i < zs.length) : wgt (zs.drop i) = twN (zs.getD i 0) + wgt (zs.drop (i + 1)) := by
  unfold wgt; rw [getD_drop hi]; rfl
theorem wgt_le : ∀ zs : List Int, (∀ x ∈ zs, lenP x) → wgt zs ≤ 32768 * zs.length
  | [], _ => by simp [wgt]
  | x :: zs, h => by
    have h1 := twN_le x (h x (by simp))
    have h2 := wgt_le zs (fun y hy => h y (by simp [hy]))
    unfold wgt at h2 ⊢
    simp only [List.map_cons, List.sum_cons, List.length_cons]
    omega
theorem mem_getD {zs : List Int} {i : Nat} (hi : i < zs.length) : zs.getD i 0 ∈ zs := getD_mem hi
theorem check_loop {h : GH} {a : Sl} {zs : List Int} (r : Rdi h a zs) (hx : ∀ x ∈ zs, lenP x) (hm : zs.length ≤ 1000000) (R : Nat) {β : Type} (F1 : Sl → GH → (Bool → GH → Option β) → Option β) (K0 : Int → GH → Option β) : ∀ (n i w : Nat), i ≤ zs.length → zs.length < n + i → w ≤ 32768 * i → F_sfano_check_l0 F1 R n (w : Nat) a (zs.length : Nat) (i : Nat) h K0 = K0 ((w + wgt (zs.drop i) : Nat) : Int) h
  | 0, i, w, h1, h2, h3 => by omega
  | n + 1, i, w, h1, h2, h3 => by
    rw [F_sfano_check_l0_succ]
    by_cases hi : i < zs.length
    · have hl := hx _ (mem_getD hi)
      have ht := twN_le _ hl
      rw [decT (by omega), condT, r.int (by omega) (by omega), Int.toNat_natCast]
      have hl' := hl
      unfold lenP at hl'
      rw [decF (by rw [i64w (by omega)]; omega), condF, shl1_tw hl, i64w (by omega), i64w (by omega)]
      have := check_loop r hx hm R F1 K0 n (i + 1) (w + twN (zs.getD i 0)) (by omega) (by omega) (by omega)
      rw [wgt_drop hi, ← Nat.add_assoc, ← this]; rfl
    · rw [decF (by omega), condF, List.drop_eq_nil_of_le (by omega)]; rfl
theorem check_eq {h : GH} {a : Sl} {zs : List Int} (r : Rdi h a zs) (hm : zs.length ≤ 1000000) {R : Nat} (hR : 4000000 < R) {β : Type} (K : Int → GH → Option β) : F_sfano_check R a h K = K (checkE zs) h := by
  unfold F_sfano_check; rw [F_sfano_check_gen, right_eq r hm hR]
  unfold checkE
  cases hr : rightP zs with
  | false => rw [notF, condT, if_neg (by simp)]
  | true =>
    rw [notT, condF, if_pos rfl, r.ni]
    have := check_loop r (rightP_all hr) hm R (F_sfano_right R) (β := β) (fun w12 h13 => (bif w12 != 65536 then K 6 h13 else K 0 h13)) R 0 0 (by omega) (by omega) (by omega)
    rw [List.drop_zero, Nat.zero_add] at this
    refine Eq.trans this ?_
    rw [bne_int, cond_dec]
    by_cases c : wgt zs = 65536
    · rw [if_neg (by omega), if_pos c]
    · rw [if_pos (by omega), if_neg c]
theorem rcheck_loop {h : GH} {a : Sl} {zs : List Int} (r : Rdi h a zs) (hx : ∀ x ∈ zs, lenP x) (hm : zs.length ≤ 1000000) {R : Nat} (hR : 4000000 < R) {β : Type} (F1 : Sl → GH → (Bool → GH → Option β) → Option β) (K0 : Int → GH → Option β) : ∀ (n i w : Nat), i ≤ zs.length → zs.length < n + i → w ≤ 32768 * i → F_ref06_Check_l0 F1 (F_ref06_two R) R n a (w : Nat) (i : Nat) h K0 = K0 ((w + wgt (zs.drop i) : Nat) : Int) h
  | 0, i, w, h1, h2, h3 => by omega
  | n + 1, i, w, h1, h2, h3 => by
    rw [F_ref06_Check_l0_succ, r.ni]
    have hin : ∀ {β : Type} (j : Nat), within ((j : Nat) : Int) zs.length (β := β) = within ((j : Nat) : Int) a.n := by intro β j; rw [r.ni]
    by_cases hi : i < zs.length
    · have hl := hx _ (mem_getD hi)
      have ht := twN_le _ hl
      rw [decT (by omega), condT]
      simp only [hin]
      rw [r.int (by omega) (by omega), Int.toNat_natCast, two_eq hR hl, i64w (by omega), i64w (by omega)]
      have := rcheck_loop r hx hm hR F1 K0 n (i + 1) (w + twN (zs.getD i 0)) (by omega) (by omega) (by omega)
      rw [wgt_drop hi, ← Nat.add_assoc, ← this]; rfl
    · rw [decF (by omega), condF, List.drop_eq_nil_of_le (by omega)]; rfl
theorem rcheck_eq {h : GH} {a : Sl} {zs : List Int} (r : Rdi h a zs) (hm : zs.length ≤ 1000000) {R : Nat} (hR : 4000000 < R) {β : Type} (K : Int → GH → Option β) : F_ref06_Check R a h K = K (checkE zs) h := by
  unfold F_ref06_Check; rw [F_ref06_Check_gen, may_eq r hm hR]
  unfold checkE
  cases hr : rightP zs with
  | false => rw [notF, condT, if_neg (by simp)]
  | true =>
    rw [notT, condF, if_pos rfl]
    have := rcheck_loop r (rightP_all hr) hm hR (F_ref06_May R) (β := β) (fun w12 h13 => (bif w12 != 65536 then K 6 h13 else K 0 h13)) R 0 0 (by omega) (by omega) (by omega)
    rw [List.drop_zero, Nat.zero_add] at this
    refine Eq.trans this ?_
    rw [bne_int, cond_dec]
    by_cases c : wgt zs = 65536
    · rw [if_neg (by omega), if_pos c]
    · rw [if_pos (by omega), if_neg c]
/-- whether the k-th symbol is given out ahead of the i-th -/
def aheadB (zs : List Int) (i k : Nat) : Prop := zs.getD k 0 > zs.getD i 0 ∨ (zs.getD k 0 = zs.getD i 0 ∧ k > i)
instance (zs : List Int) (i k : Nat) : Decidable (aheadB zs i k) := inferInstanceAs (Decidable (_ ∨ _))
def aheadTo (zs : List Int) (i : Nat) : Nat → Nat
  | 0 => 0
  | k + 1 => aheadTo zs i k + (if aheadB zs i k then twN (zs.getD k 0) else 0)
def aheadN (zs : List Int) (i : Nat) : Nat := aheadTo zs i zs.length
def codeOf (zs : List Int) (i : Nat) : Int × Int := ((revN (zs.getD i 0).toNat (aheadN zs i / twN (zs.getD i 0)) 0 : Nat), zs.getD i 0)
def codesV (cs : List (Int × Int)) : List Value := cs.flatMap fun c => [.int .u32 c.1, .int .i64 c.2]
def wordsP (zs : List Int) : List (Int × Int) := if checkE zs = 0 then (List.range zs.length).map (codeOf zs) else []
theorem codesV_length : ∀ cs, (codesV cs).length = cs.length * 2
  | [] => rfl
  | c :: cs => by have := codesV_length cs; unfold codesV at this ⊢; simp only [List.flatMap_cons, List.length_append, List.length_cons, List.length_nil, this]; omega
theorem codesV_app (a b : List (Int × Int)) : codesV (a ++ b) = codesV a ++ codesV b := by simp [codesV]
theorem allCells_codesV : ∀ cs, allCells (codesV cs) = true
  | [] => rfl
  | c :: cs => by have := allCells_codesV cs; unfold codesV at this ⊢; rw [List.flatMap_cons, allCells_app, this]; rfl
theorem aheadTo_le (zs : List Int) (hx : ∀ x ∈ zs, lenP x) (i : Nat) : ∀ k, k ≤ zs.length → aheadTo zs i k ≤ 32768 * k
  | 0, _ => by simp [aheadTo]
  | k + 1, h => by
    have h1 := aheadTo_le zs hx i k (by omega)
    have h2 := twN_le _ (hx _ (mem_getD (show k < zs.length by omega)))
    unfold aheadTo; split <;> omega
theorem words_l1 {h : GH} {a : Sl} {zs : List Int} (r : Rdi h a zs) (hx : ∀ x ∈ zs, lenP x) (hm : zs.length ≤ 1000000) {R : Nat} (hR : 4000000 < R) {β : Type} (F1 : Sl → GH → (Int → GH → Option β) → Option β) (F3 : Int → Int → GH → (Int → GH → Option β) → Option β) (out : Sl) {i : Nat} (hi : i < zs.length) (K2 : Sl → Sl → Int → Int → GH → Option β) : ∀ (n k : Nat), k ≤ zs.length → zs.length < n + k → F_ref06_Words_l1 F1 (F_ref06_two R) F3 R n a out (i : Nat) (aheadTo zs i k : Nat) (k : Nat) h K2 = K2 a out (i : Nat) (aheadN zs i : Nat) h
  | 0, k, h1, h2 => by omega
  | n + 1, k, h1, h2 => by
    have hn := r.ni
    have hin : ∀ {β : Type} (j : Nat), within ((j : Nat) : Int) zs.length (β := β) = within ((j : Nat) : Int) a.n := by intro β j; rw [r.ni]
    rw [F_ref06_Words_l1_succ, hn]
    by_cases hk : k < zs.length
    · have hl := hx _ (mem_getD hk)
      have ht := twN_le _ hl
      have ha := aheadTo_le zs hx i k (by omega)
      have ih := words_l1 r hx hm hR F1 F3 out hi K2 n (k + 1) (by omega) (by omega)
      simp only [hin, Int.toNat_natCast, r.intN hk, r.intN hi, cond_dec, beq_int, two_eq hR hl]
      rw [if_pos (by omega), i64w (x := ((k : Nat) : Int) + 1) (by omega), show ((k : Nat) : Int) + 1 = ((k + 1 : Nat) : Int) from rfl, i64w (by omega), show ((aheadTo zs i k : Nat) : Int) + ((twN (zs.getD k 0) : Nat) : Int) = ((aheadTo zs i k + twN (zs.getD k 0) : Nat) : Int) by omega]
      rw [aheadTo] at ih
      by_cases c1 : zs.getD k 0 > zs.getD i 0
      · rw [if_pos (c := aheadB zs i k) (.inl c1)] at ih
        rw [if_pos c1]; exact ih
      · rw [if_neg c1]
        by_cases c2 : zs.getD k 0 = zs.getD i 0
        · rw [if_pos c2]
          by_cases c3 : k > i
          · rw [if_pos (c := aheadB zs i k) (.inr ⟨c2, c3⟩)] at ih
            rw [if_pos (by omega)]; exact ih
          · rw [if_neg (c := aheadB zs i k) (by unfold aheadB; omega), Nat.add_zero] at ih
            rw [if_neg (by omega)]; exact ih
        · rw [if_neg (c := aheadB zs i k) (by unfold aheadB; omega), Nat.add_zero] at ih
          rw [if_neg c2]; exact ih
    · rw [decF (by omega), condF]
      have : k = zs.length := by omega
      subst this; rfl
theorem words_l0 {a : Sl} {zs : List Int} (hx : ∀ x ∈ zs, lenP x) (hm : zs.length ≤ 256) {R : Nat} (hR : 4000000 < R) : ∀ (n i : Nat) {h : GH} {out : Sl}, Rdi h a zs → i ≤ zs.length → zs.length < n + i → Vec h out 2 (codesV ((List.range i).map (codeOf zs))) → (∀ k ∈ rowsOf out, k ∉ rowsOf a) →
    ∃ h' q, (∀ (β : Type) (F1 : Sl → GH → (Int → GH → Option β) → Option β) (K0 : Sl → GH → Option β), F_ref06_Words_l0 F1 (F_ref06_two R) (F_ref01_Turn R) R n a out (i : Nat) h K0 = K0 q h') ∧ Vec h' q 2 (codesV ((List.range zs.length).map (codeOf zs))) ∧ Keep h h' (rowsOf out) ∧ (∀ k ∈ rowsOf q, k ∈ rowsOf out ∨ h.next ≤ k) := by
  intro n
  induction n with
  | zero => intro i h out r h1 h2; omega
  | succ n ih =>
    intro i h out r h1 h2 v hd
    have hn := r.ni
    by_cases hi : i < zs.length
    · have hl := hx _ (mem_getD hi)
      have ht := twN_le _ hl
      have hw : aheadN zs i ≤ 32768 * zs.length := aheadTo_le zs hx i _ (Nat.le_refl _)
      have hq : aheadN zs i / twN (zs.getD i 0) ≤ aheadN zs i := Nat.div_le_self _ _
      have hl' := hl
      unfold lenP at hl'
      have vn : out.n = i := by have := v.len; rw [codesV_length] at this; simp at this; omega
      obtain ⟨h3, s3, e3, v3, k3, n3, _⟩ := app_one' (by_ := 16) v [Value.int .u32 (codeOf zs i).1, Value.int .i64 (codeOf zs i).2] rfl (by omega) rfl (by rw [vn]; simp [most]; omega)
      rw [show [Value.int .u32 (codeOf zs i).1, Value.int .i64 (codeOf zs i).2] = codesV [codeOf zs i] from rfl, ← codesV_app, show (List.range i).map (codeOf zs) ++ [codeOf zs i] = (List.range (i + 1)).map (codeOf zs) by rw [List.range_succ]; simp] at v3
      obtain ⟨h4, q, e4, v4, k4, n4⟩ := ih (i + 1) (r.keep k3 fun x hx hm => hd x hm hx) (by omega) (by omega) v3 (fun k hk hm => by
          rcases n3 k hk with q | q
          · exact hd k q hm
          · have := r.lt k hm; omega)
      refine ⟨h4, q, fun β F1 K0 => ?_, v4, k3.trans k4 (fun k hk => n3 k hk), fun k hk => ?_⟩
      · rw [F_ref06_Words_l0_succ, hn, decT (by omega), condT]
        have e1 := words_l1 (β := β) r hx (by omega) hR F1 (F_ref01_Turn R) out hi
        have e1' := e1 (fun w39 w40 w41 w42 h43 => exA w39.a fun g44 o45 => within w41 w39.n (exI .i64 (h43.cell ⟨g44, o45 + w41.toNat * 1, none⟩) fun x46 => F_ref06_two R (IntKind.wrap .i64 (16 - x46)) h43 fun r47 h48 => (bif decide (r47 = 0) then none else exA w39.a fun g49 o50 => within w41 w39.n (exI .i64 (h48.cell ⟨g49, o50 + w41.toNat * 1, none⟩) fun x51 => F_ref01_Turn R (IntKind.wrap .u32 (IntKind.wrap .i64 (Int.tdiv w42 r47))) x51 h48 fun r52 h53 => exA w39.a fun g54 o55 => within w41 w39.n (exI .i64 (h53.cell ⟨g54, o55 + w41.toNat * 1, none⟩) fun x56 => gnew [Value.int .u32 r52, Value.int .i64 x56] 2 h53 fun g57 h58 => gappS 2 16 w40 ⟨(some ⟨g57, 0, none⟩), 1, 1⟩ h58 fun s59 h60 => (bif sameAt g54 (o55 + w41.toNat * 1) 1 h48 h53 then F_ref06_Words_l0 F1 (F_ref06_two R) (F_ref01_Turn R) R n w39 s59 (IntKind.wrap .i64 (w41 + 1)) h60 K0 else none)))))) R 0 (by omega) (by omega)
        refine Eq.trans e1' ?_
        obtain ⟨ga, oa, haa, hcc⟩ := r.cell (by omega) Nat.one_pos
        have hc : h.cell ⟨ga, oa + i * 1, none⟩ = some (.int .i64 (zs.getD i 0)) := by
          rw [Nat.mul_one, hcc i (by rw [i64s_length]; exact hi)]
          simp [i64s, hi, List.getD_eq_getElem?_getD]
        simp only [haa, exA_s, Int.toNat_natCast, within_n (show i < a.n by omega), hc, exI_s, two_eq hR hl]
        rw [decF (by omega), condF]
        have hq2 : aheadN zs i / twN (zs.getD i 0) ≤ 8388608 := by omega
        have ed : Int.tdiv ((aheadN zs i : Nat) : Int) ((twN (zs.getD i 0) : Nat) : Int) = ((aheadN zs i / twN (zs.getD i 0) : Nat) : Int) := rfl
        have el : zs.getD i 0 = (((zs.getD i 0).toNat : Nat) : Int) := by omega
        rw [ed]; clear ed
        have hq3 : 0 ≤ ((aheadN zs i / twN (zs.getD i 0) : Nat) : Int) := Int.natCast_nonneg _
        have hq4 : ((aheadN zs i / twN (zs.getD i 0) : Nat) : Int) ≤ ((8388608 : Nat) : Int) := Int.ofNat_le.2 hq2
        rw [i64w (by omega), u32w (by omega)]
        rw [show F_ref01_Turn R ((aheadN zs i / twN (zs.getD i 0) : Nat) : Int) (zs.getD i 0) h = F_ref01_Turn (β := β) R ((aheadN zs i / twN (zs.getD i 0) : Nat) : Int) (((zs.getD i 0).toNat : Nat) : Int) h by rw [← el], turn_ref hR (by omega) (by omega)]
        simp only [hc, exI_s, sameAt_1, veqO_i, condT]
        rw [i64w (x := ((i : Nat) : Int) + 1) (by omega), show ((i : Nat) : Int) + 1 = ((i + 1 : Nat) : Int) from rfl]
        refine Eq.trans (e3 β _) ?_
        exact e4 _ _ _
      · rcases n4 k hk with q | q
        · exact n3 k q
        · have := k3.1; exact .inr (by omega)
    · have : i = zs.length := by omega
      subst this
      refine ⟨h, out, fun β F1 K0 => ?_, v, .refl _ _, fun k hk => .inl hk⟩
      rw [F_ref06_Words_l0_succ, hn, decF (by omega), condF]
theorem ref_words {h : GH} {a : Sl} {zs : List Int} (r : Rdi h a zs) (hm : zs.length ≤ 1000000) {R : Nat} (hR : 4000000 < R) : ∃ h' q, Keep h h' [] ∧ Row h' q 2 (codesV (wordsP zs)) ∧ (∀ k ∈ rowsOf q, h.next ≤ k) ∧ ∀ (β : Type) (K : Sl → Int → GH → Option β), F_ref06_Words R a h K = K q (checkE zs) h' := by
  by_cases c : checkE zs = 0
  · have hr : rightP zs = true := by
      cases hr : rightP zs with
      | true => rfl
      | false => simp [checkE, hr] at c
    have hlen := (of_decide_eq_true hr).2.1
    have v0 : Vec h ⟨none, 0, 0⟩ 2 (codesV ((List.range 0).map (codeOf zs))) := Vec.nil
    obtain ⟨h1, q, e1, v1, k1, n1⟩ := words_l0 (a := a) (rightP_all hr) hlen hR R 0 r (by omega) (by omega) v0 (by simp [rowsOf])
    refine ⟨h1, q, k1.mono (by simp [rowsOf]), by rw [wordsP, if_pos c]; exact v1.row, fun k hk => (n1 k hk).elim (by simp [rowsOf]) id, fun β K => ?_⟩
    unfold F_ref06_Words; rw [F_ref06_Words_gen, rcheck_eq r hm hR, c, bne_self_eq_false, condF]
    exact e1 _ _ _
  · refine ⟨h, ⟨none, 0, 0⟩, .refl _ _, by rw [wordsP, if_neg c]; exact Row.nil, by simp [rowsOf], fun β K => ?_⟩
    unfold F_ref06_Words; rw [F_ref06_Words_gen, rcheck_eq r hm hR, bne_int, decT c, condT]
end Go.Proofs.Ytephmpbccajaaaa.Gx

