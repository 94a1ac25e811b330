/- The program puts words into its tree. No condition. -/
import Derived.Test.YtephmpbccajaaaaTree
namespace Go.Proofs.Ytephmpbccajaaaa.Gx
open Go Go.RowKit
set_option linter.unusedVariables false
set_option linter.unusedSimpArgs false
def pairsV (T : List (Int × Int)) : List Value := T.flatMap fun c => [.int .i64 c.1, .int .i64 c.2]
theorem pairsV_length : ∀ T, (pairsV T).length = T.length * 2
  | [] => rfl
  | c :: T => by have := pairsV_length T; unfold pairsV at this ⊢; simp only [List.flatMap_cons, List.length_append, List.length_cons, List.length_nil, this]; omega
theorem pairsV_app (a b : List (Int × Int)) : pairsV (a ++ b) = pairsV a ++ pairsV b := by simp [pairsV]
theorem allCells_pairsV : ∀ T, allCells (pairsV T) = true
  | [] => rfl
  | c :: T => by have := allCells_pairsV T; unfold pairsV at this ⊢; rw [List.flatMap_cons, allCells_app, this]; rfl
theorem pairsV_nth : ∀ (T : List (Int × Int)) (j b : Nat), j < T.length → b < 2 → nth (pairsV T) (j * 2 + b) = some (.int .i64 (en T j b))
  | [], j, b, h, _ => by simp at h
  | c :: T, 0, b, h, hb => by
    by_cases h0 : b = 0
    · subst h0; rfl
    · have : b = 1 := by omega
      subst this; rfl
  | c :: T, j + 1, b, h, hb => by
    have := pairsV_nth T j b (by simp at h; omega) hb
    rw [show (j + 1) * 2 + b = (j * 2 + b) + 1 + 1 by omega]
    exact this
theorem pairsV_put : ∀ (T : List (Int × Int)) (j b : Nat), j < T.length → b < 2 → ∀ e : Int, nlay (pairsV T) (j * 2 + b) [Value.int .i64 e] = pairsV (setE T j b e)
  | [], j, b, h, _, e => by simp at h
  | c :: T, 0, b, h, hb, e => by
    by_cases h0 : b = 0
    · subst h0; rw [nlay_eq]; rfl
    · have : b = 1 := by omega
      subst this; rw [nlay_eq]; rfl
  | c :: T, j + 1, b, h, hb, e => by
    have ih := pairsV_put T j b (by simp at h; omega) hb e
    rw [nlay_eq] at ih ⊢
    have es : setE (c :: T) (j + 1) b e = c :: setE T j b e := rfl
    rw [es, show pairsV (c :: setE T j b e) = Value.int .i64 c.1 :: Value.int .i64 c.2 :: pairsV (setE T j b e) from rfl, ← ih, show pairsV (c :: T) = Value.int .i64 c.1 :: Value.int .i64 c.2 :: pairsV T from rfl, show (j + 1) * 2 + b = (j * 2 + b) + 1 + 1 by omega, List.take_succ_cons, List.take_succ_cons]
    show _ :: _ :: _ = _
    congr 2
theorem bit_eq {x i : Nat} (hx : x < 4294967296) (hi : i ≤ 32) : IntKind.wrap .u32 ((BitVec.ofInt (IntKind.bits .u32) (shrI .u32 ((x : Nat) : Int) ((i : Nat) : Int)) &&& BitVec.ofInt (IntKind.bits .u32) 1).toNat : Int) = ((x / 2 ^ i % 2 : Nat) : Int) := by
  have h1 : x >>> i < 4294967296 := Nat.lt_of_le_of_lt (Nat.shiftRight_le x i) hx
  rw [shr_nat .u32 x i (by show i ≤ 32; omega), show (1 : Int) = ((1 : Nat) : Int) from rfl, and32 h1 (by decide), Nat.and_one_is_mod, Nat.shiftRight_eq_div_pow]
theorem revN_bitN {l w i : Nat} (hi : i < l) : revN l w 0 / 2 ^ i % 2 = w / 2 ^ (l - i - 1) % 2 := by
  have := revN_bit l w 0 i
  rw [if_pos hi, Nat.testBit_eq_decide_div_mod_eq, Nat.testBit_eq_decide_div_mod_eq, show l - 1 - i = l - i - 1 by omega] at this
  have := decide_eq_decide.1 this
  omega
/-- a decoder in memory -/
structure Dec (h : GH) (gd gt : Nat) (T : List (Int × Int)) : Prop where
  ptr : h.look gd = some (.row ⟨[.slice (some ⟨gt, 0, none⟩) T.length T.length], 0, false⟩)
  tree : h.look gt = some (.row ⟨pairsV T, 2, false⟩)
  ne : gd ≠ gt
theorem Dec.keep {h h' : GH} {gd gt : Nat} {T : List (Int × Int)} {own : List Nat} (d : Dec h gd gt T) (k : Keep h h' own) (h1 : gd ∉ own) (h2 : gt ∉ own) : Dec h' gd gt T := ⟨k.look d.ptr h1, k.look d.tree h2, d.ne⟩
theorem Dec.cellp {h : GH} {gd gt : Nat} {T : List (Int × Int)} (d : Dec h gd gt T) : h.cell ⟨gd, 0, none⟩ = some (.slice (some ⟨gt, 0, none⟩) T.length T.length) := by rw [cell_of d.ptr]; rfl
theorem Dec.cell {h : GH} {gd gt : Nat} {T : List (Int × Int)} (d : Dec h gd gt T) {j b : Nat} (hj : j < T.length) (hb : b < 2) : h.cell ⟨gt, j * 2 + b, none⟩ = some (.int .i64 (en T j b)) := by rw [cell_of d.tree, pairsV_nth T j b hj hb]
theorem Dec.put {h : GH} {gd gt : Nat} {T : List (Int × Int)} (d : Dec h gd gt T) {j b : Nat} (hj : j < T.length) (hb : b < 2) (e : Int) : ∃ h', Dec h' gd gt (setE T j b e) ∧ Keep h h' [gt] ∧ h'.next = h.next ∧ ∀ (β : Type) (K : GH → Option β), gput gt (j * 2 + b) [Value.int .i64 e] h K = K h' := by
  refine ⟨h.put gt (some (.row ⟨pairsV (setE T j b e), 2, false⟩)), ⟨?_, look_put_same (look_lt d.tree), d.ne⟩, keep_put _ _ _, rfl, fun β K => ?_⟩
  · rw [look_put_ne d.ne, setE_length]; exact d.ptr
  · rw [gput_eq d.tree rfl (by rw [pairsV_length]; simp; omega), pairsV_put T j b hj hb]
theorem clone_pairs {h : GH} {gt : Nat} {T : List (Int × Int)} (ht : h.look gt = some (.row ⟨pairsV T, 2, false⟩)) (hT : 0 < T.length) (hm : T.length ≤ 1000000) (R : Nat) : ∃ h' s', Vec h' s' 2 (pairsV T) ∧ Keep h h' [] ∧ (∀ k ∈ rowsOf s', h.next ≤ k) ∧ ∀ (β : Type) (K : Sl → GH → Option β), F_slices_Clone_2_int R ⟨some ⟨gt, 0, none⟩, T.length, T.length⟩ h K = K s' h' := by
  have k0 := keep_push h (.row ⟨[], 2, false⟩) []
  have v0 : Vec (h.push (.row ⟨[], 2, false⟩)) ⟨some ⟨h.next, 0, none⟩, 0, 0⟩ 2 [] := Vec.new rfl rfl
  have r0 : Row (h.push (.row ⟨[], 2, false⟩)) ⟨some ⟨gt, 0, none⟩, T.length, T.length⟩ 2 (pairsV T) := row_of_block (by rw [look_push_old (look_lt ht)]; exact ht) (by rw [pairsV_length])
  obtain ⟨h', s', e, v', k, n, l⟩ := app_vec (by_ := 16) v0 r0 (by omega) (allCells_pairsV T) (by simp [most]; omega)
  refine ⟨h', s', by simpa using v', k0.trans k (fun q hq => by simp [rowsOf] at hq; exact .inr (by omega)), fun q hq => ?_, fun β K => ?_⟩
  · rcases n q hq with h1 | h1
    · simp [rowsOf] at h1; omega
    · simp [next_push] at h1; omega
  · unfold F_slices_Clone_2_int
    rw [F_slices_Clone_2_int_gen, isNone_s, condF, gnew_eq rfl]
    exact e β K
/-- the tree's slice is one place longer, in a new block -/
theorem Dec.grow {h : GH} {gd gt : Nat} {T : List (Int × Int)} (d : Dec h gd gt T) (hT : 0 < T.length) (hm : T.length ≤ 100000) (R : Nat) : ∃ h' gt', Dec h' gd gt' (T ++ [(0, 0)]) ∧ Keep h h' [gd] ∧ h.next ≤ gt' ∧ ∀ (β : Type) (K : GH → Option β),
    (F_slices_Clone_2_int R ⟨some ⟨gt, 0, none⟩, T.length, T.length⟩ h fun r40 h41 => gnew [Value.int .i64 0, Value.int .i64 0] 2 h41 fun g42 h43 => gappS 2 16 r40 ⟨(some ⟨g42, 0, none⟩), 1, 1⟩ h43 fun s44 h45 => gput gd 0 [Value.slice s44.a s44.n s44.c] h45 K) = K h' := by
  obtain ⟨h1, s1, v1, k1, n1, e1⟩ := clone_pairs d.tree hT (by omega) R
  have l1 : s1.n = T.length := by have := v1.len; rw [pairsV_length] at this; omega
  obtain ⟨h2, s2, e2, v2, k2, n2, l2⟩ := app_one' (by_ := 16) v1 [Value.int .i64 0, Value.int .i64 0] rfl (by omega) rfl (by rw [l1]; simp [most]; omega)
  rw [show [Value.int .i64 0, Value.int .i64 0] = pairsV [(0, 0)] from rfl, ← pairsV_app] at v2
  obtain ⟨gt', ha, hl⟩ : ∃ r, s2.a = some ⟨r, 0, none⟩ ∧ h2.look r = some (.row ⟨pairsV (T ++ [(0, 0)]), 2, false⟩) := by
    rcases v2.at_ with ⟨_, q⟩ | q
    · omega
    · exact q
  have hgt : h.next ≤ gt' := by
    rcases n2 gt' (by simp [rowsOf, ha]) with q | q
    · exact n1 _ q
    · have := k1.1; omega
  have hgd : gd < h.next := look_lt d.ptr
  have kk : Keep h h2 [] := k1.trans k2 (fun q hq => .inr (n1 q hq))
  have ptr2 := kk.look d.ptr (by simp)
  refine ⟨h2.put gd (some (.row ⟨[.slice (some ⟨gt', 0, none⟩) (T.length + 1) (T.length + 1)], 0, false⟩)), gt', ⟨?_, ?_, by omega⟩, (kk.mono (by simp)).trans (keep_put _ _ _) (fun q hq => .inl hq), hgt, fun β K => ?_⟩
  · rw [look_put_same (look_lt ptr2)]; simp
  · rw [look_put_ne (by omega)]; exact hl
  · rw [e1, e2, gput_eq ptr2 rfl (by simp), v2.c, ha, l2, l1]; rfl
section
variable {zs : List Int} (hx : ∀ x ∈ zs, lenP x) (hw : wgt zs = 65536) (hlen : zs.length ≤ 256)
/-- the entries of a word that are there already -/
def Rout (zs : List Int) (T : List (Int × Int)) (ps : List (Nat × Nat)) (m i : Nat) : Prop := ∀ n, n < i → ∃ j, j < T.length ∧ ps.getD j (0, 0) = (n, wdN zs m / 2 ^ (lnN zs m - n)) ∧ en T j (wdN zs m / 2 ^ (lnN zs m - n - 1) % 2) ≠ 0
include hx hw hlen
theorem add_loop {m : Nat} (hm : m < zs.length) (R : Nat) {gd g5 : Nat} (hne : g5 ≠ gd) : ∀ (n i : Nat) {h : GH} {gt : Nat} {T : List (Int × Int)} {ps : List (Nat × Nat)} {at_ : Nat}, lnN zs m ≤ n + i → Dec h gd gt T → Tree zs T ps m → at_ < T.length → ps.getD at_ (0, 0) = (i, wdN zs m / 2 ^ (lnN zs m - i)) → i + 1 ≤ lnN zs m → Rout zs T ps m i →
    h.look g5 = some (.row ⟨[.int .u32 (revN (lnN zs m) (wdN zs m) 0 : Nat), .int .i64 (lnN zs m : Nat)], 0, false⟩) → g5 ≠ gt → T.length ≤ 1 + 16 * m + i →
    ∃ h' gt' T' ps' at', Dec h' gd gt' T' ∧ Tree zs T' ps' m ∧ at' < T'.length ∧ ps'.getD at' (0, 0) = (lnN zs m - 1, wdN zs m / 2) ∧ Rout zs T' ps' m (lnN zs m - 1) ∧ Keep h h' [gd, gt] ∧ (gt' = gt ∨ h.next ≤ gt') ∧
      h'.look g5 = some (.row ⟨[.int .u32 (revN (lnN zs m) (wdN zs m) 0 : Nat), .int .i64 (lnN zs m : Nat)], 0, false⟩) ∧ T'.length ≤ 16 * (m + 1) ∧
      ∀ (β : Type) (K0 : Option Addr → Int → Option Addr → Int → GH → Option β), F_sfano_Decoder_add_l0 (F_slices_Clone_2_int R) R n (some ⟨gd, 0, none⟩) (m : Nat) (some ⟨g5, 0, none⟩) (at_ : Nat) (i : Nat) h K0 = K0 (some ⟨gd, 0, none⟩) (m : Nat) (some ⟨g5, 0, none⟩) (at' : Nat) h' := by
  intro n
  have hl := hx _ (mem_getD hm)
  unfold lenP at hl
  have hl16 : 1 ≤ lnN zs m ∧ lnN zs m ≤ 16 := by unfold lnN; omega
  have hbits := revN_lt (lnN zs m) (wdN zs m)
  have hp16 : 2 ^ lnN zs m ≤ 2 ^ 16 := Nat.pow_le_pow_right (by omega) hl16.2
  rw [show (2 : Nat) ^ 16 = 65536 by decide] at hp16
  induction n with
  | zero => intro i h gt T ps at_ h1 d t ha hp hi; omega
  | succ n ih =>
    intro i h gt T ps at_ h1 d t ha hp hi hr hg5 hgt hT
    have c5 : h.cell ⟨g5, 0, none⟩ = some (.int .u32 (revN (lnN zs m) (wdN zs m) 0 : Nat)) := by rw [cell_of hg5]; rfl
    have c6 : h.cell ⟨g5, 0 + 1, none⟩ = some (.int .i64 (lnN zs m : Nat)) := by rw [cell_of hg5]; rfl
    by_cases hlast : i + 1 < lnN zs m
    · obtain ⟨b, hb⟩ : ∃ b, b = wdN zs m / 2 ^ (lnN zs m - i - 1) % 2 := ⟨_, rfl⟩
      have hb2 : b < 2 := by omega
      have eb : IntKind.wrap .u32 ((BitVec.ofInt (IntKind.bits .u32) (shrI .u32 ((revN (lnN zs m) (wdN zs m) 0 : Nat) : Int) ((i : Nat) : Int)) &&& BitVec.ofInt (IntKind.bits .u32) 1).toNat : Int) = ((b : Nat) : Int) := by
        rw [bit_eq (by omega) (by omega), revN_bitN (by omega), hb]
      have hnext := wd_next (wdN zs m) (lnN zs m) i (by omega)
      rw [← hb] at hnext
      have wat : ∀ {β : Type} (K : Option β), within ((at_ : Nat) : Int) T.length K = K := fun K => within_n ha K
      have wb : ∀ {β : Type} (K : Option β), within ((b : Nat) : Int) 2 K = K := fun K => within_n hb2 K
      have ei : IntKind.wrap .i64 (((i : Nat) : Int) + 1) = ((i + 1 : Nat) : Int) := by rw [i64w (by omega)]; rfl
      have el : IntKind.wrap .i64 (((lnN zs m : Nat) : Int) - 1) = ((lnN zs m - 1 : Nat) : Int) := by rw [i64w (by omega)]; omega
      by_cases h0 : en T at_ b = 0
      · -- a place more
        obtain ⟨hA, dA, kA, nA, eA⟩ := d.put ha hb2 ((T.length : Nat) : Int)
        obtain ⟨hB, gt', dB, kB, nB, eB⟩ := dA.grow (by rw [setE_length]; exact t.pos) (by rw [setE_length]; omega) R
        have tB := tree_new t hm ha hb2 hp h0 (by omega) (by rw [show lnN zs m - (i + 1) = lnN zs m - i - 1 by omega]; exact hnext)
        have hps : (ps ++ [(i + 1, 2 * (wdN zs m / 2 ^ (lnN zs m - i)) + b)]).getD T.length (0, 0) = (i + 1, wdN zs m / 2 ^ (lnN zs m - (i + 1))) := by
          rw [← t.len, getD_appr, show lnN zs m - (i + 1) = lnN zs m - i - 1 by omega, ← hnext]
        have hE : ∀ j' b', j' < T.length → b' < 2 → en (setE T at_ b ((T.length : Nat) : Int) ++ [(0, 0)]) j' b' = if j' = at_ ∧ b' = b then ((T.length : Nat) : Int) else en T j' b' := fun j' b' q1 q2 => by rw [en_app _ (by rw [setE_length]; exact q1), en_set _ ha q1 hb2 q2]
        have hr' : Rout zs (setE T at_ b ((T.length : Nat) : Int) ++ [(0, 0)]) (ps ++ [(i + 1, 2 * (wdN zs m / 2 ^ (lnN zs m - i)) + b)]) m (i + 1) := by
          intro k hk
          by_cases c : k < i
          · obtain ⟨j, j1, j2, j3⟩ := hr k c
            refine ⟨j, by simp [setE_length]; omega, by rw [getD_appl _ _ (by rw [t.len]; exact j1)]; exact j2, ?_⟩
            rw [hE j _ j1 (by omega)]
            split
            · have := t.pos; omega
            · exact j3
          · have : k = i := by omega
            subst this
            refine ⟨at_, by simp [setE_length]; omega, by rw [getD_appl _ _ (by rw [t.len]; exact ha)]; exact hp, ?_⟩
            rw [← hb, hE at_ b ha hb2, if_pos ⟨rfl, rfl⟩]
            have := t.pos; omega
        have hlt := look_lt hg5
        have kAB : Keep h hB [gd, gt] := (kA.mono (by simp)).trans (kB.mono (o1 := [gd, gt]) (by simp)) (fun q hq => .inl hq)
        obtain ⟨h', gt2, T', ps', at', r1, r2, r3, r4, r5, r6, r7, r8, r9, r10⟩ := ih (i + 1) (at_ := T.length) (by omega) dB tB (by simp [setE_length]) hps (by omega) hr' (kAB.look hg5 (by simp; omega)) (by omega) (by simp [setE_length]; omega)
        refine ⟨h', gt2, T', ps', at', r1, r2, r3, r4, r5, ?_, ?_, r8, r9, fun β K0 => ?_⟩
        · refine kAB.trans r6 (fun q hq => ?_)
          simp at hq
          rcases hq with rfl | rfl
          · exact .inl (by simp)
          · exact .inr (by omega)
        · have := kAB.1
          rcases r7 with q | q
          · exact .inr (by omega)
          · exact .inr (by omega)
        · have cA : hA.cell ⟨gd, 0, none⟩ = some (.slice (some ⟨gt, 0, none⟩) T.length T.length) := by have := dA.cellp; rwa [setE_length] at this
          have cB : hB.cell ⟨gd, 0, none⟩ = some (.slice (some ⟨gt', 0, none⟩) (T.length + 1) (T.length + 1)) := by have := dB.cellp; simpa [setE_length] using this
          have cN : hB.cell ⟨gt', at_ * 2 + b, none⟩ = some (.int .i64 ((T.length : Nat) : Int)) := by
            rw [dB.cell (by simp [setE_length]; omega) hb2, hE at_ b ha hb2, if_pos ⟨rfl, rfl⟩]
          rw [setE_length] at eB
          rw [F_sfano_Decoder_add_l0_succ, exA_s, c6, exI_s, el, decT (by omega), condT]
          simp only [exA_s, Nat.add_zero, Nat.zero_add, Nat.mul_one, c5, exI_s, d.cellp, exS_s', Int.toNat_natCast, wat, eb, wb, d.cell ha hb2, h0]
          rw [decF (by omega), condF, beq_self_eq_true, condT]
          refine Eq.trans (eA β _) ?_
          rw [cA, exS_s']
          refine Eq.trans (eB β _) ?_
          rw [cB, exS_s']
          simp only [exA_s, Nat.zero_add, within_n (show at_ < T.length + 1 by omega), cN, exI_s, ei]
          exact r10 β K0
      · -- a place that is there
        have hent := t.ent at_ b ha hb2
        rw [hp] at hent
        simp only at hent
        rcases hent with h | ⟨e1, e2, e3⟩ | ⟨s, s1, s2, s3, s4⟩
        · exact absurd h h0
        · rw [← hnext] at e3
          have hr' : Rout zs T ps m (i + 1) := by
            intro k hk
            by_cases c : k < i
            · exact hr k c
            · have : k = i := by omega
              subst this
              exact ⟨at_, ha, hp, by rw [← hb]; exact h0⟩
          obtain ⟨h', gt2, T', ps', at', r1, r2, r3, r4, r5, r6, r7, r8, r9, r10⟩ := ih (i + 1) (at_ := (en T at_ b).toNat) (by omega) d t e2 (by rw [e3, show lnN zs m - (i + 1) = lnN zs m - i - 1 by omega]) (by omega) hr' hg5 hgt (by omega)
          refine ⟨h', gt2, T', ps', at', r1, r2, r3, r4, r5, r6, r7, r8, r9, fun β K0 => ?_⟩
          rw [F_sfano_Decoder_add_l0_succ, exA_s, c6, exI_s, el, decT (by omega), condT]
          simp only [exA_s, Nat.add_zero, Nat.zero_add, Nat.mul_one, c5, exI_s, d.cellp, exS_s', Int.toNat_natCast, wat, eb, wb, d.cell ha hb2]
          rw [decF (by omega), condF, beq_int, decF h0, condF, ei]
          rw [Int.toNat_of_nonneg (by omega)] at r10
          exact r10 β K0
        · exfalso
          rw [← hnext] at s4
          have hne2 : s ≠ m := by omega
          refine no_prefix hx hw (by omega) hm hne2 (by omega) ?_
          rw [s3, s4, show lnN zs m - (i + 1) = lnN zs m - i - 1 by omega]
    · have hi' : i = lnN zs m - 1 := by omega
      subst hi'
      refine ⟨h, gt, T, ps, at_, d, t, ha, by rw [hp, show lnN zs m - (lnN zs m - 1) = 1 by omega, Nat.pow_one], hr, .refl _ _, .inl rfl, hg5, by omega, fun β K0 => ?_⟩
      rw [F_sfano_Decoder_add_l0_succ, exA_s, c6, exI_s, i64w (by omega), decF (by omega), condF]
theorem add_eq {m : Nat} (hm : m < zs.length) {R : Nat} (hR : 4000000 < R) {h : GH} {gd gt : Nat} {T : List (Int × Int)} {ps : List (Nat × Nat)} (d : Dec h gd gt T) (t : Tree zs T ps m) (hT : T.length ≤ 1 + 16 * m) :
    ∃ h' gt' T' ps', Dec h' gd gt' T' ∧ Tree zs T' ps' (m + 1) ∧ T'.length ≤ 1 + 16 * (m + 1) ∧ Keep h h' [gd, gt] ∧ (gt' = gt ∨ h.next ≤ gt') ∧ ∀ (β : Type) (K : GH → Option β), F_sfano_Decoder_add R (some ⟨gd, 0, none⟩) (m : Nat) (revN (lnN zs m) (wdN zs m) 0 : Nat) (lnN zs m : Nat) h K = K h' := by
  have hl := hx _ (mem_getD hm)
  unfold lenP at hl
  have hl16 : 1 ≤ lnN zs m ∧ lnN zs m ≤ 16 := by unfold lnN; omega
  have hbits := revN_lt (lnN zs m) (wdN zs m)
  have hp16 : 2 ^ lnN zs m ≤ 2 ^ 16 := Nat.pow_le_pow_right (by omega) hl16.2
  rw [show (2 : Nat) ^ 16 = 65536 by decide] at hp16
  have hgd := look_lt d.ptr
  have hgt := look_lt d.tree
  have k0 := keep_push h (.row ⟨[.int .u32 (revN (lnN zs m) (wdN zs m) 0 : Nat), .int .i64 (lnN zs m : Nat)], 0, false⟩) []
  obtain ⟨h1, gt1, T1, ps1, at1, r1, r2, r3, r4, r5, r6, r7, r8, r9, r10⟩ := add_loop hx hw hlen hm R (g5 := h.next) (gd := gd) (by omega) R 0 (h := h.push (.row ⟨[.int .u32 (revN (lnN zs m) (wdN zs m) 0 : Nat), .int .i64 (lnN zs m : Nat)], 0, false⟩)) (at_ := 0) (by omega) (d.keep k0 (by simp) (by simp)) t t.pos (by
      rw [t.root, Nat.sub_zero, Nat.div_eq_of_lt]; exact (wd_eq hx hw hm).2) (by omega) (fun n hn => by omega) look_push_new (by omega) (by omega)
  obtain ⟨b, hb⟩ : ∃ b, b = wdN zs m % 2 := ⟨_, rfl⟩
  have hb2 : b < 2 := by omega
  obtain ⟨h2, d2, k2, n2, e2⟩ := r1.put r3 hb2 (-1 - ((m : Nat) : Int))
  have kk : Keep h h1 [gd, gt] := (k0.mono (by simp)).trans r6 (fun q hq => .inl hq)
  refine ⟨h2, gt1, _, ps1, d2, tree_end hx hw r2 hm r3 hb r4 (fun n hn => r5 n (by omega)), by rw [setE_length]; omega, ?_, ?_, fun β K => ?_⟩
  · refine kk.trans k2 (fun q hq => ?_)
    simp at hq; subst hq
    rcases r7 with q | q
    · subst q; exact .inl (by simp)
    · simp [next_push] at q; exact .inr (by omega)
  · rcases r7 with q | q
    · exact .inl q
    · simp [next_push] at q; exact .inr (by omega)
  · have c5 : h1.cell ⟨h.next, 0, none⟩ = some (.int .u32 (revN (lnN zs m) (wdN zs m) 0 : Nat)) := by rw [cell_of r8]; rfl
    have c6 : h1.cell ⟨h.next, 0 + 1, none⟩ = some (.int .i64 (lnN zs m : Nat)) := by rw [cell_of r8]; rfl
    have el : IntKind.wrap .i64 (((lnN zs m : Nat) : Int) - 1) = ((lnN zs m - 1 : Nat) : Int) := by rw [i64w (by omega)]; omega
    have eb : IntKind.wrap .u32 ((BitVec.ofInt (IntKind.bits .u32) (shrI .u32 ((revN (lnN zs m) (wdN zs m) 0 : Nat) : Int) ((lnN zs m - 1 : Nat) : Int)) &&& BitVec.ofInt (IntKind.bits .u32) 1).toNat : Int) = ((b : Nat) : Int) := by
      rw [bit_eq (by omega) (by omega), revN_bitN (by omega), hb, show lnN zs m - (lnN zs m - 1) - 1 = 0 by omega, Nat.pow_zero, Nat.div_one]
    unfold F_sfano_Decoder_add
    rw [F_sfano_Decoder_add_gen, gnew_eq rfl]
    have e1 := r10 β
    rw [show ((0 : Nat) : Int) = 0 from rfl] at e1
    refine Eq.trans (e1 _) ?_
    simp only [exA_s, Nat.add_zero, Nat.zero_add, Nat.mul_one, r1.cellp, exS_s', c5, exI_s]
    rw [show h1.cell ⟨h.next, 1, none⟩ = some (.int .i64 (lnN zs m : Nat)) from c6, exI_s, el, decF (by omega), condF]
    simp only [Int.toNat_natCast, within_n r3, eb, within_n hb2]
    rw [show IntKind.wrap .i64 (-1 - ((m : Nat) : Int)) = -1 - ((m : Nat) : Int) by rw [i64w (by omega)]]
    exact e2 β _
theorem new_loop {R : Nat} (hR : 4000000 < R) {gd : Nat} {s : Sl} (c : checkE zs = 0) : ∀ (n m : Nat) {h : GH} {gt : Nat} {T : List (Int × Int)} {ps : List (Nat × Nat)}, m ≤ zs.length → zs.length < n + m → Dec h gd gt T → Tree zs T ps m → T.length ≤ 1 + 16 * m → Row h s 2 (codesV (wordsP zs)) → gd ∉ rowsOf s → gt ∉ rowsOf s →
    ∃ h' gt' T' ps', Dec h' gd gt' T' ∧ Tree zs T' ps' zs.length ∧ Keep h h' [gd, gt] ∧ (gt' = gt ∨ h.next ≤ gt') ∧ ∀ (β : Type) (F1 : Sl → GH → (Sl → Int → GH → Option β) → Option β) (K0 : Option Addr → GH → Option β), F_sfano_New_l0 F1 (F_sfano_Decoder_add R) R n (some ⟨gd, 0, none⟩) s (zs.length : Nat) (m : Nat) h K0 = K0 (some ⟨gd, 0, none⟩) h' := by
  intro n
  induction n with
  | zero => intro m h gt T ps h1 h2; omega
  | succ n ih =>
    intro m h gt T ps h1 h2 d t hT rs hg1 hg2
    by_cases hm : m < zs.length
    · have hwl := wordsP_length c
      obtain ⟨sn, gs, os, hsa, hcc⟩ := rs.code (by omega)
      have c1 := hcc m (by omega)
      rw [wordsP_get c hm] at c1
      simp only at c1
      have hl := hx _ (mem_getD hm)
      unfold lenP at hl
      have el : zs.getD m 0 = ((lnN zs m : Nat) : Int) := by unfold lnN; omega
      have elN : (zs.getD m 0).toNat = lnN zs m := rfl
      rw [elN, el] at c1
      have hgd := look_lt d.ptr
      have hgt := look_lt d.tree
      -- the loop's own word
      have k1 := keep_push h (.row ⟨[.int .u32 (revN (lnN zs m) (wdN zs m) 0 : Nat), .int .i64 (lnN zs m : Nat)], 0, false⟩) []
      obtain ⟨h3, gt3, T3, ps3, d3, t3, l3, k3, n3, e3⟩ := add_eq hx hw hlen hm hR (d.keep k1 (by simp) (by simp)) t hT
      have kk : Keep h h3 [gd, gt] := (k1.mono (by simp)).trans k3 (fun q hq => .inl hq)
      have rs3 := rs.keep kk (fun q hq hm => by simp at hm; rcases hm with rfl | rfl; exact hg1 hq; exact hg2 hq)
      have hn3 : gt3 = gt ∨ h.next ≤ gt3 := by
        rcases n3 with q | q
        · exact .inl q
        · simp [next_push] at q; exact .inr (by omega)
      obtain ⟨h4, gt4, T4, ps4, d4, t4, k4, n4, e4⟩ := ih (m + 1) (by omega) (by omega) d3 t3 l3 rs3 hg1 (fun q => by
        rcases hn3 with e | e
        · subst e; exact hg2 q
        · have := rs.lt _ q; omega)
      refine ⟨h4, gt4, T4, ps4, d4, t4, ?_, ?_, fun β F1 K0 => ?_⟩
      · refine kk.trans k4 (fun q hq => ?_)
        simp at hq
        rcases hq with rfl | rfl
        · exact .inl (by simp)
        · rcases hn3 with e | e
          · subst e; exact .inl (by simp)
          · exact .inr e
      · have := kk.1
        rcases n4 with e | e
        · subst e; exact hn3
        · exact .inr (by omega)
      · rw [F_sfano_New_l0_succ, decT (by omega), condT, hsa]
        simp only [exA_s, sn, hwl, within_n hm, Int.toNat_natCast, c1.1, c1.2, exI_s]
        rw [gnew_eq rfl, gput_eq look_push_new rfl (by simp), put_push_same rfl]
        rw [show nlay [Value.int .u32 0, Value.int .i64 0] 0 [Value.int .u32 ((revN (lnN zs m) (wdN zs m) 0 : Nat) : Int), Value.int .i64 ((lnN zs m : Nat) : Int)] = [Value.int .u32 ((revN (lnN zs m) (wdN zs m) 0 : Nat) : Int), Value.int .i64 ((lnN zs m : Nat) : Int)] from rfl]
        rw [cell_of look_push_new, cell_of look_push_new]
        rw [show nth [Value.int .u32 ((revN (lnN zs m) (wdN zs m) 0 : Nat) : Int), Value.int .i64 ((lnN zs m : Nat) : Int)] 0 = some (.int .u32 ((revN (lnN zs m) (wdN zs m) 0 : Nat) : Int)) from rfl, show nth [Value.int .u32 ((revN (lnN zs m) (wdN zs m) 0 : Nat) : Int), Value.int .i64 ((lnN zs m : Nat) : Int)] (0 + 1) = some (.int .i64 ((lnN zs m : Nat) : Int)) from rfl, exI_s, exI_s]
        refine Eq.trans (e3 β _) ?_
        rw [i64w (by omega)]
        exact e4 β F1 K0
    · have : m = zs.length := by omega
      subst this
      refine ⟨h, gt, T, ps, d, t, .refl _ _, .inl rfl, fun β F1 K0 => ?_⟩
      rw [F_sfano_New_l0_succ, decF (by omega), condF]
end
theorem prog_new {h : GH} {a : Sl} {zs : List Int} (r : Rdi h a zs) (hm : zs.length ≤ 1000000) {R : Nat} (hR : 4000000 < R) : ∃ h' p, Keep h h' [] ∧ ((checkE zs ≠ 0 ∧ p = none) ∨ (checkE zs = 0 ∧ ∃ gd gt T ps, p = some ⟨gd, 0, none⟩ ∧ h.next ≤ gd ∧ h.next ≤ gt ∧ Dec h' gd gt T ∧ Tree zs T ps zs.length)) ∧ ∀ (β : Type) (K : Option Addr → Int → GH → Option β), F_sfano_New R a h K = K p (checkE zs) h' := by
  obtain ⟨h2, q2, k2, r2, n2, e2⟩ := prog_codes r hm hR
  by_cases c : checkE zs = 0
  · obtain ⟨hx, hw, hl1, hl2⟩ := checkE_0 c
    obtain ⟨h3, e3h⟩ : ∃ h3, h3 = h2.push (.row ⟨pairsV [(0, 0)], 2, false⟩) := ⟨_, rfl⟩
    obtain ⟨h4, e4h⟩ : ∃ h4, h4 = h3.push (.row ⟨[.slice (some ⟨h2.next, 0, none⟩) 1 1], 0, false⟩) := ⟨_, rfl⟩
    have n3 : h3.next = h2.next + 1 := by rw [e3h]; rfl
    have n4 : h4.next = h2.next + 2 := by rw [e4h, next_push, n3]
    have k4 : Keep h2 h4 [] := by rw [e4h, e3h]; exact (keep_push _ _ []).trans (keep_push _ _ []) (by simp)
    have d4 : Dec h4 h3.next h2.next [(0, 0)] := ⟨by rw [e4h]; exact look_push_new, by rw [e4h, look_push_old (by omega), e3h]; exact look_push_new, by omega⟩
    have hlt := r2.lt
    have wl := wordsP_length c
    have qn : q2.n = zs.length := by have := r2.len; rw [codesV_length, wl] at this; omega
    obtain ⟨h5, gt, T, ps, d5, t5, k5, n5, e5⟩ := new_loop hx hw hl2 hR c R 0 (by omega) (by omega) d4 (tree_start hx hw hl1) (by simp) (r2.keep k4 (by simp)) (fun q => by have := hlt _ q; omega) (fun q => by have := hlt _ q; omega)
    have k2n := k2.1
    refine ⟨h5, some ⟨h3.next, 0, none⟩, ?_, .inr ⟨c, h3.next, gt, T, ps, rfl, by omega, ?_, d5, t5⟩, fun β K => ?_⟩
    · refine (k2.trans k4 (by simp)).trans k5 (fun q hq => ?_)
      simp at hq
      exact .inr (by omega)
    · rcases n5 with q | q <;> omega
    · unfold F_sfano_New
      rw [F_sfano_New_gen, e2, c, bne_self_eq_false, condF, gmake, decT (by omega), condT, decT (by omega), condT, decT (by simp only [most]; omega), condT]
      rw [show reps (1 : Int).toNat (vcells (Value.agg #[Value.int .i64 0, Value.int .i64 0])) = pairsV [(0, 0)] from rfl, gnew_eq (allCells_pairsV _), gnew_eq rfl, ← e3h]
      have eh : h3.push (.row ⟨[Value.slice (⟨some ⟨h2.next, 0, none⟩, (1 : Int).toNat, (1 : Int).toNat⟩ : Sl).a (⟨some ⟨h2.next, 0, none⟩, (1 : Int).toNat, (1 : Int).toNat⟩ : Sl).n (⟨some ⟨h2.next, 0, none⟩, (1 : Int).toNat, (1 : Int).toNat⟩ : Sl).c], 0, false⟩) = h4 := by rw [e4h]; rfl
      rw [eh, qn]
      have e6 := e5 β (F_sfano_Codes R)
      rw [show ((0 : Nat) : Int) = 0 from rfl] at e6
      exact e6 _
  · refine ⟨h2, none, k2, .inl ⟨c, rfl⟩, fun β K => ?_⟩
    unfold F_sfano_New; rw [F_sfano_New_gen, e2, bne_int, decT c, condT]
end Go.Proofs.Ytephmpbccajaaaa.Gx

