/- The program's Codes: the words of lengths, as the document has them. No condition. -/
import Derived.Test.YtephmpbccajaaaaCodB
namespace Go.Proofs.Ytephmpbccajaaaa.Gx
open Go Go.RowKit
set_option linter.unusedVariables false
set_option linter.unusedSimpArgs false
/-! ### the plain law -/
def wgtK (zs D : List Int) : Nat := (D.map fun x => twN (kyK zs x)).sum
def outsD (zs : List Int) : List Int → List (Int × Int)
  | [] => List.replicate zs.length (0, 0)
  | x :: D => (outsD zs D).set x.toNat (((revN 16 (wgtK zs D) 0 : Nat) : Int), kyK zs x)
theorem outsD_length (zs : List Int) : ∀ D, (outsD zs D).length = zs.length
  | [] => by simp [outsD]
  | x :: D => by simp [outsD, outsD_length zs D]
theorem outsD_get (zs : List Int) : ∀ D : List Int, (∀ x ∈ D, 0 ≤ x ∧ x < zs.length) → D.Nodup → ∀ A x B, D = A ++ x :: B → (outsD zs D).getD x.toNat (0, 0) = (((revN 16 (wgtK zs B) 0 : Nat) : Int), kyK zs x)
  | [], _, _, A, x, B, h => by simp at h
  | d :: D, hr, hn, A, x, B, h => by
    have hn' := List.nodup_cons.1 hn
    have hd := hr d (by simp)
    rw [outsD, List.getD_eq_getElem?_getD, List.getElem?_set]
    cases A with
    | nil =>
      simp at h
      obtain ⟨rfl, rfl⟩ := h
      rw [if_pos rfl, if_pos (by rw [outsD_length]; omega)]; rfl
    | cons a A =>
      simp at h
      have hx : x ∈ D := by rw [h.2]; simp
      have hxr := hr x (by simp [hx])
      have : d ≠ x := fun q => hn'.1 (by rw [q]; exact hx)
      rw [if_neg (by omega), ← List.getD_eq_getElem?_getD]
      exact outsD_get zs D (fun y hy => hr y (by simp [hy])) hn'.2 A x B h.2
def idxs (n : Nat) : List Int := (List.range n).map (fun k => ((k : Nat) : Int))
theorem idxs_length (n : Nat) : (idxs n).length = n := by simp [idxs]
theorem idxs_get {n k : Nat} (h : k < n) : (idxs n).getD k 0 = (k : Nat) := by
  rw [List.getD_eq_getElem?_getD]; simp [idxs, h]
theorem idxs_mem {n : Nat} {x : Int} : x ∈ idxs n ↔ 0 ≤ x ∧ x < n := by
  unfold idxs
  rw [List.mem_map]
  constructor
  · rintro ⟨k, hk, rfl⟩; rw [List.mem_range] at hk; omega
  · rintro ⟨h1, h2⟩; exact ⟨x.toNat, by rw [List.mem_range]; omega, by omega⟩
theorem idxs_asc (n : Nat) : (idxs n).Pairwise (· < ·) := by
  unfold idxs
  rw [List.pairwise_map]
  exact List.pairwise_lt_range.imp (fun h => by omega)
theorem idxs_map (zs : List Int) : (idxs zs.length).map (fun x => kyK zs x) = zs := by
  apply List.ext_getElem?
  intro k
  unfold idxs
  rw [List.getElem?_map, List.getElem?_map]
  by_cases hk : k < zs.length
  · rw [List.getElem?_eq_getElem (by simpa using hk), List.getElem?_eq_getElem hk]
    simp [kyK, hk]
  · rw [List.getElem?_eq_none (by simp; omega), List.getElem?_eq_none (by omega)]; rfl
theorem sum_perm {a b : List Nat} (p : a.Perm b) : a.sum = b.sum := by
  induction p with
  | nil => rfl
  | cons x _ ih => simp [ih]
  | swap x y l => simp; omega
  | trans _ _ h1 h2 => rw [h1, h2]
theorem wgtK_perm {zs D E : List Int} (p : D.Perm E) : wgtK zs D = wgtK zs E := sum_perm (p.map _)
theorem wgtK_idxs (zs : List Int) : wgtK zs (idxs zs.length) = wgt zs := by
  unfold wgtK wgt
  have : (idxs zs.length).map (fun x => twN (kyK zs x)) = ((idxs zs.length).map (fun x => kyK zs x)).map twN := by rw [List.map_map]; rfl
  rw [this, idxs_map]
theorem wgtK_app (zs D E : List Int) : wgtK zs (D ++ E) = wgtK zs D + wgtK zs E := by simp [wgtK]
theorem wgtK_cons (zs : List Int) (x : Int) (E : List Int) : wgtK zs (x :: E) = twN (kyK zs x) + wgtK zs E := by simp [wgtK]
def aheadI (zs : List Int) (i : Int) (k : Int) : Bool := decide (aheadB zs i.toNat k.toNat)
theorem aheadTo_filter (zs : List Int) (i : Nat) : ∀ k, aheadTo zs i k = wgtK zs ((idxs k).filter (aheadI zs (i : Nat)))
  | 0 => rfl
  | k + 1 => by
    rw [aheadTo, aheadTo_filter zs i k, show idxs (k + 1) = idxs k ++ [((k : Nat) : Int)] by unfold idxs; rw [List.range_succ]; simp, List.filter_append, wgtK_app]
    congr 1
    unfold aheadI
    by_cases c : aheadB zs i k
    · rw [if_pos c, List.filter_cons_of_pos (by simpa using c)]; simp [wgtK, kyK]
    · rw [if_neg c, List.filter_cons_of_neg (by simpa using c)]; simp [wgtK]
theorem ahead_Lx {zs : List Int} {i k : Int} (hi : 0 ≤ i) (hk : 0 ≤ k) : aheadI zs i k = true ↔ Lx zs i k := by
  unfold aheadI
  rw [decide_eq_true_iff]
  unfold aheadB Lx kyK
  omega
theorem srt_nodup {keys Z : List Int} (s : Srt keys Z) : Z.Nodup := by
  refine List.Pairwise.imp (fun {a b} h => ?_) s
  intro q
  subst q
  rcases h with h | ⟨_, h⟩ <;> omega
section
variable {zs Z : List Int} (hp : Z.Perm (idxs zs.length)) (hs : Srt zs Z) (hx : ∀ x ∈ zs, lenP x)
include hp hs
theorem behind_ahead {A B : List Int} {x : Int} (h : Z = A ++ x :: B) : wgtK zs B = aheadN zs x.toNat := by
  have hm : ∀ y ∈ Z, 0 ≤ y ∧ y < zs.length := fun y hy => idxs_mem.1 (hp.mem_iff.1 hy)
  have hx0 := hm x (by rw [h]; simp)
  unfold aheadN
  rw [aheadTo_filter, show ((x.toNat : Nat) : Int) = x by omega, ← wgtK_perm (hp.filter _), h, List.filter_append]
  rw [h] at hs
  have h1 := List.pairwise_append.1 hs
  have h2 := List.pairwise_cons.1 h1.2.1
  have e1 : A.filter (aheadI zs x) = [] := by
    rw [List.filter_eq_nil_iff]
    intro a ha
    have hl := h1.2.2 a ha x (by simp)
    have := hm a (by rw [h]; simp [ha])
    rw [ahead_Lx hx0.1 this.1]
    unfold Lx at hl ⊢; omega
  have e2 : B.filter (aheadI zs x) = B := by
    rw [List.filter_eq_self]
    intro b hb
    have := hm b (by rw [h]; simp [hb])
    rw [ahead_Lx hx0.1 this.1]
    exact h2.1 b hb
  have e3 : aheadI zs x x = false := by
    rw [Bool.eq_false_iff]
    intro q
    rw [ahead_Lx hx0.1 hx0.1] at q
    unfold Lx at q; omega
  rw [e1, List.filter_cons_of_neg (by rw [e3]; simp), e2, List.nil_append]
include hx
theorem ahead_dvd (hw : wgt zs = 65536) {A B : List Int} {x : Int} (h : Z = A ++ x :: B) : twN (kyK zs x) ∣ aheadN zs x.toNat ∧ aheadN zs x.toNat + twN (kyK zs x) ≤ 65536 := by
  have hm : ∀ y ∈ Z, 0 ≤ y ∧ y < zs.length := fun y hy => idxs_mem.1 (hp.mem_iff.1 hy)
  have hk : ∀ y ∈ Z, lenP (kyK zs y) := fun y hy => by
    have := hm y hy
    exact hx _ (mem_getD (by omega))
  have hb := behind_ahead hp hs h
  have ht : wgtK zs A + (twN (kyK zs x) + wgtK zs B) = 65536 := by
    rw [← hw, ← wgtK_idxs, ← wgtK_perm hp, h, wgtK_app, wgtK_cons]
  rw [← hb]
  refine ⟨?_, by omega⟩
  have hkx := hk x (by rw [h]; simp)
  have dA : ∀ C : List Int, (∀ a ∈ C, a ∈ A) → twN (kyK zs x) ∣ wgtK zs C := by
    intro C
    induction C with
    | nil => intro _; exact Nat.dvd_zero _
    | cons a C ih =>
      intro hC
      rw [wgtK_cons]
      refine Nat.dvd_add ?_ (ih fun b hb => hC b (by simp [hb]))
      have ha := hC a (by simp)
      rw [h] at hs
      have hl := ((List.pairwise_append.1 hs).2.2 a ha x (by simp)).le
      have hka := hk a (by rw [h]; simp [ha])
      unfold twN
      unfold lenP at hka hkx
      exact Nat.pow_dvd_pow 2 (by omega)
  have d16 : twN (kyK zs x) ∣ 65536 := by
    unfold twN
    unfold lenP at hkx
    rw [show (65536 : Nat) = 2 ^ 16 by decide]
    exact Nat.pow_dvd_pow 2 (by omega)
  rw [← ht] at d16
  have d2 := (Nat.dvd_add_right (dA A fun a ha => ha)).1 d16
  exact (Nat.dvd_add_right (Nat.dvd_refl _)).1 d2
theorem codes_law (hw : wgt zs = 65536) : outsD zs Z = (List.range zs.length).map (codeOf zs) := by
  have hm : ∀ y ∈ Z, 0 ≤ y ∧ y < zs.length := fun y hy => idxs_mem.1 (hp.mem_iff.1 hy)
  apply List.ext_getElem?
  intro k
  by_cases hk : k < zs.length
  · have hkZ : ((k : Nat) : Int) ∈ Z := hp.mem_iff.2 (idxs_mem.2 (by omega))
    obtain ⟨A, B, h⟩ := List.append_of_mem hkZ
    have hg := outsD_get zs Z hm (srt_nodup hs) A _ B h
    have hb := behind_ahead hp hs h
    obtain ⟨⟨q, hq⟩, hle⟩ := ahead_dvd hp hs hx hw h
    rw [Int.toNat_natCast] at hg hb hq hle
    have hl : lenP (zs.getD k 0) := hx _ (mem_getD hk)
    have ht := twN_le _ hl
    have hky : kyK zs ((k : Nat) : Int) = zs.getD k 0 := by simp [kyK]
    rw [hky] at hg hq hle
    rw [List.getElem?_map, List.getElem?_range hk, Option.map_some, List.getElem?_eq_getElem (by rw [outsD_length]; exact hk)]
    rw [List.getD_eq_getElem?_getD, List.getElem?_eq_getElem (by rw [outsD_length]; exact hk), Option.getD_some] at hg
    rw [hg, hb]
    unfold codeOf
    congr 2
    have e1 : aheadN zs k / twN (zs.getD k 0) = q := by rw [hq]; exact Nat.mul_div_cancel_left _ (by omega)
    rw [e1, hq]
    have hl' := hl
    unfold lenP at hl'
    have := revN_shift (zs.getD k 0).toNat (16 - zs.getD k 0).toNat q
    rw [show (16 - zs.getD k 0).toNat + (zs.getD k 0).toNat = 16 by omega] at this
    rw [← this, Nat.mul_comm]; rfl
  · rw [List.getElem?_eq_none (by rw [outsD_length]; omega), List.getElem?_eq_none (by simp; omega)]
end
/-! ### the walk -/
theorem Lx.asymm {keys : List Int} {x y : Int} (h : Lx keys x y) : ¬ Lx keys y x := by unfold Lx at h ⊢; omega
theorem srt_unique {keys : List Int} : ∀ {A B : List Int}, A.Perm B → Srt keys A → Srt keys B → A = B
  | [], B, p, _, _ => (p.nil_eq)
  | x :: A, [], p, _, _ => (p.symm.nil_eq).symm
  | x :: A, y :: B, p, sa, sb => by
    have ha := List.pairwise_cons.1 sa
    have hb := List.pairwise_cons.1 sb
    have e : x = y := by
      rcases List.mem_cons.1 (p.mem_iff.1 (List.mem_cons_self : x ∈ x :: A)) with q | q
      · exact q
      · rcases List.mem_cons.1 (p.mem_iff.2 (List.mem_cons_self : y ∈ y :: B)) with q' | q'
        · exact q'.symm
        · exact absurd (hb.1 x q) (ha.1 y q').asymm
    subst e
    rw [srt_unique (p.cons_inv) ha.2 hb.2]
theorem sort_all {h : GH} {g gp : Nat} (hg : g < h.next) {ls : Sl} {keys : List Int} (k : Keys h gp ls keys) (hgp : gp ≠ g) (hgl : g ∉ rowsOf ls) {R : Nat} (hR : 4000000 < R) {L : Nat} (hm : L ≤ 1000000) (T : List Int) (hT : T.Pairwise (· < ·)) (hin : InK keys T) (hL : L = T.length) :
    ∃ Z, Z.Perm T ∧ Srt keys Z ∧ ∀ (β : Type) (K : GH → Option β), F_slices_SortStableFunc_int_s1 R ⟨some ⟨g, 0, none⟩, L, L⟩ (some ⟨gp, 0, none⟩) (Wr h g T) K = K (Wr h g Z) := by
  obtain ⟨Z, z1, z2, _⟩ := sort_eq (β := Unit) hg k hgp hgl hR hm T hT hin hL (fun _ => none)
  refine ⟨Z, z1, z2, fun β K => ?_⟩
  obtain ⟨Z', y1, y2, e⟩ := sort_eq (β := β) hg k hgp hgl hR hm T hT hin hL K
  rw [e, srt_unique (y1.trans z1.symm) y2 z2]
def wordD (zs : List Int) : List Int → Nat | [] => 0 | _ :: D => wgtK zs D
def stepD (zs : List Int) : List Int → Nat | [] => 0 | x :: _ => twN (kyK zs x)
def lastD (zs : List Int) : List Int → Int | [] => 0 | x :: _ => kyK zs x
theorem word_step (zs : List Int) : ∀ D, wordD zs D + stepD zs D = wgtK zs D
  | [] => rfl
  | x :: D => by rw [wgtK_cons, wordD, stepD]; omega
theorem order_loop {h : GH} {g : Nat} (hg : g < h.next) (R n : Nat) (hn : n ≤ 1000000) (p : Option Addr) {β : Type} (F1 : Sl → GH → (Int → GH → Option β) → Option β) (F2 : Sl → Option Addr → GH → (GH → Option β) → Option β) (F3 : Sl → GH → (Option Addr → GH → Option β) → Option β) (F4 : Int → Int → GH → (Int → GH → Option β) → Option β) (K0 : Option Addr → Sl → GH → Option β) : ∀ (m i : Nat), i ≤ n → n < m + i → F_sfano_Codes_l0 F1 F2 F3 F4 R m p ⟨some ⟨g, 0, none⟩, n, n⟩ (n : Nat) (i : Nat) (Wr h g (idxs i ++ List.replicate (n - i) 0)) K0 = K0 p ⟨some ⟨g, 0, none⟩, n, n⟩ (Wr h g (idxs n))
  | 0, i, h1, h2 => by omega
  | m + 1, i, h1, h2 => by
    rw [F_sfano_Codes_l0_succ]
    by_cases hi : i < n
    · rw [decT (by omega), condT]
      simp only [exA_s, within_n hi, Int.toNat_natCast]
      rw [Wr.put hg (by simp [idxs_length]; omega), i64w (by omega), show ((i : Nat) : Int) + 1 = ((i + 1 : Nat) : Int) from rfl]
      have e : (idxs i ++ List.replicate (n - i) 0).set i ((i : Nat) : Int) = idxs (i + 1) ++ List.replicate (n - (i + 1)) 0 := by
        rw [List.set_append_right _ _ (by rw [idxs_length]; exact Nat.le_refl _), idxs_length, Nat.sub_self, show n - i = (n - (i + 1)) + 1 by omega, List.replicate_succ, List.set_cons_zero, show idxs (i + 1) = idxs i ++ [((i : Nat) : Int)] by unfold idxs; rw [List.range_succ]; simp]
        simp
      rw [e]
      exact order_loop hg R n hn p F1 F2 F3 F4 K0 m (i + 1) (by omega) (by omega)
    · have : i = n := by omega
      subst this
      rw [decF (by omega), condF, Nat.sub_self]; simp
theorem shl1_32 {x : Int} (hx : lenP x) : shlI .u32 1 (IntKind.wrap .i64 (16 - x)) = ((twN x : Nat) : Int) := by
  have ht := twN_le x hx
  unfold lenP at hx
  have h1 : min (16 - x).toNat (IntKind.bits .u32) = (16 - x).toNat := by
    have e : IntKind.bits .u32 = 32 := rfl
    rw [e]; omega
  have h2 : (1 : Int) * 2 ^ (16 - x).toNat = ((twN x : Nat) : Int) := by unfold twN; rw [Int.one_mul, Int.natCast_pow]; rfl
  unfold shlI
  rw [i64w (x := 16 - x) (by omega), h1, h2, u32w (by omega)]
/-- one thing of the order -/
noncomputable def codeRnd {β : Type} (R : Nat) (g2 g28 g31 g33 g35 : Nat) : Int → Int → GH → (GH → Option β) → Option β := fun i45 z46 h47 k48 => exI .u32 (h47.cell ⟨g31, 0, none⟩) fun x50 => exI .u32 (h47.cell ⟨g33, 0, none⟩) fun x51 => gput g31 (0) [Value.int .u32 (IntKind.wrap .u32 (x50 + x51))] h47 fun h52 => exA (some ⟨g2, 0, none⟩) fun g53 o54 => exS (h52.cell ⟨g53, o54, none⟩) fun x55 => exA x55.a fun g56 o57 => within z46 x55.n (exI .i64 (h52.cell ⟨g56, o57 + z46.toNat * 1, none⟩) fun x58 => exI .i64 (h52.cell ⟨g35, 0, none⟩) fun x59 => (bif x58 != x59 then exA (some ⟨g2, 0, none⟩) fun g60 o61 => exS (h52.cell ⟨g60, o61, none⟩) fun x62 => exA x62.a fun g63 o64 => within z46 x62.n (exI .i64 (h52.cell ⟨g63, o64 + z46.toNat * 1, none⟩) fun x65 => gput g35 (0) [Value.int .i64 x65] h52 fun h66 => exI .i64 (h66.cell ⟨g35, 0, none⟩) fun x67 => (bif decide ((IntKind.wrap .i64 (16 - x67)) < 0) then none else gput g33 (0) [Value.int .u32 (shlI .u32 1 (IntKind.wrap .i64 (16 - x67)))] h66 fun h68 => exS (h68.cell ⟨g28, 0, none⟩) fun x69 => exI .u32 (h68.cell ⟨g31, 0, none⟩) fun x70 => F_bitio_Turn R x70 16 h68 fun r71 h72 => exI .i64 (h72.cell ⟨g35, 0, none⟩) fun x73 => exA x69.a fun g74 o75 => within z46 x69.n (gput g74 (o75 + z46.toNat * 2) [Value.int .u32 r71, Value.int .i64 x73] h72 fun h76 => (bif sameAt g35 (0) 1 h68 h72 then (bif sameAt g28 (0) 1 h68 h72 then k48 h76 else none) else none)))) else exS (h52.cell ⟨g28, 0, none⟩) fun x77 => exI .u32 (h52.cell ⟨g31, 0, none⟩) fun x78 => F_bitio_Turn R x78 16 h52 fun r79 h80 => exI .i64 (h80.cell ⟨g35, 0, none⟩) fun x81 => exA x77.a fun g82 o83 => within z46 x77.n (gput g82 (o83 + z46.toNat * 2) [Value.int .u32 r79, Value.int .i64 x81] h80 fun h84 => (bif sameAt g35 (0) 1 h52 h80 then (bif sameAt g28 (0) 1 h52 h80 then k48 h84 else none) else none))))
theorem prog_codes {h : GH} {a : Sl} {zs : List Int} (r : Rdi h a zs) (hm : zs.length ≤ 1000000) {R : Nat} (hR : 4000000 < R) : ∃ h' q, Keep h h' [] ∧ Row h' q 2 (codesV (wordsP zs)) ∧ (∀ k ∈ rowsOf q, h.next ≤ k) ∧ ∀ (β : Type) (K : Sl → Int → GH → Option β), F_sfano_Codes R a h K = K q (checkE zs) h' := by
  have k0 := keep_push h (.row ⟨[Value.slice a.a a.n a.c], 0, false⟩) []
  have r0 := r.keep k0 (by simp)
  have hc0 : (h.push (.row ⟨[Value.slice a.a a.n a.c], 0, false⟩)).cell ⟨h.next, 0, none⟩ = some (.slice a.a a.n a.c) := by rw [cell_of look_push_new]; rfl
  by_cases c : checkE zs = 0
  · have hr : rightP zs = true := by
      cases hr : rightP zs with
      | true => rfl
      | false => simp [checkE, hr] at c
    have hw : wgt zs = 65536 := by
      rw [checkE, if_pos hr] at c
      by_cases q : wgt zs = 65536
      · exact q
      · rw [if_neg q] at c; omega
    have hx := rightP_all hr
    have hlen := (of_decide_eq_true hr).2.1
    have hlen1 := (of_decide_eq_true hr).1
    have hn := r.ni
    obtain ⟨hA, ehA⟩ : ∃ hA, hA = h.push (.row ⟨[Value.slice a.a a.n a.c], 0, false⟩) := ⟨_, rfl⟩
    have nA : hA.next = h.next + 1 := by rw [ehA]; rfl
    rw [← ehA] at k0 r0 hc0
    obtain ⟨hB, ehB⟩ : ∃ hB, hB = hA.push (.row ⟨i64s (List.replicate zs.length 0), 1, false⟩) := ⟨_, rfl⟩
    have nB : hB.next = h.next + 2 := by rw [ehB, next_push, nA]
    have lB : hB.look (h.next + 1) = some (.row ⟨i64s (List.replicate zs.length 0), 1, false⟩) := by rw [ehB, ← nA]; exact look_push_new
    have kB : Keep h hB [] := k0.trans (by rw [ehB]; exact keep_push _ _ []) (by simp)
    have cB : hB.cell ⟨h.next, 0, none⟩ = some (.slice a.a a.n a.c) := by
      rw [cell_look] at hc0 ⊢
      rw [ehB, look_push_old (by omega)]; exact hc0
    have keys : Keys hB h.next a zs := ⟨cB, r.keep kB (by simp)⟩
    have ha := r.lt
    have hgl : h.next + 1 ∉ rowsOf a := fun hmm => by have := ha _ hmm; omega
    have hinT : InK zs (idxs zs.length) := fun x hx => idxs_mem.1 hx
    -- the state of the loop
    obtain ⟨Z, p1, s1, e1⟩ := sort_all (show h.next + 1 < hB.next by omega) keys (show h.next ≠ h.next + 1 by omega) hgl hR (L := zs.length) hm (idxs zs.length) (idxs_asc _) hinT (idxs_length _).symm
    have hZl : Z.length = zs.length := by rw [p1.length_eq, idxs_length]
    obtain ⟨hC, ehC⟩ : ∃ hC, hC = Wr hB (h.next + 1) Z := ⟨_, rfl⟩
    have nC : hC.next = h.next + 2 := by rw [ehC]; exact nB
    have lC : hC.look (h.next + 1) = some (.row ⟨i64s Z, 1, false⟩) := by rw [ehC]; exact Wr.look (by omega) Z
    have kC : Keep h hC [] := kB.trans (by rw [ehC]; exact keep_put _ _ _) (fun k hk => by simp at hk; omega)
    have cC : hC.cell ⟨h.next, 0, none⟩ = some (.slice a.a a.n a.c) := by
      rw [cell_look] at cB ⊢
      rw [ehC, Wr.other (by omega)]; exact cB
    obtain ⟨sO, esO⟩ : ∃ sO : Sl, sO = ⟨some ⟨hC.next, 0, none⟩, zs.length, zs.length⟩ := ⟨_, rfl⟩
    have hsa : sO.a = some ⟨hC.next, 0, none⟩ := by rw [esO]
    have hsn : sO.n = zs.length := by rw [esO]
    obtain ⟨sA, esA⟩ : ∃ sA : Sl, sA = ⟨some ⟨h.next + 1, 0, none⟩, zs.length, zs.length⟩ := ⟨_, rfl⟩
    let M := fun D : List Int => MC hC sO sA (outsD zs D) (wordD zs D : Nat) (stepD zs D : Nat) (lastD zs D)
    have kM : ∀ D, Keep h (M D) [] := fun D => ⟨by show h.next ≤ hC.next + 6; omega, fun k hk _ => by
      show (MC _ _ _ _ _ _ _).look k = _
      rw [MC.low (by omega)]; exact kC.2 k hk (by simp)⟩
    have rM : ∀ D, Rdi (M D) a zs := fun D => r.keep (kM D) (by simp)
    have cM : ∀ D, (M D).cell ⟨h.next, 0, none⟩ = some (.slice a.a a.n a.c) := fun D => by
      rw [cell_look] at cC ⊢
      show rowCell ((MC _ _ _ _ _ _ _).look _) 0 = _
      rw [MC.low (by omega)]; exact cC
    have round : ∀ (β : Type) A x D, Z = A ++ x :: D → ∀ K' : GH → Option β, codeRnd R h.next (hC.next + 1) (hC.next + 2) (hC.next + 3) (hC.next + 4) ((A.length : Nat) : Int) x (M D) K' = K' (M (x :: D)) := by
      intro β A x D hz K'
      have hxr : 0 ≤ x ∧ x < zs.length := idxs_mem.1 (p1.mem_iff.1 (by rw [hz]; simp))
      have hl : lenP (kyK zs x) := hx _ (mem_getD (by omega))
      have ht := twN_le _ hl
      have hsum : wgtK zs D < 65536 := by
        have := (ahead_dvd p1 s1 hx hw hz).2
        rw [behind_ahead p1 s1 hz]; omega
      have hl' := hl
      unfold lenP at hl'
      have e2 : IntKind.wrap .u32 (((wordD zs D : Nat) : Int) + ((stepD zs D : Nat) : Int)) = ((wgtK zs D : Nat) : Int) := by
        rw [show ((wordD zs D : Nat) : Int) + ((stepD zs D : Nat) : Int) = ((wordD zs D + stepD zs D : Nat) : Int) by omega, word_step, u32w (by omega)]
      have q2 : (M D).cell ⟨hC.next + 2, 0, none⟩ = some (.int .u32 (wordD zs D : Nat)) := by rw [cell_of MC.l2]; rfl
      have q3 : (M D).cell ⟨hC.next + 3, 0, none⟩ = some (.int .u32 (stepD zs D : Nat)) := by rw [cell_of MC.l3]; rfl
      have gen : ∀ (w st la : Int), MC hC sO sA (outsD zs D) w st la = MC hC sO sA (outsD zs D) w st la := fun _ _ _ => rfl
      have km : ∀ (w st la : Int), Keep h (MC hC sO sA (outsD zs D) w st la) [] := fun w st la => ⟨by show h.next ≤ hC.next + 6; omega, fun k hk _ => by rw [MC.low (by omega)]; exact kC.2 k hk (by simp)⟩
      have rm : ∀ (w st la : Int), Rdi (MC hC sO sA (outsD zs D) w st la) a zs := fun w st la => r.keep (km w st la) (by simp)
      have cm : ∀ (w st la : Int), (MC hC sO sA (outsD zs D) w st la).cell ⟨h.next, 0, none⟩ = some (.slice a.a a.n a.c) := fun w st la => by
        rw [cell_look] at cC ⊢
        rw [MC.low (by omega)]; exact cC
      have m4 : ∀ (w st la : Int), (MC hC sO sA (outsD zs D) w st la).cell ⟨hC.next + 4, 0, none⟩ = some (.int .i64 la) := fun w st la => by rw [cell_of MC.l4]; rfl
      have m2 : ∀ (w st la : Int), (MC hC sO sA (outsD zs D) w st la).cell ⟨hC.next + 2, 0, none⟩ = some (.int .u32 w) := fun w st la => by rw [cell_of MC.l2]; rfl
      have m1 : ∀ (w st la : Int), (MC hC sO sA (outsD zs D) w st la).cell ⟨hC.next + 1, 0, none⟩ = some (.slice sO.a sO.n sO.c) := fun w st la => by rw [cell_of MC.l1]; rfl
      have gx : ∀ (w st la : Int) (K : Int → Option β), (exA a.a fun g o => within x a.n (exI .i64 ((MC hC sO sA (outsD zs D) w st la).cell ⟨g, o + x.toNat * 1, none⟩) K)) = K (kyK zs x) := fun w st la K => (rm w st la).int hxr.1 hxr.2 K
      have wx : ∀ K : Option β, within x zs.length K = K := fun K => within_t hxr.1 hxr.2 K
      have tn := turn_prog (β := β) R (x := wgtK zs D) (n := 16) (by omega) (by omega)
      rw [show ((16 : Nat) : Int) = 16 from rfl] at tn
      have pt := fun (w st la : Int) K => MC.p0 (β := β) (h := hC) (sO := sO) (sA := sA) (outs := outsD zs D) (w := w) (st := st) (la := la) (z := x.toNat) (by rw [outsD_length]; omega) ((revN 16 (wgtK zs D) 0 : Nat) : Int) (kyK zs x) K
      unfold codeRnd
      simp only [q2, q3, exI_s, e2]
      show gput (hC.next + 2) 0 _ (MC _ _ _ _ _ _ _) _ = _
      rw [MC.p2]
      simp only [exA_s, cm, exS_s', gx, m4, exI_s]
      by_cases cl : kyK zs x = lastD zs D
      · rw [cl, bne_self_eq_false, condF]
        simp only [m1, m2, exS_s', exI_s, tn, m4, sameAt_1, veqO_i, veqO_s, condT, hsa, hsn, exA_s, wx]
        rw [← cl]
        have hst : stepD zs D = twN (kyK zs x) := by
          cases D with
          | nil => simp [lastD] at cl; omega
          | cons d D => rw [stepD, cl]; rfl
        refine Eq.trans (pt _ _ _ _) ?_
        rw [hst]; rfl
      · rw [bne_int, decT cl, condT]
        rw [MC.p4]
        simp only [m4, exI_s]
        rw [decF (by rw [i64w (by omega)]; omega), condF, shl1_32 hl, MC.p3]
        simp only [m1, m2, exS_s', exI_s, tn, m4, sameAt_1, veqO_i, veqO_s, condT, hsa, hsn, exA_s, wx]
        exact pt _ _ _ _
    have hback := fun (β : Type) (K : Sl → Int → GH → Option β) => gback_list (β := β) (Z := Z) (s := sA) (g := h.next + 1) (gB := hC.next + 5) (oB := 0) (Mst := M) (by rw [esA]) (by rw [esA, hZl]) (fun A D _ => by
      show (MC _ _ _ _ _ _ _).look _ = _
      rw [MC.low (by omega)]; exact lC) (fun A D _ => by show (MC _ _ _ _ _ _ _).cell _ = _; rw [cell_of MC.l5]; rfl) (round β) (fun h49 => exS (h49.cell ⟨hC.next + 1, 0, none⟩) fun x85 => K x85 0 h49) sA.n Z [] (by rw [esA]; exact hZl) (by simp)
    refine ⟨M Z, sO, kM Z, ?_, fun k hk => by rw [esO] at hk; simp [rowsOf] at hk; omega, fun β K => ?_⟩
    · rw [wordsP, if_pos c, ← codes_law p1 s1 hx hw]
      refine ⟨by rw [codesV_length, outsD_length, esO], by rw [esO]; exact Nat.le_refl _, .inr ⟨h.next + 2, 0, _, by rw [esO, nC], by show (MC _ _ _ _ _ _ _).look _ = _; rw [← nC]; exact MC.l0, by simp, by simp⟩⟩
    · unfold F_sfano_Codes; rw [F_sfano_Codes_gen, gnew_eq rfl, ← ehA, hc0, exS_s', check_eq r0 hm hR, c, bne_self_eq_false, condF, hc0, exS_s']
      rw [gmake, decT (by omega), condT, decT (by omega), condT, decT (by rw [hn]; simp only [most]; omega), condT, Int.toNat_natCast, show vcells (Value.int .i64 0) = [Value.int .i64 0] from rfl, i64s_reps, hn, gnew_eq (allCells_i64s _), ← ehB, nA]
      have e3 := order_loop (h := hB) (g := h.next + 1) (by omega) R zs.length hm (some ⟨h.next, 0, none⟩) (F_sfano_check R) (F_slices_SortStableFunc_int_s1 R) F_slices_Backward (F_bitio_Turn R) (β := β)
      have e4 := fun K0 => e3 K0 R 0 (by omega) (by omega)
      rw [show idxs 0 ++ List.replicate (zs.length - 0) 0 = List.replicate zs.length 0 from rfl, wr_self lB] at e4
      refine Eq.trans (e4 _) ?_
      refine Eq.trans (e1 _ _) ?_
      rw [← ehC, exA_s, cC, exS_s', gmake, decT (by omega), condT, decT (by omega), condT, decT (by show (((16 : Nat) : Int) + 1) * ((a.n : Nat) : Int) ≤ most; rw [hn]; simp only [most]; omega), condT, Int.toNat_natCast, show vcells (Value.agg #[Value.int .u32 0, Value.int .i64 0]) = [Value.int .u32 0, Value.int .i64 0] from rfl, codesV_reps, hn, gnew_eq (allCells_codesV _)]
      obtain ⟨h1, e1h⟩ : ∃ h1, h1 = hC.push (.row ⟨codesV (List.replicate zs.length (0, 0)), 2, false⟩) := ⟨_, rfl⟩
      have n1 : h1.next = hC.next + 1 := by rw [e1h]; rfl
      rw [← e1h, gnew_eq rfl, gput_eq look_push_new rfl (by simp), put_push_same rfl]
      obtain ⟨h2, e2h⟩ : ∃ h2, h2 = h1.push (.row ⟨[.slice sO.a sO.n sO.c], 0, false⟩) := ⟨_, rfl⟩
      have n2 : h2.next = hC.next + 2 := by rw [e2h, next_push, n1]
      have e2h' : h1.push (.row ⟨nlay [Value.slice none 0 0] 0 [Value.slice (⟨some ⟨hC.next, 0, none⟩, zs.length, zs.length⟩ : Sl).a (⟨some ⟨hC.next, 0, none⟩, zs.length, zs.length⟩ : Sl).n (⟨some ⟨hC.next, 0, none⟩, zs.length, zs.length⟩ : Sl).c], 0, false⟩) = h2 := by rw [e2h, esO]; rfl
      rw [e2h', gnew_eq rfl]
      obtain ⟨h3, e3h⟩ : ∃ h3, h3 = h2.push (.row ⟨[.int .u32 0], 0, false⟩) := ⟨_, rfl⟩
      have n3 : h3.next = hC.next + 3 := by rw [e3h, next_push, n2]
      rw [← e3h, gnew_eq rfl]
      obtain ⟨h4, e4h⟩ : ∃ h4, h4 = h3.push (.row ⟨[.int .u32 0], 0, false⟩) := ⟨_, rfl⟩
      have n4 : h4.next = hC.next + 4 := by rw [e4h, next_push, n3]
      rw [← e4h, gnew_eq rfl]
      obtain ⟨h5, e5h⟩ : ∃ h5, h5 = h4.push (.row ⟨[.int .i64 0], 0, false⟩) := ⟨_, rfl⟩
      have n5 : h5.next = hC.next + 5 := by rw [e5h, next_push, n4]
      have l5 : h5.look h4.next = some (.row ⟨[.int .i64 0], 0, false⟩) := by rw [e5h]; exact look_push_new
      have l4 : h5.look h3.next = some (.row ⟨[.int .u32 0], 0, false⟩) := by rw [e5h, look_push_old (by omega), e4h]; exact look_push_new
      have l3 : h5.look h2.next = some (.row ⟨[.int .u32 0], 0, false⟩) := by rw [e5h, look_push_old (by omega), e4h, look_push_old (by omega), e3h]; exact look_push_new
      have self : ∀ (g : Nat) (cs : List Value), h5.look g = some (.row ⟨cs, 0, false⟩) → h5.put g (some (.row ⟨cs, 0, false⟩)) = h5 := fun g cs hl => by
        have hg := (look_get hl).2
        unfold GH.put
        congr 1
        funext k
        by_cases hk : k = g
        · subst hk; rw [beq_t]; exact hg.symm
        · rw [beq_f hk]; rfl
      have u3 : ∀ K' : GH → Option β, gput h2.next 0 [Value.int .u32 0] h5 K' = K' h5 := fun K' => by
        rw [gput_eq l3 rfl (by simp), show nlay [Value.int .u32 0] 0 [Value.int .u32 0] = [Value.int .u32 0] from rfl, self _ _ l3]
      have u4 : ∀ K' : GH → Option β, gput h3.next 0 [Value.int .u32 0] h5 K' = K' h5 := fun K' => by
        rw [gput_eq l4 rfl (by simp), show nlay [Value.int .u32 0] 0 [Value.int .u32 0] = [Value.int .u32 0] from rfl, self _ _ l4]
      have u5 : ∀ K' : GH → Option β, gput h4.next 0 [Value.int .i64 0] h5 K' = K' h5 := fun K' => by
        rw [gput_eq l5 rfl (by simp), show nlay [Value.int .i64 0] 0 [Value.int .i64 0] = [Value.int .i64 0] from rfl, self _ _ l5]
      rw [← e5h, u3, u4, u5, F_slices_Backward, gnew_eq rfl]
      have e6h : h5.push (.row ⟨[Value.slice (⟨some ⟨h.next + 1, 0, none⟩, zs.length, zs.length⟩ : Sl).a (⟨some ⟨h.next + 1, 0, none⟩, zs.length, zs.length⟩ : Sl).n (⟨some ⟨h.next + 1, 0, none⟩, zs.length, zs.length⟩ : Sl).c], 0, false⟩) = M [] := by
        show _ = MC hC sO sA _ _ _ _
        rw [e5h, e4h, e3h, e2h, e1h, esA]; rfl
      rw [e6h, n5, n4, n3, n2, n1, exA_s]
      have e7 : (M []).cell ⟨hC.next + 5, 0, none⟩ = some (.slice sA.a sA.n sA.c) := by show (MC _ _ _ _ _ _ _).cell _ = _; rw [cell_of MC.l5]; rfl
      rw [e7, exS_s', ble_t (show sA.n ≤ 4611686018427387904 by rw [esA]; show zs.length ≤ _; omega), condT]
      have hb := hback β K
      refine Eq.trans hb ?_
      have e8 : (M Z).cell ⟨hC.next + 1, 0, none⟩ = some (.slice sO.a sO.n sO.c) := by show (MC _ _ _ _ _ _ _).cell _ = _; rw [cell_of MC.l1]; rfl
      show exS ((M Z).cell ⟨hC.next + 1, 0, none⟩) _ = _
      rw [e8, exS_s']
  · refine ⟨_, ⟨none, 0, 0⟩, k0, by rw [wordsP, if_neg c]; exact Row.nil, by simp [rowsOf], fun β K => ?_⟩
    unfold F_sfano_Codes; rw [F_sfano_Codes_gen, gnew_eq rfl, hc0, exS_s', check_eq r0 hm hR, bne_int, decT c, condT]
end Go.Proofs.Ytephmpbccajaaaa.Gx

