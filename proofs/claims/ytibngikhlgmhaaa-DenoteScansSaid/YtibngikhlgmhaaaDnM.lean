/- Items that are the same; DenoteScans: it answers true. No condition. -/
import Derived.Test.YtibngikhlgmhaaaDnL
import Derived.Test.YtibngikhlgmhaaaCutR
namespace Go.Proofs.Ytibngikhlgmhaaa.Gx
open Go Go.RowKit
set_option linter.unusedVariables false
set_option linter.unusedSimpArgs false
structure Small (x : ItR) : Prop where
  nm : x.c.nm.length ≤ 2000000
  xx : x.c.ex.length ≤ 2000000
  cm : x.c.cm.length ≤ 2000000
  ex : x.ex.length ≤ 2000000
  da : x.da.length ≤ 2000000
theorem head_yes {h : GH} {x w : ItR} (a9 : Rd h x.s9 x.c.nm) (a10 : Rd h x.s10 x.c.ex) (b9 : Rd h w.s9 x.c.nm) (b10 : Rd h w.s10 x.c.ex) (hs : Small x) {R : Nat} (hR : 4000000 < R) :
    ∃ h', Keep h h' [] ∧ ∀ (β : Type) (K : Bool → GH → Option β), F_ref24_SameHead R x.c.a1 x.c.a2 x.c.a3 x.c.a4 x.c.a5 x.c.a6 x.c.a7 x.c.a8 x.s9 x.s10 x.c.a1 x.c.a2 x.c.a3 x.c.a4 x.c.a5 x.c.a6 x.c.a7 x.c.a8 w.s9 w.s10 h K = K true h' := by
  have k1 := keep_push h (.row ⟨[Value.int .i64 x.c.a1, Value.int .i64 x.c.a2, Value.int .i64 x.c.a3, Value.int .i64 x.c.a4, Value.int .i64 x.c.a5, Value.int .u32 x.c.a6, Value.int .u32 x.c.a7, Value.int .u32 x.c.a8, Value.slice x.s9.a x.s9.n x.s9.c, Value.slice x.s10.a x.s10.n x.s10.c], 0, false⟩) []
  obtain ⟨h1, eh1⟩ : ∃ h1, h1 = h.push (.row ⟨[Value.int .i64 x.c.a1, Value.int .i64 x.c.a2, Value.int .i64 x.c.a3, Value.int .i64 x.c.a4, Value.int .i64 x.c.a5, Value.int .u32 x.c.a6, Value.int .u32 x.c.a7, Value.int .u32 x.c.a8, Value.slice x.s9.a x.s9.n x.s9.c, Value.slice x.s10.a x.s10.n x.s10.c], 0, false⟩) := ⟨_, rfl⟩
  have l1 : h1.look h.next = some (.row ⟨[Value.int .i64 x.c.a1, Value.int .i64 x.c.a2, Value.int .i64 x.c.a3, Value.int .i64 x.c.a4, Value.int .i64 x.c.a5, Value.int .u32 x.c.a6, Value.int .u32 x.c.a7, Value.int .u32 x.c.a8, Value.slice x.s9.a x.s9.n x.s9.c, Value.slice x.s10.a x.s10.n x.s10.c], 0, false⟩) := by rw [eh1]; exact look_push_new
  rw [← eh1] at k1
  have k2 := keep_push h1 (.row ⟨[Value.int .i64 x.c.a1, Value.int .i64 x.c.a2, Value.int .i64 x.c.a3, Value.int .i64 x.c.a4, Value.int .i64 x.c.a5, Value.int .u32 x.c.a6, Value.int .u32 x.c.a7, Value.int .u32 x.c.a8, Value.slice w.s9.a w.s9.n w.s9.c, Value.slice w.s10.a w.s10.n w.s10.c], 0, false⟩) []
  obtain ⟨h2, eh2⟩ : ∃ h2, h2 = h1.push (.row ⟨[Value.int .i64 x.c.a1, Value.int .i64 x.c.a2, Value.int .i64 x.c.a3, Value.int .i64 x.c.a4, Value.int .i64 x.c.a5, Value.int .u32 x.c.a6, Value.int .u32 x.c.a7, Value.int .u32 x.c.a8, Value.slice w.s9.a w.s9.n w.s9.c, Value.slice w.s10.a w.s10.n w.s10.c], 0, false⟩) := ⟨_, rfl⟩
  have l2 : h2.look h1.next = some (.row ⟨[Value.int .i64 x.c.a1, Value.int .i64 x.c.a2, Value.int .i64 x.c.a3, Value.int .i64 x.c.a4, Value.int .i64 x.c.a5, Value.int .u32 x.c.a6, Value.int .u32 x.c.a7, Value.int .u32 x.c.a8, Value.slice w.s9.a w.s9.n w.s9.c, Value.slice w.s10.a w.s10.n w.s10.c], 0, false⟩) := by rw [eh2]; exact look_push_new
  rw [← eh2] at k2
  have m1 := k2.look l1 (by simp)
  have k02 := k1.trans k2 (by simp)
  have c1 := fun o => cell_of m1 o
  have c2 := fun o => cell_of l2 o
  have e9 := fun β K => rsameD (β := β) (a9.keep k02 (by simp)) (b9.keep k02 (by simp)) hs.nm hR K
  have e10 := fun β K => rsameD (β := β) (a10.keep k02 (by simp)) (b10.keep k02 (by simp)) hs.xx hR K
  refine ⟨h2, k02, fun β K => ?_⟩
  unfold F_ref24_SameHead
  rw [F_ref24_SameHead_gen]
  refine (gnew_eq rfl _).trans ?_
  rw [← eh1]
  refine (gnew_eq rfl _).trans ?_
  rw [← eh2]
  simp only [c1, c2, Nat.zero_add, nth_s, nth_0, exI_s, exS_s', beq_self_eq_true, condT]
  rw [e9, decT rfl, condT]
  simp only [c1, c2, nth_s, nth_0, exS_s']
  rw [e10, decT rfl]
theorem central_yes {h : GH} {x w : ItR} (a : ItOk h x) (b9 : Rd h w.s9 x.c.nm) (b10 : Rd h w.s10 x.c.ex) (b16 : Rd h w.s16 x.c.cm) (hs : Small x) {R : Nat} (hR : 4000000 < R) :
    ∃ h', Keep h h' [] ∧ ∀ (β : Type) (K : Bool → GH → Option β), F_ref24_SameCentral R x.c.a1 x.c.a2 x.c.a3 x.c.a4 x.c.a5 x.c.a6 x.c.a7 x.c.a8 x.s9 x.s10 x.c.a11 x.c.a12 x.c.a13 x.c.a14 x.c.a15 x.s16 x.c.a1 x.c.a2 x.c.a3 x.c.a4 x.c.a5 x.c.a6 x.c.a7 x.c.a8 w.s9 w.s10 x.c.a11 x.c.a12 x.c.a13 x.c.a14 x.c.a15 w.s16 h K = K true h' := by
  have k1 := keep_push h (.row ⟨[Value.int .i64 x.c.a1, Value.int .i64 x.c.a2, Value.int .i64 x.c.a3, Value.int .i64 x.c.a4, Value.int .i64 x.c.a5, Value.int .u32 x.c.a6, Value.int .u32 x.c.a7, Value.int .u32 x.c.a8, Value.slice x.s9.a x.s9.n x.s9.c, Value.slice x.s10.a x.s10.n x.s10.c, Value.int .i64 x.c.a11, Value.int .i64 x.c.a12, Value.int .i64 x.c.a13, Value.int .u32 x.c.a14, Value.int .u32 x.c.a15, Value.slice x.s16.a x.s16.n x.s16.c], 0, false⟩) []
  obtain ⟨h1, eh1⟩ : ∃ h1, h1 = h.push (.row ⟨[Value.int .i64 x.c.a1, Value.int .i64 x.c.a2, Value.int .i64 x.c.a3, Value.int .i64 x.c.a4, Value.int .i64 x.c.a5, Value.int .u32 x.c.a6, Value.int .u32 x.c.a7, Value.int .u32 x.c.a8, Value.slice x.s9.a x.s9.n x.s9.c, Value.slice x.s10.a x.s10.n x.s10.c, Value.int .i64 x.c.a11, Value.int .i64 x.c.a12, Value.int .i64 x.c.a13, Value.int .u32 x.c.a14, Value.int .u32 x.c.a15, Value.slice x.s16.a x.s16.n x.s16.c], 0, false⟩) := ⟨_, rfl⟩
  have l1 : h1.look h.next = some (.row ⟨[Value.int .i64 x.c.a1, Value.int .i64 x.c.a2, Value.int .i64 x.c.a3, Value.int .i64 x.c.a4, Value.int .i64 x.c.a5, Value.int .u32 x.c.a6, Value.int .u32 x.c.a7, Value.int .u32 x.c.a8, Value.slice x.s9.a x.s9.n x.s9.c, Value.slice x.s10.a x.s10.n x.s10.c, Value.int .i64 x.c.a11, Value.int .i64 x.c.a12, Value.int .i64 x.c.a13, Value.int .u32 x.c.a14, Value.int .u32 x.c.a15, Value.slice x.s16.a x.s16.n x.s16.c], 0, false⟩) := by rw [eh1]; exact look_push_new
  rw [← eh1] at k1
  have k2 := keep_push h1 (.row ⟨[Value.int .i64 x.c.a1, Value.int .i64 x.c.a2, Value.int .i64 x.c.a3, Value.int .i64 x.c.a4, Value.int .i64 x.c.a5, Value.int .u32 x.c.a6, Value.int .u32 x.c.a7, Value.int .u32 x.c.a8, Value.slice w.s9.a w.s9.n w.s9.c, Value.slice w.s10.a w.s10.n w.s10.c, Value.int .i64 x.c.a11, Value.int .i64 x.c.a12, Value.int .i64 x.c.a13, Value.int .u32 x.c.a14, Value.int .u32 x.c.a15, Value.slice w.s16.a w.s16.n w.s16.c], 0, false⟩) []
  obtain ⟨h2, eh2⟩ : ∃ h2, h2 = h1.push (.row ⟨[Value.int .i64 x.c.a1, Value.int .i64 x.c.a2, Value.int .i64 x.c.a3, Value.int .i64 x.c.a4, Value.int .i64 x.c.a5, Value.int .u32 x.c.a6, Value.int .u32 x.c.a7, Value.int .u32 x.c.a8, Value.slice w.s9.a w.s9.n w.s9.c, Value.slice w.s10.a w.s10.n w.s10.c, Value.int .i64 x.c.a11, Value.int .i64 x.c.a12, Value.int .i64 x.c.a13, Value.int .u32 x.c.a14, Value.int .u32 x.c.a15, Value.slice w.s16.a w.s16.n w.s16.c], 0, false⟩) := ⟨_, rfl⟩
  have l2 : h2.look h1.next = some (.row ⟨[Value.int .i64 x.c.a1, Value.int .i64 x.c.a2, Value.int .i64 x.c.a3, Value.int .i64 x.c.a4, Value.int .i64 x.c.a5, Value.int .u32 x.c.a6, Value.int .u32 x.c.a7, Value.int .u32 x.c.a8, Value.slice w.s9.a w.s9.n w.s9.c, Value.slice w.s10.a w.s10.n w.s10.c, Value.int .i64 x.c.a11, Value.int .i64 x.c.a12, Value.int .i64 x.c.a13, Value.int .u32 x.c.a14, Value.int .u32 x.c.a15, Value.slice w.s16.a w.s16.n w.s16.c], 0, false⟩) := by rw [eh2]; exact look_push_new
  rw [← eh2] at k2
  have m1 := k2.look l1 (by simp)
  have k02 := k1.trans k2 (by simp)
  have c1 := fun o => cell_of m1 o
  have c2 := fun o => cell_of l2 o
  obtain ⟨h3, k3, e3⟩ := head_yes (h := h2) (x := x) (w := w) (a.r9.keep k02 (by simp)) (a.r10.keep k02 (by simp)) (b9.keep k02 (by simp)) (b10.keep k02 (by simp)) hs hR
  have k03 := k02.trans k3 (by simp)
  have n1 := k3.look m1 (by simp)
  have n2 := k3.look l2 (by simp)
  have d1 := fun o => cell_of n1 o
  have d2 := fun o => cell_of n2 o
  have e16 := fun β K => rsameD (β := β) (a.r16.keep k03 (by simp)) (b16.keep k03 (by simp)) hs.cm hR K
  refine ⟨h3, k03, fun β K => ?_⟩
  unfold F_ref24_SameCentral
  rw [F_ref24_SameCentral_gen]
  refine (gnew_eq rfl _).trans ?_
  rw [← eh1]
  refine (gnew_eq rfl _).trans ?_
  rw [← eh2]
  simp only [c1, c2, Nat.zero_add, Nat.reduceAdd, nth_s, nth_0, exI_s, exS_s']
  refine (e3 β _).trans ?_
  rw [condT]
  simp only [d1, d2, Nat.zero_add, nth_s, nth_0, exI_s, exS_s', beq_self_eq_true, condT]
  rw [e16, decT rfl]
theorem item_yes {h : GH} {x w : ItR} (a : ItOk h x) (b : ItOk h w) (e : x.it = w.it) (hs : Small x) {R : Nat} (hR : 4000000 < R) :
    ∃ h', Keep h h' [] ∧ ∀ (β : Type) (K : Bool → GH → Option β), F_ref26_SameItem R x.c.a1 x.c.a2 x.c.a3 x.c.a4 x.c.a5 x.c.a6 x.c.a7 x.c.a8 x.s9 x.s10 x.c.a11 x.c.a12 x.c.a13 x.c.a14 x.c.a15 x.s16 x.s17 x.s18 w.c.a1 w.c.a2 w.c.a3 w.c.a4 w.c.a5 w.c.a6 w.c.a7 w.c.a8 w.s9 w.s10 w.c.a11 w.c.a12 w.c.a13 w.c.a14 w.c.a15 w.s16 w.s17 w.s18 h K = K true h' := by
  have ec : w.c = x.c := (congrArg It.c e).symm
  have ex' : w.ex = x.ex := (congrArg It.ex e).symm
  have ed : w.da = x.da := (congrArg It.da e).symm
  have b9 := b.r9
  have b10 := b.r10
  have b16 := b.r16
  have b17 := b.r17
  have b18 := b.r18
  rw [ec] at b9 b10 b16
  rw [ex'] at b17
  rw [ed] at b18
  rw [ec]
  have k1 := keep_push h (.row ⟨[Value.int .i64 x.c.a1, Value.int .i64 x.c.a2, Value.int .i64 x.c.a3, Value.int .i64 x.c.a4, Value.int .i64 x.c.a5, Value.int .u32 x.c.a6, Value.int .u32 x.c.a7, Value.int .u32 x.c.a8, Value.slice x.s9.a x.s9.n x.s9.c, Value.slice x.s10.a x.s10.n x.s10.c, Value.int .i64 x.c.a11, Value.int .i64 x.c.a12, Value.int .i64 x.c.a13, Value.int .u32 x.c.a14, Value.int .u32 x.c.a15, Value.slice x.s16.a x.s16.n x.s16.c, Value.slice x.s17.a x.s17.n x.s17.c, Value.slice x.s18.a x.s18.n x.s18.c], 0, false⟩) []
  obtain ⟨h1, eh1⟩ : ∃ h1, h1 = h.push (.row ⟨[Value.int .i64 x.c.a1, Value.int .i64 x.c.a2, Value.int .i64 x.c.a3, Value.int .i64 x.c.a4, Value.int .i64 x.c.a5, Value.int .u32 x.c.a6, Value.int .u32 x.c.a7, Value.int .u32 x.c.a8, Value.slice x.s9.a x.s9.n x.s9.c, Value.slice x.s10.a x.s10.n x.s10.c, Value.int .i64 x.c.a11, Value.int .i64 x.c.a12, Value.int .i64 x.c.a13, Value.int .u32 x.c.a14, Value.int .u32 x.c.a15, Value.slice x.s16.a x.s16.n x.s16.c, Value.slice x.s17.a x.s17.n x.s17.c, Value.slice x.s18.a x.s18.n x.s18.c], 0, false⟩) := ⟨_, rfl⟩
  have l1 : h1.look h.next = some (.row ⟨[Value.int .i64 x.c.a1, Value.int .i64 x.c.a2, Value.int .i64 x.c.a3, Value.int .i64 x.c.a4, Value.int .i64 x.c.a5, Value.int .u32 x.c.a6, Value.int .u32 x.c.a7, Value.int .u32 x.c.a8, Value.slice x.s9.a x.s9.n x.s9.c, Value.slice x.s10.a x.s10.n x.s10.c, Value.int .i64 x.c.a11, Value.int .i64 x.c.a12, Value.int .i64 x.c.a13, Value.int .u32 x.c.a14, Value.int .u32 x.c.a15, Value.slice x.s16.a x.s16.n x.s16.c, Value.slice x.s17.a x.s17.n x.s17.c, Value.slice x.s18.a x.s18.n x.s18.c], 0, false⟩) := by rw [eh1]; exact look_push_new
  rw [← eh1] at k1
  have k2 := keep_push h1 (.row ⟨[Value.int .i64 x.c.a1, Value.int .i64 x.c.a2, Value.int .i64 x.c.a3, Value.int .i64 x.c.a4, Value.int .i64 x.c.a5, Value.int .u32 x.c.a6, Value.int .u32 x.c.a7, Value.int .u32 x.c.a8, Value.slice w.s9.a w.s9.n w.s9.c, Value.slice w.s10.a w.s10.n w.s10.c, Value.int .i64 x.c.a11, Value.int .i64 x.c.a12, Value.int .i64 x.c.a13, Value.int .u32 x.c.a14, Value.int .u32 x.c.a15, Value.slice w.s16.a w.s16.n w.s16.c, Value.slice w.s17.a w.s17.n w.s17.c, Value.slice w.s18.a w.s18.n w.s18.c], 0, false⟩) []
  obtain ⟨h2, eh2⟩ : ∃ h2, h2 = h1.push (.row ⟨[Value.int .i64 x.c.a1, Value.int .i64 x.c.a2, Value.int .i64 x.c.a3, Value.int .i64 x.c.a4, Value.int .i64 x.c.a5, Value.int .u32 x.c.a6, Value.int .u32 x.c.a7, Value.int .u32 x.c.a8, Value.slice w.s9.a w.s9.n w.s9.c, Value.slice w.s10.a w.s10.n w.s10.c, Value.int .i64 x.c.a11, Value.int .i64 x.c.a12, Value.int .i64 x.c.a13, Value.int .u32 x.c.a14, Value.int .u32 x.c.a15, Value.slice w.s16.a w.s16.n w.s16.c, Value.slice w.s17.a w.s17.n w.s17.c, Value.slice w.s18.a w.s18.n w.s18.c], 0, false⟩) := ⟨_, rfl⟩
  have l2 : h2.look h1.next = some (.row ⟨[Value.int .i64 x.c.a1, Value.int .i64 x.c.a2, Value.int .i64 x.c.a3, Value.int .i64 x.c.a4, Value.int .i64 x.c.a5, Value.int .u32 x.c.a6, Value.int .u32 x.c.a7, Value.int .u32 x.c.a8, Value.slice w.s9.a w.s9.n w.s9.c, Value.slice w.s10.a w.s10.n w.s10.c, Value.int .i64 x.c.a11, Value.int .i64 x.c.a12, Value.int .i64 x.c.a13, Value.int .u32 x.c.a14, Value.int .u32 x.c.a15, Value.slice w.s16.a w.s16.n w.s16.c, Value.slice w.s17.a w.s17.n w.s17.c, Value.slice w.s18.a w.s18.n w.s18.c], 0, false⟩) := by rw [eh2]; exact look_push_new
  rw [← eh2] at k2
  have m1 := k2.look l1 (by simp)
  have k02 := k1.trans k2 (by simp)
  have c1 := fun o => cell_of m1 o
  have c2 := fun o => cell_of l2 o
  obtain ⟨h3, k3, e3⟩ := central_yes (h := h2) (x := x) (w := w) (a.keep k02 (by simp)) (b9.keep k02 (by simp)) (b10.keep k02 (by simp)) (b16.keep k02 (by simp)) hs hR
  have k03 := k02.trans k3 (by simp)
  have n1 := k3.look m1 (by simp)
  have n2 := k3.look l2 (by simp)
  have d1 := fun o => cell_of n1 o
  have d2 := fun o => cell_of n2 o
  have e17 := fun β K => rsameD (β := β) (a.r17.keep k03 (by simp)) (b17.keep k03 (by simp)) hs.ex hR K
  have e18 := fun β K => rsameD (β := β) (a.r18.keep k03 (by simp)) (b18.keep k03 (by simp)) hs.da hR K
  refine ⟨h3, k03, fun β K => ?_⟩
  unfold F_ref26_SameItem
  rw [F_ref26_SameItem_gen]
  refine (gnew_eq rfl _).trans ?_
  rw [← eh1]
  refine (gnew_eq rfl _).trans ?_
  rw [← eh2]
  simp only [c1, c2, Nat.zero_add, Nat.reduceAdd, nth_s, nth_0, exI_s, exS_s']
  refine (e3 β _).trans ?_
  rw [condT]
  simp only [d1, d2, Nat.zero_add, nth_s, nth_0, exI_s, exS_s']
  rw [e17, decT rfl, condT]
  simp only [d1, d2, Nat.zero_add, nth_s, nth_0, exI_s, exS_s']
  rw [e18, decT rfl]
theorem cutL_len (bs : List Int) (p n : Nat) : (cutL bs p n).length ≤ bs.length := by unfold cutL; simp; omega
theorem rdCens_lens (bs : List Int) : ∀ (k p : Nat), (rdCens bs k p).2.1.length ≤ k ∧ ∀ c ∈ (rdCens bs k p).2.1, c.nm.length ≤ bs.length ∧ c.ex.length ≤ bs.length ∧ c.cm.length ≤ bs.length
  | 0, p => by simp [rdCens]
  | k + 1, p => by
    unfold rdCens
    split
    · simp
    · have ih := rdCens_lens bs k (p + cenLen bs p)
      refine ⟨by have := ih.1; simp only [List.length_cons]; omega, fun c hc => ?_⟩
      rcases List.mem_cons.1 hc with rfl | hc
      · exact ⟨cutL_len _ _ _, cutL_len _ _ _, cutL_len _ _ _⟩
      · exact ih.2 c hc
theorem rdLocs_len (bs : List Int) : ∀ (l : List Cn) (p : Nat), (rdLocs bs l p).2.1.length ≤ l.length ∧ ∀ it ∈ (rdLocs bs l p).2.1, it.c ∈ l ∧ it.ex.length ≤ bs.length ∧ it.da.length ≤ bs.length
  | [], p => by simp [rdLocs]
  | c :: l, p => by
    unfold rdLocs
    split
    · simp
    · have ih := rdLocs_len bs l (p + oneLen bs p)
      refine ⟨by have := ih.1; simp only [List.length_cons]; omega, fun it hi => ?_⟩
      rcases List.mem_cons.1 hi with rfl | hi
      · exact ⟨List.mem_cons_self, cutL_len _ _ _, cutL_len _ _ _⟩
      · exact ⟨List.mem_cons_of_mem _ (ih.2 it hi).1, (ih.2 it hi).2⟩
theorem censP_lens (bs : List Int) (k : Nat) : (censP bs k).2.length ≤ k ∧ ∀ c ∈ (censP bs k).2, c.nm.length ≤ bs.length ∧ c.ex.length ≤ bs.length ∧ c.cm.length ≤ bs.length := by
  unfold censP
  split
  · simp
  split
  · simp
  split
  · simp
  · exact rdCens_lens bs k 0
theorem scanP_len {bs : List Int} (hb : B8 bs) : (scanP bs).cm.length ≤ bs.length ∧ (scanP bs).its.length ≤ 65535 ∧ ∀ it ∈ (scanP bs).its, it.c.nm.length ≤ bs.length ∧ it.c.ex.length ≤ bs.length ∧ it.c.cm.length ≤ bs.length ∧ it.ex.length ≤ bs.length ∧ it.da.length ≤ bs.length := by
  unfold scanP
  split
  · simp
  split
  · simp
  split
  · simp
  split
  · simp
  have l1 := rdLocs_len (bs.take (scX bs).b6.toNat) (scCs bs).2 0
  have l2 := censP_lens ((bs.take (findE bs).toNat).drop (scX bs).b6.toNat) (scX bs).b4.toNat
  have n1 : (bs.take (scX bs).b6.toNat).length ≤ bs.length := by simp; omega
  have n2 : ((bs.take (findE bs).toNat).drop (scX bs).b6.toNat).length ≤ bs.length := by simp; omega
  have hb4 : (scX bs).b4.toNat ≤ 65535 := by
    have := (fld_bd hb ((findE bs).toNat + 10)).1
    show (fld bs ((findE bs).toNat + 10) 2).toNat ≤ _
    omega
  refine ⟨cutL_len _ _ _, Nat.le_trans (Nat.le_trans l1.1 l2.1) hb4, fun it hi => ?_⟩
  have hi := l1.2 it hi
  have hc := l2.2 _ hi.1
  exact ⟨Nat.le_trans hc.1 n2, Nat.le_trans hc.2.1 n2, Nat.le_trans hc.2.2 n2, Nat.le_trans hi.2.1 n1, Nat.le_trans hi.2.2 n1⟩
theorem plain_eq26 (h : GH) (x : ItR) (R : Nat) : ∃ h', Keep h h' [] ∧ ∀ (β : Type) (K : Int → Int → Int → Int → Int → Int → Int → Int → Sl → Sl → Int → Int → Int → Int → Int → Sl → Sl → Sl → GH → Option β), F_law26_plain R x.c.a1 x.c.a2 x.c.a3 x.c.a4 x.c.a5 x.c.a6 x.c.a7 x.c.a8 x.s9 x.s10 x.c.a11 x.c.a12 x.c.a13 x.c.a14 x.c.a15 x.s16 x.s17 x.s18 h K = K x.c.a1 x.c.a2 x.c.a3 x.c.a4 x.c.a5 x.c.a6 x.c.a7 x.c.a8 x.s9 x.s10 x.c.a11 x.c.a12 x.c.a13 x.c.a14 x.c.a15 x.s16 x.s17 x.s18 h' := by
  have k1 := keep_push h (.row ⟨[Value.int .i64 x.c.a1, Value.int .i64 x.c.a2, Value.int .i64 x.c.a3, Value.int .i64 x.c.a4, Value.int .i64 x.c.a5, Value.int .u32 x.c.a6, Value.int .u32 x.c.a7, Value.int .u32 x.c.a8, Value.slice x.s9.a x.s9.n x.s9.c, Value.slice x.s10.a x.s10.n x.s10.c, Value.int .i64 x.c.a11, Value.int .i64 x.c.a12, Value.int .i64 x.c.a13, Value.int .u32 x.c.a14, Value.int .u32 x.c.a15, Value.slice x.s16.a x.s16.n x.s16.c, Value.slice x.s17.a x.s17.n x.s17.c, Value.slice x.s18.a x.s18.n x.s18.c], 0, false⟩) []
  obtain ⟨h1, eh1⟩ : ∃ h1, h1 = h.push (.row ⟨[Value.int .i64 x.c.a1, Value.int .i64 x.c.a2, Value.int .i64 x.c.a3, Value.int .i64 x.c.a4, Value.int .i64 x.c.a5, Value.int .u32 x.c.a6, Value.int .u32 x.c.a7, Value.int .u32 x.c.a8, Value.slice x.s9.a x.s9.n x.s9.c, Value.slice x.s10.a x.s10.n x.s10.c, Value.int .i64 x.c.a11, Value.int .i64 x.c.a12, Value.int .i64 x.c.a13, Value.int .u32 x.c.a14, Value.int .u32 x.c.a15, Value.slice x.s16.a x.s16.n x.s16.c, Value.slice x.s17.a x.s17.n x.s17.c, Value.slice x.s18.a x.s18.n x.s18.c], 0, false⟩) := ⟨_, rfl⟩
  have l1 : h1.look h.next = some (.row ⟨[Value.int .i64 x.c.a1, Value.int .i64 x.c.a2, Value.int .i64 x.c.a3, Value.int .i64 x.c.a4, Value.int .i64 x.c.a5, Value.int .u32 x.c.a6, Value.int .u32 x.c.a7, Value.int .u32 x.c.a8, Value.slice x.s9.a x.s9.n x.s9.c, Value.slice x.s10.a x.s10.n x.s10.c, Value.int .i64 x.c.a11, Value.int .i64 x.c.a12, Value.int .i64 x.c.a13, Value.int .u32 x.c.a14, Value.int .u32 x.c.a15, Value.slice x.s16.a x.s16.n x.s16.c, Value.slice x.s17.a x.s17.n x.s17.c, Value.slice x.s18.a x.s18.n x.s18.c], 0, false⟩) := by rw [eh1]; exact look_push_new
  rw [← eh1] at k1
  have c1 := fun o => cell_of l1 o
  obtain ⟨g2, h2, k2, n2, l2, e2⟩ := tmp_row h1 [Value.int .i64 0, Value.int .i64 0, Value.int .i64 0, Value.int .i64 0, Value.int .i64 0, Value.int .u32 0, Value.int .u32 0, Value.int .u32 0, Value.slice none 0 0, Value.slice none 0 0, Value.int .i64 0, Value.int .i64 0, Value.int .i64 0, Value.int .u32 0, Value.int .u32 0, Value.slice none 0 0, Value.slice none 0 0, Value.slice none 0 0] [Value.int .i64 x.c.a1, Value.int .i64 x.c.a2, Value.int .i64 x.c.a3, Value.int .i64 x.c.a4, Value.int .i64 x.c.a5, Value.int .u32 x.c.a6, Value.int .u32 x.c.a7, Value.int .u32 x.c.a8, Value.slice x.s9.a x.s9.n x.s9.c, Value.slice x.s10.a x.s10.n x.s10.c, Value.int .i64 x.c.a11, Value.int .i64 x.c.a12, Value.int .i64 x.c.a13, Value.int .u32 x.c.a14, Value.int .u32 x.c.a15, Value.slice x.s16.a x.s16.n x.s16.c, Value.slice x.s17.a x.s17.n x.s17.c, Value.slice x.s18.a x.s18.n x.s18.c] rfl rfl rfl
  have k22 := keep_push h1 (.row ⟨[Value.int .i64 0, Value.int .i64 0, Value.int .i64 0, Value.int .i64 0, Value.int .i64 0, Value.int .u32 0, Value.int .u32 0, Value.int .u32 0, Value.slice none 0 0, Value.slice none 0 0, Value.int .i64 0, Value.int .i64 0, Value.int .i64 0, Value.int .u32 0, Value.int .u32 0, Value.slice none 0 0, Value.slice none 0 0, Value.slice none 0 0], 0, false⟩) []
  obtain ⟨h2', eh2⟩ : ∃ h2', h2' = h1.push (.row ⟨[Value.int .i64 0, Value.int .i64 0, Value.int .i64 0, Value.int .i64 0, Value.int .i64 0, Value.int .u32 0, Value.int .u32 0, Value.int .u32 0, Value.slice none 0 0, Value.slice none 0 0, Value.int .i64 0, Value.int .i64 0, Value.int .i64 0, Value.int .u32 0, Value.int .u32 0, Value.slice none 0 0, Value.slice none 0 0, Value.slice none 0 0], 0, false⟩) := ⟨_, rfl⟩
  have l22 : h2'.look h1.next = some (.row ⟨[Value.int .i64 0, Value.int .i64 0, Value.int .i64 0, Value.int .i64 0, Value.int .i64 0, Value.int .u32 0, Value.int .u32 0, Value.int .u32 0, Value.slice none 0 0, Value.slice none 0 0, Value.int .i64 0, Value.int .i64 0, Value.int .i64 0, Value.int .u32 0, Value.int .u32 0, Value.slice none 0 0, Value.slice none 0 0, Value.slice none 0 0], 0, false⟩) := by rw [eh2]; exact look_push_new
  rw [← eh2] at k22
  have m1 := k22.look l1 (by simp)
  have d1 := fun o => cell_of m1 o
  have k3 := keep_put h2' h1.next (some (.row ⟨[Value.int .i64 x.c.a1, Value.int .i64 x.c.a2, Value.int .i64 x.c.a3, Value.int .i64 x.c.a4, Value.int .i64 x.c.a5, Value.int .u32 x.c.a6, Value.int .u32 x.c.a7, Value.int .u32 x.c.a8, Value.slice x.s9.a x.s9.n x.s9.c, Value.slice x.s10.a x.s10.n x.s10.c, Value.int .i64 x.c.a11, Value.int .i64 x.c.a12, Value.int .i64 x.c.a13, Value.int .u32 x.c.a14, Value.int .u32 x.c.a15, Value.slice x.s16.a x.s16.n x.s16.c, Value.slice x.s17.a x.s17.n x.s17.c, Value.slice x.s18.a x.s18.n x.s18.c], 0, false⟩))
  have l3 : (h2'.put h1.next (some (.row ⟨[Value.int .i64 x.c.a1, Value.int .i64 x.c.a2, Value.int .i64 x.c.a3, Value.int .i64 x.c.a4, Value.int .i64 x.c.a5, Value.int .u32 x.c.a6, Value.int .u32 x.c.a7, Value.int .u32 x.c.a8, Value.slice x.s9.a x.s9.n x.s9.c, Value.slice x.s10.a x.s10.n x.s10.c, Value.int .i64 x.c.a11, Value.int .i64 x.c.a12, Value.int .i64 x.c.a13, Value.int .u32 x.c.a14, Value.int .u32 x.c.a15, Value.slice x.s16.a x.s16.n x.s16.c, Value.slice x.s17.a x.s17.n x.s17.c, Value.slice x.s18.a x.s18.n x.s18.c], 0, false⟩))).look h1.next = some (.row ⟨[Value.int .i64 x.c.a1, Value.int .i64 x.c.a2, Value.int .i64 x.c.a3, Value.int .i64 x.c.a4, Value.int .i64 x.c.a5, Value.int .u32 x.c.a6, Value.int .u32 x.c.a7, Value.int .u32 x.c.a8, Value.slice x.s9.a x.s9.n x.s9.c, Value.slice x.s10.a x.s10.n x.s10.c, Value.int .i64 x.c.a11, Value.int .i64 x.c.a12, Value.int .i64 x.c.a13, Value.int .u32 x.c.a14, Value.int .u32 x.c.a15, Value.slice x.s16.a x.s16.n x.s16.c, Value.slice x.s17.a x.s17.n x.s17.c, Value.slice x.s18.a x.s18.n x.s18.c], 0, false⟩) := look_put_same (look_lt l22)
  have d3 := fun o => cell_of l3 o
  have b1 := k1.1
  refine ⟨_, (k1.trans k22 (by simp)).trans k3 (fun z hz => .inr (by simp at hz; omega)), fun β K => ?_⟩
  unfold F_law26_plain
  rw [F_law26_plain_gen]
  refine (gnew_eq rfl _).trans ?_
  rw [← eh1]
  refine (gnew_eq rfl _).trans ?_
  rw [← eh2]
  simp only [d1, Nat.zero_add, Nat.reduceAdd, nth_s, nth_0, exI_s, exS_s']
  refine (gput_eq l22 rfl (by simp) _).trans ?_
  rw [show nlay [Value.int .i64 0, Value.int .i64 0, Value.int .i64 0, Value.int .i64 0, Value.int .i64 0, Value.int .u32 0, Value.int .u32 0, Value.int .u32 0, Value.slice none 0 0, Value.slice none 0 0, Value.int .i64 0, Value.int .i64 0, Value.int .i64 0, Value.int .u32 0, Value.int .u32 0, Value.slice none 0 0, Value.slice none 0 0, Value.slice none 0 0] 0 [Value.int .i64 x.c.a1, Value.int .i64 x.c.a2, Value.int .i64 x.c.a3, Value.int .i64 x.c.a4, Value.int .i64 x.c.a5, Value.int .u32 x.c.a6, Value.int .u32 x.c.a7, Value.int .u32 x.c.a8, Value.slice x.s9.a x.s9.n x.s9.c, Value.slice x.s10.a x.s10.n x.s10.c, Value.int .i64 x.c.a11, Value.int .i64 x.c.a12, Value.int .i64 x.c.a13, Value.int .u32 x.c.a14, Value.int .u32 x.c.a15, Value.slice x.s16.a x.s16.n x.s16.c, Value.slice x.s17.a x.s17.n x.s17.c, Value.slice x.s18.a x.s18.n x.s18.c] = [Value.int .i64 x.c.a1, Value.int .i64 x.c.a2, Value.int .i64 x.c.a3, Value.int .i64 x.c.a4, Value.int .i64 x.c.a5, Value.int .u32 x.c.a6, Value.int .u32 x.c.a7, Value.int .u32 x.c.a8, Value.slice x.s9.a x.s9.n x.s9.c, Value.slice x.s10.a x.s10.n x.s10.c, Value.int .i64 x.c.a11, Value.int .i64 x.c.a12, Value.int .i64 x.c.a13, Value.int .u32 x.c.a14, Value.int .u32 x.c.a15, Value.slice x.s16.a x.s16.n x.s16.c, Value.slice x.s17.a x.s17.n x.s17.c, Value.slice x.s18.a x.s18.n x.s18.c] from rfl]
  simp only [d3, Nat.zero_add, Nat.reduceAdd, nth_s, nth_0, exI_s, exS_s']
theorem own_loop {own y1 y3 c d : Sl} (R : Nat) : ∀ (k i n : Nat) (h : GH) (zs : List Int), i + k = zs.length → zs.length ≤ 1000000 → k < n → Bv h own zs →
    ∃ h', Keep h h' (rowsOf own) ∧ ∀ (β : Type) (K0 : Sl → Sl → Sl → Sl → GH → Option β) (G0 : Sl → Int → GH → (Sl → GH → Option β) → Option β) (G1 : Sl → GH → (Sl → GH → Option β) → Option β) (G2 : Sl → GH → (Sl → Sl → Int → GH → Option β) → Option β) (G3 : Sl → GH → (Sl → Sl → Int → GH → Option β) → Option β) (G4 : Sl → Sl → GH → (Bool → GH → Option β) → Option β) (G5 : Int → Int → Int → Int → Int → Int → Int → Int → Sl → Sl → Int → Int → Int → Int → Int → Sl → Sl → Sl → GH → (Int → Int → Int → Int → Int → Int → Int → Int → Sl → Sl → Int → Int → Int → Int → Int → Sl → Sl → Sl → GH → Option β) → Option β) (G6 : Int → Int → Int → Int → Int → Int → Int → Int → Sl → Sl → Int → Int → Int → Int → Int → Sl → Sl → Sl → Int → Int → Int → Int → Int → Int → Int → Int → Sl → Sl → Int → Int → Int → Int → Int → Sl → Sl → Sl → GH → (Bool → GH → Option β) → Option β) (G7 : GH → (Bool → GH → Option β) → Option β), F_law26_DenoteScans_l0 G0 G1 G2 G3 G4 G5 G6 G7 R n own y1 c y3 d (i : Nat) h K0 = K0 y1 c y3 d h'
  | 0, i, n, h, zs, hi, hm, hn, v => by
    obtain ⟨n, rfl⟩ : ∃ n', n = n' + 1 := ⟨n - 1, by omega⟩
    have hvn := v.n
    refine ⟨h, .refl _ _, fun β K0 G0 G1 G2 G3 G4 G5 G6 G7 => ?_⟩
    rw [F_law26_DenoteScans_l0_succ, decF (by omega), condF]
  | k + 1, i, n, h, zs, hi, hm, hn, v => by
    obtain ⟨n, rfl⟩ : ∃ n', n = n' + 1 := ⟨n - 1, by omega⟩
    have hvn := v.n
    obtain ⟨gy, hya, hyl⟩ : ∃ gy, own.a = some ⟨gy, 0, none⟩ ∧ h.look gy = some (.row ⟨u8s zs, 1, false⟩) := by
      rcases v.at_ with ⟨q1, q2⟩ | ⟨r, q1, q2⟩
      · omega
      · exact ⟨r, q1, q2⟩
    have hyr : rowsOf own = [gy] := by simp [rowsOf, hya]
    have hlen : (u8s zs).length = zs.length := u8s_length zs
    have k1 := keep_put h gy (some (.row ⟨u8s (zs.set i (IntKind.wrap .u8 (zs.getD i 0 + 1))), 1, false⟩))
    obtain ⟨h2, k2, e2⟩ := own_loop (y1 := y1) (y3 := y3) (c := c) (d := d) R k (i + 1) n (h.put gy (some (.row ⟨u8s (zs.set i (IntKind.wrap .u8 (zs.getD i 0 + 1))), 1, false⟩))) (zs.set i (IntKind.wrap .u8 (zs.getD i 0 + 1))) (by simp; omega) (by simpa using hm) (by omega) ⟨by rw [u8s_length, List.length_set, hvn, Nat.mul_one], v.c, allCells_u8s _, .inr ⟨gy, hya, look_put_same (look_lt hyl)⟩⟩
    refine ⟨h2, (k1.mono (o1 := rowsOf own) (by simp [hyr])).trans k2 (fun z hz => .inl hz), fun β K0 G0 G1 G2 G3 G4 G5 G6 G7 => ?_⟩
    have hby := v.row.byte (β := β) (i := ((i : Nat) : Int)) (by omega) (by omega)
    rw [F_law26_DenoteScans_l0_succ, decT (by omega), condT]
    refine (hby _).trans ?_
    rw [hya, exA_s, within_t (by omega) (by omega), Int.toNat_natCast, Nat.zero_add, Nat.mul_one]
    rw [gput_eq hyl rfl (by rw [hlen]; simp; omega), nlay_set _ _ (by rw [hlen]; omega), show (u8s zs).set i (Value.int .u8 (IntKind.wrap .u8 (zs.getD i 0 + 1))) = u8s (zs.set i (IntKind.wrap .u8 (zs.getD i 0 + 1))) by simp [u8s, List.map_set], i64w (by omega), show ((i : Nat) : Int) + 1 = ((i + 1 : Nat) : Int) by omega]
    exact e2 β K0 G0 G1 G2 G3 G4 G5 G6 G7
theorem its_loop {y1 y3 c d : Sl} {lo1 lo3 : Nat} {l1 l3 : List ItR} (he : l1.map ItR.it = l3.map ItR.it) (hs : ∀ x ∈ l1, Small x) (hl : l1.length ≤ 1000000) {R : Nat} (hR : 4000000 < R) : ∀ (k i n : Nat) (h : GH), i + k = l1.length → k < n → Its h y1 lo1 l1 → Its h y3 lo3 l3 →
    ∃ h', Keep h h' [] ∧ ∀ (β : Type) (K2 : Sl → Sl → GH → Option β) (Kr : Bool → GH → Option β) (G0 : Sl → Int → GH → (Sl → GH → Option β) → Option β) (G1 : Sl → GH → (Sl → GH → Option β) → Option β) (G2 : Sl → GH → (Sl → Sl → Int → GH → Option β) → Option β) (G3 : Sl → GH → (Sl → Sl → Int → GH → Option β) → Option β) (G4 : Sl → Sl → GH → (Bool → GH → Option β) → Option β) (G5 : Int → Int → Int → Int → Int → Int → Int → Int → Sl → Sl → Int → Int → Int → Int → Int → Sl → Sl → Sl → GH → (Int → Int → Int → Int → Int → Int → Int → Int → Sl → Sl → Int → Int → Int → Int → Int → Sl → Sl → Sl → GH → Option β) → Option β) (G6 : Int → Int → Int → Int → Int → Int → Int → Int → Sl → Sl → Int → Int → Int → Int → Int → Sl → Sl → Sl → Int → Int → Int → Int → Int → Int → Int → Int → Sl → Sl → Int → Int → Int → Int → Int → Sl → Sl → Sl → GH → (Bool → GH → Option β) → Option β) (G7 : GH → (Bool → GH → Option β) → Option β), F_law26_DenoteScans_l1 G0 G1 G2 G3 G4 (F_law26_plain R) (F_ref26_SameItem R) G7 R n y1 c y3 d (i : Nat) h K2 Kr = K2 c d h'
  | 0, i, n, h, hi, hn, i1, i3 => by
    obtain ⟨n, rfl⟩ : ∃ n', n = n' + 1 := ⟨n - 1, by omega⟩
    have hyn := i1.n
    refine ⟨h, .refl _ _, fun β K2 Kr G0 G1 G2 G3 G4 G5 G6 G7 => ?_⟩
    rw [F_law26_DenoteScans_l1_succ, decF (by omega), condF]
  | k + 1, i, n, h, hi, hn, i1, i3 => by
    obtain ⟨n, rfl⟩ : ∃ n', n = n' + 1 := ⟨n - 1, by omega⟩
    have hyn := i1.n
    have hll : l1.length = l3.length := by have := congrArg List.length he; simpa using this
    have hi1 : i < l1.length := by omega
    have hi3 : i < l3.length := by omega
    have hit : l1[i].it = l3[i].it := by
      have := congrArg (fun l => l[i]?) he
      simp only [List.getElem?_map, List.getElem?_eq_getElem hi1, List.getElem?_eq_getElem hi3, Option.map_some, Option.some.injEq] at this
      exact this
    obtain ⟨h1, k1, e1⟩ := plain_eq26 h l1[i] R
    have j3 := i3.keep k1 (by simp)
    have j1 := i1.keep k1 (by simp)
    obtain ⟨h2, k2, e2⟩ := item_yes (j1.ok _ (List.getElem_mem hi1)) (j3.ok _ (List.getElem_mem hi3)) hit (hs _ (List.getElem_mem hi1)) hR
    obtain ⟨h3, k3, e3⟩ := its_loop (c := c) (d := d) he hs hl hR k (i + 1) n h2 (by omega) (by omega) (j1.keep k2 (by simp)) (j3.keep k2 (by simp))
    -- the same cells before and behind
    obtain ⟨gy, hya, hyl⟩ : ∃ gy, y3.a = some ⟨gy, 0, none⟩ ∧ h.look gy = some (.row ⟨itCells l3, 18, false⟩) := by
      rcases i3.vec.at_ with ⟨q1, q2⟩ | ⟨r, q1, q2⟩
      · have := i3.n; omega
      · exact ⟨r, q1, q2⟩
    have hyl1 := k1.look hyl (by simp)
    have sA : sameAt gy (0 + ((i : Nat) : Int).toNat * 18) 18 h h1 = true := by
      have hq : ∀ j, j < 18 → h.cell ⟨gy, i * 18 + j, none⟩ = l3[i].cells[j]? := fun j hj => by rw [cell_of hyl, nth_eq, itCells_get l3 i hi3 j hj]
      have hq1 : ∀ j, j < 18 → h1.cell ⟨gy, i * 18 + j, none⟩ = l3[i].cells[j]? := fun j hj => by rw [cell_of hyl1, nth_eq, itCells_get l3 i hi3 j hj]
      have q0 := hq 0 (by omega)
      have r0 := hq1 0 (by omega)
      rw [Nat.add_zero] at q0 r0
      rw [Int.toNat_natCast, Nat.zero_add]
      simp only [sameAt, Nat.add_assoc, Nat.reduceAdd, q0, r0, hq 1 (by omega), hq1 1 (by omega), hq 2 (by omega), hq1 2 (by omega), hq 3 (by omega), hq1 3 (by omega), hq 4 (by omega), hq1 4 (by omega), hq 5 (by omega), hq1 5 (by omega), hq 6 (by omega), hq1 6 (by omega), hq 7 (by omega), hq1 7 (by omega), hq 8 (by omega), hq1 8 (by omega), hq 9 (by omega), hq1 9 (by omega), hq 10 (by omega), hq1 10 (by omega), hq 11 (by omega), hq1 11 (by omega), hq 12 (by omega), hq1 12 (by omega), hq 13 (by omega), hq1 13 (by omega), hq 14 (by omega), hq1 14 (by omega), hq 15 (by omega), hq1 15 (by omega), hq 16 (by omega), hq1 16 (by omega), hq 17 (by omega), hq1 17 (by omega), ItR.cells, List.getElem?_cons_succ, List.getElem?_cons_zero, veqO_i, veqO_s, Bool.and_true]
    refine ⟨h3, (k1.trans k2 (by simp)).trans k3 (by simp), fun β K2 Kr G0 G1 G2 G3 G4 G5 G6 G7 => ?_⟩
    rw [F_law26_DenoteScans_l1_succ, decT (by omega), condT]
    refine (i1.at_ hi1 _).trans ?_
    refine (e1 β _).trans ?_
    rw [hya, exA_s]
    have at3 := fun K => j3.at_ (β := β) hi3 K
    rw [hya] at at3
    simp only [exA_s] at at3
    refine (at3 _).trans ?_
    refine (e2 β _).trans ?_
    rw [sA, condT, notT, condF, i64w (by omega), show ((i : Nat) : Int) + 1 = ((i + 1 : Nat) : Int) by omega]
    exact e3 β K2 Kr G0 G1 G2 G3 G4 G5 G6 G7
theorem lives26' {β : Type} (h : GH) (K : Bool → GH → Option β) : F_law26_lives h K = K true h := rfl
theorem scans_true {h : GH} {b0 : Sl} {zs : List Int} (r : Rd h b0 zs) (hb : B8 zs) {R : Nat} (hR : 4000000 < R) : ∃ h', ∀ (β : Type) (K : Bool → GH → Option β), F_law26_DenoteScans R b0 h K = K true h' := by
  obtain ⟨q, rq, nq, e1⟩ := ref_cut r R 900
  obtain ⟨bs, hbs⟩ : ∃ bs, bs = zs.take 900 := ⟨_, rfl⟩
  rw [← hbs] at rq
  have hb2 : B8 bs := fun x hx => hb x (by rw [hbs] at hx; exact List.mem_of_mem_take hx)
  have hm : bs.length ≤ 900 := by rw [hbs]; simp; omega
  rw [show ((900 : Nat) : Int) = 900 from rfl] at e1
  obtain ⟨h1, own, e2, v1, k1, n1⟩ := copy_rd rq (by omega) R
  have olt := v1.lt
  obtain ⟨h2, k2, ok2, no2⟩ := scan_prog v1.row hb2 (by omega) hR
  have rq2 := (rq.keep k1 (by simp)).keep k2 (by simp)
  obtain ⟨h3, k3, ok3, no3⟩ := scan_ref rq2 hb2 (by omega) hR
  have v3 := (v1.keep k2 (by simp)).keep k3 (by simp)
  have rq3 := rq2.keep k3 (by simp)
  have eo := fun β K => rsameD (β := β) v3.row rq3 (by omega) hR K
  by_cases c : (scanP bs).err = 0
  · obtain ⟨y, cm, l, i2, m2, rc2, nc2, e3⟩ := ok2 c
    obtain ⟨y', cm', l', i3, m3, rc3, nc3, e4⟩ := ok3 c
    have hlen := scanP_len hb2
    have i2' := i2.keep k3 (by simp)
    have ecd := fun β K => rsameD (β := β) (rc2.keep k3 (by simp)) rc3 (by have := hlen.1; omega) hR K
    have hll : l.length = l'.length := by have := congrArg List.length (m2.trans m3.symm); simpa using this
    obtain ⟨h4, k4, e5⟩ := own_loop (own := own) (y1 := y) (y3 := y') (c := cm) (d := cm') R bs.length 0 R h3 bs (by omega) (by omega) (by omega) v3
    have i24 := i2'.keep k4 (fun z hz => olt z hz)
    have b2 := k2.1
    have i34 := i3.keep k4 (fun z hz => by have := olt z hz; omega)
    have hsm : ∀ x ∈ l, Small x := fun x hx => by
      have := hlen.2.2 x.it (by rw [← m2]; exact List.mem_map_of_mem hx)
      exact ⟨Nat.le_trans this.1 (by omega), Nat.le_trans this.2.1 (by omega), Nat.le_trans this.2.2.1 (by omega), Nat.le_trans this.2.2.2.1 (by omega), Nat.le_trans this.2.2.2.2 (by omega)⟩
    have hl0 : l.length ≤ 1000000 := by have := congrArg List.length m2; rw [List.length_map] at this; have := hlen.2.1; omega
    obtain ⟨h5, k5, e6⟩ := its_loop (c := cm) (d := cm') (m2.trans m3.symm) hsm hl0 hR l.length 0 R h4 (by omega) (by omega) i24 i34
    have rc5 := (((rc2.keep k3 (by simp)).keep k4 (fun z hz hm => by have := olt z hm; have := nc2 z hz; omega)).keep k5 (by simp))
    have rc5' := (rc3.keep k4 (fun z hz hm => by have := olt z hm; have := nc3 z hz; omega)).keep k5 (by simp)
    have ecd5 := fun β K => rsameD (β := β) rc5 rc5' (by have := hlen.1; omega) hR K
    refine ⟨h5, fun β K => ?_⟩
    have hn1 := i2.n
    have hn2 := i3.n
    unfold F_law26_DenoteScans
    rw [F_law26_DenoteScans_gen, e1, e2, e3, e4, hn1, hn2, hll, bne_self_eq_false, condF, ecd, decT rfl, notT, condF, bne_self_eq_false, condF, eo, decT rfl, notT, condF]
    refine (e5 β _ _ _ _ _ _ _ _ _).trans ?_
    refine (e6 β _ _ _ _ _ _ _ (F_law26_plain R) (F_ref26_SameItem R) _).trans ?_
    rw [ecd5, decT rfl, condT, lives26']
  · obtain ⟨_, _, e3⟩ := no2 c
    have e4 := no3 c
    obtain ⟨h4, k4, e5⟩ := own_loop (own := own) (y1 := ⟨none, 0, 0⟩) (y3 := ⟨none, 0, 0⟩) (c := ⟨none, 0, 0⟩) (d := ⟨none, 0, 0⟩) R bs.length 0 R h3 bs (by omega) (by omega) (by omega) v3
    obtain ⟨h5, k5, e6⟩ := its_loop (y1 := ⟨none, 0, 0⟩) (y3 := ⟨none, 0, 0⟩) (lo1 := 0) (lo3 := 0) (l1 := []) (l3 := []) (c := ⟨none, 0, 0⟩) (d := ⟨none, 0, 0⟩) rfl (by simp) (by simp) hR 0 0 R h4 rfl (by omega) Its.nil Its.nil
    have enn := fun (h : GH) β K => rsameD (β := β) (Row.nil (h := h) (z := 1)) (Row.nil (h := h) (z := 1)) (xs := []) (ys := []) (by simp) hR K
    refine ⟨h5, fun β K => ?_⟩
    unfold F_law26_DenoteScans
    rw [F_law26_DenoteScans_gen, e1, e2, e3, e4, bne_self_eq_false, condF, enn, decT rfl, notT, condF, bne_self_eq_false, condF, eo, decT rfl, notT, condF]
    refine (e5 β _ _ _ _ _ _ _ _ _).trans ?_
    refine (e6 β _ _ _ _ _ _ _ (F_law26_plain R) (F_ref26_SameItem R) _).trans ?_
    rw [enn, decT rfl, condT, lives26']
theorem scans_any {W : World} {a : Option Addr} {len cap : Nat} {bs : List Int} (hr : IsRow .u8 W a len cap bs) : Calls Try.prog 4 #[.slice a len cap] W fun e W' => e = .returned (.bool true) ∧ Below W.heap.size W W' := by
  let l : List Ar := [⟨a, len, cap, 1, u8s (bs.take len)⟩]
  have ok : ∀ x ∈ l, ArOk (arInj l) W x := fun x hx => by cases List.mem_singleton.1 hx; exact ar_bytes hr _
  obtain ⟨h', e⟩ := scans_true (ar_row (l := l) (g := 0) rfl (ar_bytes hr (arInj l))) (IsRow.b8 hr) (R := rounds) (by unfold rounds; omega)
  obtain ⟨v, h1, hk, hc⟩ := F_law26_DenoteScans_sim (β := Value × GH) (r := (.bool true, h')) (K := fun v h => some (v, h)) (e _ _)
  cases hk
  exact ar_calls ok hc (.cons (ar_vr (l := l) (g := 0) rfl (ar_bytes hr (arInj l))) .nil)
end Go.Proofs.Ytibngikhlgmhaaa.Gx

