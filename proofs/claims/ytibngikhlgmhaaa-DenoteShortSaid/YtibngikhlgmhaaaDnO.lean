/- The program's records as bytes. No condition. -/
import Derived.Test.YtibngikhlgmhaaaDnN
namespace Go.Proofs.Ytibngikhlgmhaaa.Gx
open Go
set_option linter.unusedVariables false
set_option linter.unusedSimpArgs false
def comW (st : Option (List Int)) (a1 a2 a3 a4 a5 a6 a7 a8 : Int) (ln le : Nat) : Option (List Int) :=
  u16W (u16W (u32W (u32W (u32W (u16W (u16W (u16W (u16W (u16W st a1) a2) a3) a4) a5) a6) a7) a8) (ln : Nat)) (le : Nat)
/-- a local header as bytes -/
def locW (x : Hd) : Option (List Int) := putW (putW (comW (u32W (some []) 67324752) x.a1 x.a2 x.a3 x.a4 x.a5 x.a6 x.a7 x.a8 x.nm.length x.ex.length) x.nm) x.ex
/-- a central header as bytes -/
def cenW (x : Cn) : Option (List Int) :=
  putW (putW (putW (u32W (u32W (u16W (u16W (u16W (comW (u16W (u32W (some []) 33639248) x.a11) x.a1 x.a2 x.a3 x.a4 x.a5 x.a6 x.a7 x.a8 x.nm.length x.ex.length) (x.cm.length : Nat)) x.a12) x.a13) x.a14) x.a15) x.nm) x.ex) x.cm
/-- an end as bytes -/
def endW (x : En) : Option (List Int) :=
  putW (u16W (u32W (u32W (u16W (u16W (u16W (u16W (u32W (some []) 101010256) x.b1) x.b2) x.b3) x.b4) x.b5) x.b6) (x.cm.length : Nat)) x.cm
set_option maxHeartbeats 1000000 in
theorem RW.common {h0 h : GH} {g : Nat} {own : List Nat} {st : Option (List Int)} {m : Nat} (w : RW h0 h g own st m) (a1 a2 a3 a4 a5 a6 a7 a8 : Int) (s9 s10 : Sl) (hm : m + 26 ≤ 274877906944) {R : Nat} (hR : 8 < R) :
    ∃ h', RW h0 h' g own (comW st a1 a2 a3 a4 a5 a6 a7 a8 s9.n s10.n) (m + 26) ∧ ∀ (β : Type) (K : GH → Option β), F_record_common R (some ⟨g, 0, none⟩) a1 a2 a3 a4 a5 a6 a7 a8 s9 s10 h K = K h' := by
  obtain ⟨b, ys, wb, e, l⟩ := w
  have k1 := keep_push h (.row ⟨[Value.int .i64 a1, Value.int .i64 a2, Value.int .i64 a3, Value.int .i64 a4, Value.int .i64 a5, Value.int .u32 a6, Value.int .u32 a7, Value.int .u32 a8, Value.slice s9.a s9.n s9.c, Value.slice s10.a s10.n s10.c], 0, false⟩) []
  obtain ⟨h1, eh1⟩ : ∃ h1, h1 = h.push (.row ⟨[Value.int .i64 a1, Value.int .i64 a2, Value.int .i64 a3, Value.int .i64 a4, Value.int .i64 a5, Value.int .u32 a6, Value.int .u32 a7, Value.int .u32 a8, Value.slice s9.a s9.n s9.c, Value.slice s10.a s10.n s10.c], 0, false⟩) := ⟨_, rfl⟩
  have l1 : h1.look h.next = some (.row ⟨[Value.int .i64 a1, Value.int .i64 a2, Value.int .i64 a3, Value.int .i64 a4, Value.int .i64 a5, Value.int .u32 a6, Value.int .u32 a7, Value.int .u32 a8, Value.slice s9.a s9.n s9.c, Value.slice s10.a s10.n s10.c], 0, false⟩) := by rw [eh1]; exact look_push_new
  rw [← eh1] at k1
  have gne : h.next ∉ g :: rowsOf b := fun hm => by
    rcases List.mem_cons.1 hm with q | q
    · have := look_lt wb.look; omega
    · have := wb.vec.lt _ q; omega
  have w1 : RW h1 h1 g (g :: rowsOf b) st m := ⟨b, ys, wb.fwd k1, e, l⟩
  have c1 := fun o => cell_of (w1.look l1 gne) o
  obtain ⟨h2, w2, e2⟩ := w1.u16 a1 (by omega) hR
  have c2 := fun o => cell_of (w2.look l1 gne) o
  obtain ⟨h3, w3, e3⟩ := w2.u16 a2 (by omega) hR
  have c3 := fun o => cell_of (w3.look l1 gne) o
  obtain ⟨h4, w4, e4⟩ := w3.u16 a3 (by omega) hR
  have c4 := fun o => cell_of (w4.look l1 gne) o
  obtain ⟨h5, w5, e5⟩ := w4.u16 a4 (by omega) hR
  have c5 := fun o => cell_of (w5.look l1 gne) o
  obtain ⟨h6, w6, e6⟩ := w5.u16 a5 (by omega) hR
  have c6 := fun o => cell_of (w6.look l1 gne) o
  obtain ⟨h7, w7, e7⟩ := w6.u32 (x := a6) (by omega) hR
  have c7 := fun o => cell_of (w7.look l1 gne) o
  obtain ⟨h8, w8, e8⟩ := w7.u32 (x := a7) (by omega) hR
  have c8 := fun o => cell_of (w8.look l1 gne) o
  obtain ⟨h9, w9, e9⟩ := w8.u32 (x := a8) (by omega) hR
  have c9 := fun o => cell_of (w9.look l1 gne) o
  obtain ⟨h10, w10, e10⟩ := w9.u16 ((s9.n : Nat) : Int) (by omega) hR
  have c10 := fun o => cell_of (w10.look l1 gne) o
  obtain ⟨h11, w11, e11⟩ := w10.u16 ((s10.n : Nat) : Int) (by omega) hR
  have c11 := fun o => cell_of (w11.look l1 gne) o
  refine ⟨h11, (RW.back wb k1 w11).mono (by omega), fun β K => ?_⟩
  unfold F_record_common
  rw [F_record_common_gen]
  refine (gnew_eq rfl _).trans ?_
  rw [← eh1]
  try simp only [c1, Nat.zero_add, Nat.reduceAdd, nth_s, nth_0, exI_s, exS_s', veqO_i, veqO_s, condT, sameAt_1]
  refine (e2 β _).trans ?_
  try simp only [c1, c2, Nat.zero_add, Nat.reduceAdd, nth_s, nth_0, exI_s, exS_s', veqO_i, veqO_s, condT, sameAt_1]
  refine (e3 β _).trans ?_
  try simp only [c1, c2, c3, Nat.zero_add, Nat.reduceAdd, nth_s, nth_0, exI_s, exS_s', veqO_i, veqO_s, condT, sameAt_1]
  refine (e4 β _).trans ?_
  try simp only [c1, c2, c3, c4, Nat.zero_add, Nat.reduceAdd, nth_s, nth_0, exI_s, exS_s', veqO_i, veqO_s, condT, sameAt_1]
  refine (e5 β _).trans ?_
  try simp only [c1, c2, c3, c4, c5, Nat.zero_add, Nat.reduceAdd, nth_s, nth_0, exI_s, exS_s', veqO_i, veqO_s, condT, sameAt_1]
  refine (e6 β _).trans ?_
  try simp only [c1, c2, c3, c4, c5, c6, Nat.zero_add, Nat.reduceAdd, nth_s, nth_0, exI_s, exS_s', veqO_i, veqO_s, condT, sameAt_1]
  refine (e7 β _).trans ?_
  try simp only [c1, c2, c3, c4, c5, c6, c7, Nat.zero_add, Nat.reduceAdd, nth_s, nth_0, exI_s, exS_s', veqO_i, veqO_s, condT, sameAt_1]
  refine (e8 β _).trans ?_
  try simp only [c1, c2, c3, c4, c5, c6, c7, c8, Nat.zero_add, Nat.reduceAdd, nth_s, nth_0, exI_s, exS_s', veqO_i, veqO_s, condT, sameAt_1]
  refine (e9 β _).trans ?_
  try simp only [c1, c2, c3, c4, c5, c6, c7, c8, c9, Nat.zero_add, Nat.reduceAdd, nth_s, nth_0, exI_s, exS_s', veqO_i, veqO_s, condT, sameAt_1]
  refine (e10 β _).trans ?_
  try simp only [c1, c2, c3, c4, c5, c6, c7, c8, c9, c10, Nat.zero_add, Nat.reduceAdd, nth_s, nth_0, exI_s, exS_s', veqO_i, veqO_s, condT, sameAt_1]
  refine (e11 β _).trans ?_
  simp only [c1, c2, c3, c4, c5, c6, c7, c8, c9, c10, c11, Nat.zero_add, Nat.reduceAdd, nth_s, nth_0, exI_s, exS_s', veqO_i, veqO_s, condT, sameAt_1]
set_option maxHeartbeats 1000000 in
theorem write_local {h : GH} (x : Hd) {s9 s10 : Sl} (r9 : Rd h s9 x.nm) (r10 : Rd h s10 x.ex) (hn : x.nm.length ≤ 1000000) (hx : x.ex.length ≤ 1000000) {R : Nat} (hR : 8 < R) :
    ∃ h' q, Keep h h' [] ∧ (∀ z ∈ rowsOf q, h.next ≤ z) ∧ (∀ ys, locW x = some ys → Bv h' q ys ∧ ys.length ≤ 30 + x.nm.length + x.ex.length) ∧ ∀ (β : Type) (K : Sl → Int → GH → Option β), F_record_WriteLocal R x.a1 x.a2 x.a3 x.a4 x.a5 x.a6 x.a7 x.a8 s9 s10 h K = K q (if (locW x).isSome then 0 else 18) h' := by
  have nr9 := r9.n
  have nr10 := r10.n
  have k1 := keep_push h (.row ⟨[Value.int .i64 x.a1, Value.int .i64 x.a2, Value.int .i64 x.a3, Value.int .i64 x.a4, Value.int .i64 x.a5, Value.int .u32 x.a6, Value.int .u32 x.a7, Value.int .u32 x.a8, Value.slice s9.a s9.n s9.c, Value.slice s10.a s10.n s10.c], 0, false⟩) []
  obtain ⟨h1, eh1⟩ : ∃ h1, h1 = h.push (.row ⟨[Value.int .i64 x.a1, Value.int .i64 x.a2, Value.int .i64 x.a3, Value.int .i64 x.a4, Value.int .i64 x.a5, Value.int .u32 x.a6, Value.int .u32 x.a7, Value.int .u32 x.a8, Value.slice s9.a s9.n s9.c, Value.slice s10.a s10.n s10.c], 0, false⟩) := ⟨_, rfl⟩
  have l1 : h1.look h.next = some (.row ⟨[Value.int .i64 x.a1, Value.int .i64 x.a2, Value.int .i64 x.a3, Value.int .i64 x.a4, Value.int .i64 x.a5, Value.int .u32 x.a6, Value.int .u32 x.a7, Value.int .u32 x.a8, Value.slice s9.a s9.n s9.c, Value.slice s10.a s10.n s10.c], 0, false⟩) := by rw [eh1]; exact look_push_new
  rw [← eh1] at k1
  have r9' := r9.keep k1 (by simp)
  have r10' := r10.keep k1 (by simp)
  have c1 := fun o => cell_of l1 o
  obtain ⟨h2, g, w2, e2⟩ := RW.new h1 R
  have c2 := fun o => cell_of (w2.look l1 (by simp)) o
  obtain ⟨h3, w3, e3⟩ := w2.u32 (x := 67324752) (by omega) hR
  have c3 := fun o => cell_of (w3.look l1 (by simp)) o
  obtain ⟨h4, w4, e4⟩ := w3.common x.a1 x.a2 x.a3 x.a4 x.a5 x.a6 x.a7 x.a8 s9 s10 (by omega) hR
  have c4 := fun o => cell_of (w4.look l1 (by simp)) o
  obtain ⟨h5, w5, e5⟩ := w4.put (w4.rd r9' (by simp)) (by omega) R
  have c5 := fun o => cell_of (w5.look l1 (by simp)) o
  obtain ⟨h6, w6, e6⟩ := w5.put (w5.rd r10' (by simp)) (by omega) R
  have c6 := fun o => cell_of (w6.look l1 (by simp)) o
  obtain ⟨hz, q, kz, kz2, nz, vz, ez⟩ := w6.done (by omega) R
  have cz := fun o => cell_of (kz2.look (w6.look l1 (by simp)) (by simp)) o
  have b1 := k1.1
  refine ⟨hz, q, k1.trans kz (by simp), fun z hz => by have := nz z hz; omega, fun ys hy => ?_, fun β K => ?_⟩
  · have := vz ys (by rw [nr9, nr10]; exact hy)
    exact ⟨this.1, by omega⟩
  unfold F_record_WriteLocal
  rw [F_record_WriteLocal_gen]
  refine (gnew_eq rfl _).trans ?_
  rw [← eh1]
  refine (e2 β _).trans ?_
  try simp only [c1, c2, Nat.zero_add, Nat.reduceAdd, nth_s, nth_0, exI_s, exS_s', veqO_i, veqO_s, condT, sameAt_1]
  refine (e3 β _).trans ?_
  try simp only [c1, c2, c3, Nat.zero_add, Nat.reduceAdd, nth_s, nth_0, exI_s, exS_s', veqO_i, veqO_s, condT, sameAt_1]
  refine (e4 β _).trans ?_
  try simp only [c1, c2, c3, c4, Nat.zero_add, Nat.reduceAdd, nth_s, nth_0, exI_s, exS_s', veqO_i, veqO_s, condT, sameAt_1]
  refine (e5 β _).trans ?_
  try simp only [c1, c2, c3, c4, c5, Nat.zero_add, Nat.reduceAdd, nth_s, nth_0, exI_s, exS_s', veqO_i, veqO_s, condT, sameAt_1]
  refine (e6 β _).trans ?_
  try simp only [c1, c2, c3, c4, c5, c6, Nat.zero_add, Nat.reduceAdd, nth_s, nth_0, exI_s, exS_s', veqO_i, veqO_s, condT, sameAt_1]
  refine (ez β _).trans ?_
  rw [nr9, nr10]
  try simp only [cz, c1, c2, c3, c4, c5, c6, Nat.zero_add, Nat.reduceAdd, nth_s, nth_0, exI_s, exS_s', veqO_i, veqO_s, condT, sameAt_1]
  rfl
set_option maxHeartbeats 1000000 in
theorem write_central {h : GH} (x : Cn) {s9 s10 s16 : Sl} (r9 : Rd h s9 x.nm) (r10 : Rd h s10 x.ex) (r16 : Rd h s16 x.cm) (hn : x.nm.length ≤ 1000000) (hx : x.ex.length ≤ 1000000) (hc : x.cm.length ≤ 1000000) {R : Nat} (hR : 8 < R) :
    ∃ h' q, Keep h h' [] ∧ (∀ z ∈ rowsOf q, h.next ≤ z) ∧ (∀ ys, cenW x = some ys → Bv h' q ys ∧ ys.length ≤ 46 + x.nm.length + x.ex.length + x.cm.length) ∧ ∀ (β : Type) (K : Sl → Int → GH → Option β), F_record_WriteCentral R x.a1 x.a2 x.a3 x.a4 x.a5 x.a6 x.a7 x.a8 s9 s10 x.a11 x.a12 x.a13 x.a14 x.a15 s16 h K = K q (if (cenW x).isSome then 0 else 18) h' := by
  have nr9 := r9.n
  have nr10 := r10.n
  have nr16 := r16.n
  have k1 := keep_push h (.row ⟨[Value.int .i64 x.a1, Value.int .i64 x.a2, Value.int .i64 x.a3, Value.int .i64 x.a4, Value.int .i64 x.a5, Value.int .u32 x.a6, Value.int .u32 x.a7, Value.int .u32 x.a8, Value.slice s9.a s9.n s9.c, Value.slice s10.a s10.n s10.c, Value.int .i64 x.a11, Value.int .i64 x.a12, Value.int .i64 x.a13, Value.int .u32 x.a14, Value.int .u32 x.a15, Value.slice s16.a s16.n s16.c], 0, false⟩) []
  obtain ⟨h1, eh1⟩ : ∃ h1, h1 = h.push (.row ⟨[Value.int .i64 x.a1, Value.int .i64 x.a2, Value.int .i64 x.a3, Value.int .i64 x.a4, Value.int .i64 x.a5, Value.int .u32 x.a6, Value.int .u32 x.a7, Value.int .u32 x.a8, Value.slice s9.a s9.n s9.c, Value.slice s10.a s10.n s10.c, Value.int .i64 x.a11, Value.int .i64 x.a12, Value.int .i64 x.a13, Value.int .u32 x.a14, Value.int .u32 x.a15, Value.slice s16.a s16.n s16.c], 0, false⟩) := ⟨_, rfl⟩
  have l1 : h1.look h.next = some (.row ⟨[Value.int .i64 x.a1, Value.int .i64 x.a2, Value.int .i64 x.a3, Value.int .i64 x.a4, Value.int .i64 x.a5, Value.int .u32 x.a6, Value.int .u32 x.a7, Value.int .u32 x.a8, Value.slice s9.a s9.n s9.c, Value.slice s10.a s10.n s10.c, Value.int .i64 x.a11, Value.int .i64 x.a12, Value.int .i64 x.a13, Value.int .u32 x.a14, Value.int .u32 x.a15, Value.slice s16.a s16.n s16.c], 0, false⟩) := by rw [eh1]; exact look_push_new
  rw [← eh1] at k1
  have r9' := r9.keep k1 (by simp)
  have r10' := r10.keep k1 (by simp)
  have r16' := r16.keep k1 (by simp)
  have c1 := fun o => cell_of l1 o
  obtain ⟨h2, g, w2, e2⟩ := RW.new h1 R
  have c2 := fun o => cell_of (w2.look l1 (by simp)) o
  obtain ⟨h3, w3, e3⟩ := w2.u32 (x := 33639248) (by omega) hR
  have c3 := fun o => cell_of (w3.look l1 (by simp)) o
  obtain ⟨h4, w4, e4⟩ := w3.u16 x.a11 (by omega) hR
  have c4 := fun o => cell_of (w4.look l1 (by simp)) o
  obtain ⟨h5, w5, e5⟩ := w4.common x.a1 x.a2 x.a3 x.a4 x.a5 x.a6 x.a7 x.a8 s9 s10 (by omega) hR
  have c5 := fun o => cell_of (w5.look l1 (by simp)) o
  obtain ⟨h6, w6, e6⟩ := w5.u16 ((s16.n : Nat) : Int) (by omega) hR
  have c6 := fun o => cell_of (w6.look l1 (by simp)) o
  obtain ⟨h7, w7, e7⟩ := w6.u16 x.a12 (by omega) hR
  have c7 := fun o => cell_of (w7.look l1 (by simp)) o
  obtain ⟨h8, w8, e8⟩ := w7.u16 x.a13 (by omega) hR
  have c8 := fun o => cell_of (w8.look l1 (by simp)) o
  obtain ⟨h9, w9, e9⟩ := w8.u32 (x := x.a14) (by omega) hR
  have c9 := fun o => cell_of (w9.look l1 (by simp)) o
  obtain ⟨h10, w10, e10⟩ := w9.u32 (x := x.a15) (by omega) hR
  have c10 := fun o => cell_of (w10.look l1 (by simp)) o
  obtain ⟨h11, w11, e11⟩ := w10.put (w10.rd r9' (by simp)) (by omega) R
  have c11 := fun o => cell_of (w11.look l1 (by simp)) o
  obtain ⟨h12, w12, e12⟩ := w11.put (w11.rd r10' (by simp)) (by omega) R
  have c12 := fun o => cell_of (w12.look l1 (by simp)) o
  obtain ⟨h13, w13, e13⟩ := w12.put (w12.rd r16' (by simp)) (by omega) R
  have c13 := fun o => cell_of (w13.look l1 (by simp)) o
  obtain ⟨hz, q, kz, kz2, nz, vz, ez⟩ := w13.done (by omega) R
  have cz := fun o => cell_of (kz2.look (w13.look l1 (by simp)) (by simp)) o
  have b1 := k1.1
  refine ⟨hz, q, k1.trans kz (by simp), fun z hz => by have := nz z hz; omega, fun ys hy => ?_, fun β K => ?_⟩
  · have := vz ys (by rw [nr9, nr10, nr16]; exact hy)
    exact ⟨this.1, by omega⟩
  unfold F_record_WriteCentral
  rw [F_record_WriteCentral_gen]
  refine (gnew_eq rfl _).trans ?_
  rw [← eh1]
  refine (e2 β _).trans ?_
  try simp only [c1, c2, Nat.zero_add, Nat.reduceAdd, nth_s, nth_0, exI_s, exS_s', veqO_i, veqO_s, condT, sameAt_1]
  refine (e3 β _).trans ?_
  try simp only [c1, c2, c3, Nat.zero_add, Nat.reduceAdd, nth_s, nth_0, exI_s, exS_s', veqO_i, veqO_s, condT, sameAt_1]
  refine (e4 β _).trans ?_
  try simp only [c1, c2, c3, c4, Nat.zero_add, Nat.reduceAdd, nth_s, nth_0, exI_s, exS_s', veqO_i, veqO_s, condT, sameAt_1]
  refine (e5 β _).trans ?_
  try simp only [c1, c2, c3, c4, c5, Nat.zero_add, Nat.reduceAdd, nth_s, nth_0, exI_s, exS_s', veqO_i, veqO_s, condT, sameAt_1]
  refine (e6 β _).trans ?_
  try simp only [c1, c2, c3, c4, c5, c6, Nat.zero_add, Nat.reduceAdd, nth_s, nth_0, exI_s, exS_s', veqO_i, veqO_s, condT, sameAt_1]
  refine (e7 β _).trans ?_
  try simp only [c1, c2, c3, c4, c5, c6, c7, Nat.zero_add, Nat.reduceAdd, nth_s, nth_0, exI_s, exS_s', veqO_i, veqO_s, condT, sameAt_1]
  refine (e8 β _).trans ?_
  try simp only [c1, c2, c3, c4, c5, c6, c7, c8, Nat.zero_add, Nat.reduceAdd, nth_s, nth_0, exI_s, exS_s', veqO_i, veqO_s, condT, sameAt_1]
  refine (e9 β _).trans ?_
  try simp only [c1, c2, c3, c4, c5, c6, c7, c8, c9, Nat.zero_add, Nat.reduceAdd, nth_s, nth_0, exI_s, exS_s', veqO_i, veqO_s, condT, sameAt_1]
  refine (e10 β _).trans ?_
  try simp only [c1, c2, c3, c4, c5, c6, c7, c8, c9, c10, Nat.zero_add, Nat.reduceAdd, nth_s, nth_0, exI_s, exS_s', veqO_i, veqO_s, condT, sameAt_1]
  refine (e11 β _).trans ?_
  try simp only [c1, c2, c3, c4, c5, c6, c7, c8, c9, c10, c11, Nat.zero_add, Nat.reduceAdd, nth_s, nth_0, exI_s, exS_s', veqO_i, veqO_s, condT, sameAt_1]
  refine (e12 β _).trans ?_
  try simp only [c1, c2, c3, c4, c5, c6, c7, c8, c9, c10, c11, c12, Nat.zero_add, Nat.reduceAdd, nth_s, nth_0, exI_s, exS_s', veqO_i, veqO_s, condT, sameAt_1]
  refine (e13 β _).trans ?_
  try simp only [c1, c2, c3, c4, c5, c6, c7, c8, c9, c10, c11, c12, c13, Nat.zero_add, Nat.reduceAdd, nth_s, nth_0, exI_s, exS_s', veqO_i, veqO_s, condT, sameAt_1]
  refine (ez β _).trans ?_
  rw [nr9, nr10, nr16]
  try simp only [cz, c1, c2, c3, c4, c5, c6, c7, c8, c9, c10, c11, c12, c13, Nat.zero_add, Nat.reduceAdd, nth_s, nth_0, exI_s, exS_s', veqO_i, veqO_s, condT, sameAt_1]
  rfl
set_option maxHeartbeats 1000000 in
theorem write_end {h : GH} (x : En) {s7 : Sl} (r7 : Rd h s7 x.cm) (hc : x.cm.length ≤ 1000000) {R : Nat} (hR : 8 < R) :
    ∃ h' q, Keep h h' [] ∧ (∀ z ∈ rowsOf q, h.next ≤ z) ∧ (∀ ys, endW x = some ys → Bv h' q ys ∧ ys.length ≤ 22 + x.cm.length) ∧ ∀ (β : Type) (K : Sl → Int → GH → Option β), F_record_WriteEnd R x.b1 x.b2 x.b3 x.b4 x.b5 x.b6 s7 h K = K q (if (endW x).isSome then 0 else 18) h' := by
  have nr7 := r7.n
  have k1 := keep_push h (.row ⟨[Value.int .i64 x.b1, Value.int .i64 x.b2, Value.int .i64 x.b3, Value.int .i64 x.b4, Value.int .u32 x.b5, Value.int .u32 x.b6, Value.slice s7.a s7.n s7.c], 0, false⟩) []
  obtain ⟨h1, eh1⟩ : ∃ h1, h1 = h.push (.row ⟨[Value.int .i64 x.b1, Value.int .i64 x.b2, Value.int .i64 x.b3, Value.int .i64 x.b4, Value.int .u32 x.b5, Value.int .u32 x.b6, Value.slice s7.a s7.n s7.c], 0, false⟩) := ⟨_, rfl⟩
  have l1 : h1.look h.next = some (.row ⟨[Value.int .i64 x.b1, Value.int .i64 x.b2, Value.int .i64 x.b3, Value.int .i64 x.b4, Value.int .u32 x.b5, Value.int .u32 x.b6, Value.slice s7.a s7.n s7.c], 0, false⟩) := by rw [eh1]; exact look_push_new
  rw [← eh1] at k1
  have r7' := r7.keep k1 (by simp)
  have c1 := fun o => cell_of l1 o
  obtain ⟨h2, g, w2, e2⟩ := RW.new h1 R
  have c2 := fun o => cell_of (w2.look l1 (by simp)) o
  obtain ⟨h3, w3, e3⟩ := w2.u32 (x := 101010256) (by omega) hR
  have c3 := fun o => cell_of (w3.look l1 (by simp)) o
  obtain ⟨h4, w4, e4⟩ := w3.u16 x.b1 (by omega) hR
  have c4 := fun o => cell_of (w4.look l1 (by simp)) o
  obtain ⟨h5, w5, e5⟩ := w4.u16 x.b2 (by omega) hR
  have c5 := fun o => cell_of (w5.look l1 (by simp)) o
  obtain ⟨h6, w6, e6⟩ := w5.u16 x.b3 (by omega) hR
  have c6 := fun o => cell_of (w6.look l1 (by simp)) o
  obtain ⟨h7, w7, e7⟩ := w6.u16 x.b4 (by omega) hR
  have c7 := fun o => cell_of (w7.look l1 (by simp)) o
  obtain ⟨h8, w8, e8⟩ := w7.u32 (x := x.b5) (by omega) hR
  have c8 := fun o => cell_of (w8.look l1 (by simp)) o
  obtain ⟨h9, w9, e9⟩ := w8.u32 (x := x.b6) (by omega) hR
  have c9 := fun o => cell_of (w9.look l1 (by simp)) o
  obtain ⟨h10, w10, e10⟩ := w9.u16 ((s7.n : Nat) : Int) (by omega) hR
  have c10 := fun o => cell_of (w10.look l1 (by simp)) o
  obtain ⟨h11, w11, e11⟩ := w10.put (w10.rd r7' (by simp)) (by omega) R
  have c11 := fun o => cell_of (w11.look l1 (by simp)) o
  obtain ⟨hz, q, kz, kz2, nz, vz, ez⟩ := w11.done (by omega) R
  have cz := fun o => cell_of (kz2.look (w11.look l1 (by simp)) (by simp)) o
  have b1 := k1.1
  refine ⟨hz, q, k1.trans kz (by simp), fun z hz => by have := nz z hz; omega, fun ys hy => ?_, fun β K => ?_⟩
  · have := vz ys (by rw [nr7]; exact hy)
    exact ⟨this.1, by omega⟩
  unfold F_record_WriteEnd
  rw [F_record_WriteEnd_gen]
  refine (gnew_eq rfl _).trans ?_
  rw [← eh1]
  refine (e2 β _).trans ?_
  try simp only [c1, c2, Nat.zero_add, Nat.reduceAdd, nth_s, nth_0, exI_s, exS_s', veqO_i, veqO_s, condT, sameAt_1]
  refine (e3 β _).trans ?_
  try simp only [c1, c2, c3, Nat.zero_add, Nat.reduceAdd, nth_s, nth_0, exI_s, exS_s', veqO_i, veqO_s, condT, sameAt_1]
  refine (e4 β _).trans ?_
  try simp only [c1, c2, c3, c4, Nat.zero_add, Nat.reduceAdd, nth_s, nth_0, exI_s, exS_s', veqO_i, veqO_s, condT, sameAt_1]
  refine (e5 β _).trans ?_
  try simp only [c1, c2, c3, c4, c5, Nat.zero_add, Nat.reduceAdd, nth_s, nth_0, exI_s, exS_s', veqO_i, veqO_s, condT, sameAt_1]
  refine (e6 β _).trans ?_
  try simp only [c1, c2, c3, c4, c5, c6, Nat.zero_add, Nat.reduceAdd, nth_s, nth_0, exI_s, exS_s', veqO_i, veqO_s, condT, sameAt_1]
  refine (e7 β _).trans ?_
  try simp only [c1, c2, c3, c4, c5, c6, c7, Nat.zero_add, Nat.reduceAdd, nth_s, nth_0, exI_s, exS_s', veqO_i, veqO_s, condT, sameAt_1]
  refine (e8 β _).trans ?_
  try simp only [c1, c2, c3, c4, c5, c6, c7, c8, Nat.zero_add, Nat.reduceAdd, nth_s, nth_0, exI_s, exS_s', veqO_i, veqO_s, condT, sameAt_1]
  refine (e9 β _).trans ?_
  try simp only [c1, c2, c3, c4, c5, c6, c7, c8, c9, Nat.zero_add, Nat.reduceAdd, nth_s, nth_0, exI_s, exS_s', veqO_i, veqO_s, condT, sameAt_1]
  refine (e10 β _).trans ?_
  try simp only [c1, c2, c3, c4, c5, c6, c7, c8, c9, c10, Nat.zero_add, Nat.reduceAdd, nth_s, nth_0, exI_s, exS_s', veqO_i, veqO_s, condT, sameAt_1]
  refine (e11 β _).trans ?_
  try simp only [c1, c2, c3, c4, c5, c6, c7, c8, c9, c10, c11, Nat.zero_add, Nat.reduceAdd, nth_s, nth_0, exI_s, exS_s', veqO_i, veqO_s, condT, sameAt_1]
  refine (ez β _).trans ?_
  rw [nr7]
  try simp only [cz, c1, c2, c3, c4, c5, c6, c7, c8, c9, c10, c11, Nat.zero_add, Nat.reduceAdd, nth_s, nth_0, exI_s, exS_s', veqO_i, veqO_s, condT, sameAt_1]
  rfl
end Go.Proofs.Ytibngikhlgmhaaa.Gx

