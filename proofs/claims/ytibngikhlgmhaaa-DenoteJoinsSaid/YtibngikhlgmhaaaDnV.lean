/- The document's records as bytes. No condition. -/
import Derived.Test.YtibngikhlgmhaaaDnU
namespace Go.Proofs.Ytibngikhlgmhaaa.Gx
open Go
set_option linter.unusedVariables false
set_option linter.unusedSimpArgs false
theorem halP_len : ∀ (l : List Int) (p : List Int), halP l = some p → p.length = 2 * l.length
  | [], p, h => by cases h; rfl
  | x :: l, p, h => by
    rw [halP] at h
    split at h
    · obtain ⟨z, hz, rfl⟩ := Option.map_eq_some_iff.1 h
      rw [List.length_append, numI_len, halP_len l z hz, List.length_cons]; omega
    · cases h
theorem locW_eq (x : Hd) : locW x = (halP [x.a1, x.a2, x.a3, x.a4, x.a5]).bind fun p => (halP [((x.nm.length : Nat) : Int), ((x.ex.length : Nat) : Int)]).map fun q => numI 4 67324752 ++ (p ++ (worP [x.a6, x.a7, x.a8] ++ (q ++ (x.nm ++ x.ex)))) := by
  unfold locW
  rw [u32W_some, List.nil_append, comW_eq]
  cases halP [x.a1, x.a2, x.a3, x.a4, x.a5] with
  | none => rfl
  | some p =>
    rw [Option.bind_some, Option.bind_some]
    cases halP [((x.nm.length : Nat) : Int), ((x.ex.length : Nat) : Int)] with
    | none => rfl
    | some q => rw [Option.map_some, Option.map_some, putW_some, putW_some]; simp only [List.append_assoc]
theorem cenW_eq (x : Cn) : cenW x = (halP [x.a11, x.a1, x.a2, x.a3, x.a4, x.a5]).bind fun p => (halP [((x.nm.length : Nat) : Int), ((x.ex.length : Nat) : Int), ((x.cm.length : Nat) : Int), x.a12, x.a13]).map fun q => numI 4 33639248 ++ (p ++ (worP [x.a6, x.a7, x.a8] ++ (q ++ (worP [x.a14, x.a15] ++ (x.nm ++ (x.ex ++ x.cm)))))) := by
  have e1 : cenW x = putW (putW (putW (u32W (u32W (halW (u32W (u32W (u32W (halW (u32W (some []) 33639248) [x.a11, x.a1, x.a2, x.a3, x.a4, x.a5]) x.a6) x.a7) x.a8) [((x.nm.length : Nat) : Int), ((x.ex.length : Nat) : Int), ((x.cm.length : Nat) : Int), x.a12, x.a13]) x.a14) x.a15) x.nm) x.ex) x.cm := rfl
  rw [e1, u32W_some, List.nil_append, halW_eq]
  cases halP [x.a11, x.a1, x.a2, x.a3, x.a4, x.a5] with
  | none => rw [Option.map_none, u32W_none, u32W_none, u32W_none, halW_none]; rfl
  | some p =>
    rw [Option.map_some, u32W_some, u32W_some, u32W_some, halW_eq, Option.bind_some]
    cases halP [((x.nm.length : Nat) : Int), ((x.ex.length : Nat) : Int), ((x.cm.length : Nat) : Int), x.a12, x.a13] with
    | none => rfl
    | some q => rw [Option.map_some, Option.map_some, u32W_some, u32W_some, putW_some, putW_some, putW_some]; simp only [worP, List.flatMap_cons, List.flatMap_nil, List.append_nil, List.append_assoc]
theorem endW_eq (x : En) : endW x = (halP [x.b1, x.b2, x.b3, x.b4]).bind fun p => (halP [((x.cm.length : Nat) : Int)]).map fun q => numI 4 101010256 ++ (p ++ (worP [x.b5, x.b6] ++ (q ++ x.cm))) := by
  have e1 : endW x = putW (halW (u32W (u32W (halW (u32W (some []) 101010256) [x.b1, x.b2, x.b3, x.b4]) x.b5) x.b6) [((x.cm.length : Nat) : Int)]) x.cm := rfl
  rw [e1, u32W_some, List.nil_append, halW_eq]
  cases halP [x.b1, x.b2, x.b3, x.b4] with
  | none => rw [Option.map_none, u32W_none, u32W_none, halW_none]; rfl
  | some p =>
    rw [Option.map_some, u32W_some, u32W_some, halW_eq, Option.bind_some]
    cases halP [((x.cm.length : Nat) : Int)] with
    | none => rfl
    | some q => rw [Option.map_some, Option.map_some, putW_some]; simp only [worP, List.flatMap_cons, List.flatMap_nil, List.append_nil, List.append_assoc]
set_option maxHeartbeats 4000000 in
theorem local_ref {h : GH} (x : Hd) {s9 s10 : Sl} (r9 : Rd h s9 x.nm) (r10 : Rd h s10 x.ex) (hn : x.nm.length ≤ 1000000) (hx : x.ex.length ≤ 1000000) (u6 : 0 ≤ x.a6 ∧ x.a6 ≤ 4294967295) (u7 : 0 ≤ x.a7 ∧ x.a7 ≤ 4294967295) (u8 : 0 ≤ x.a8 ∧ x.a8 ≤ 4294967295) {R : Nat} (hR : 4000 < R) :
    ∃ h' q, Keep h h' [] ∧ (∀ z ∈ rowsOf q, h.next ≤ z) ∧ (∀ ys, locW x = some ys → Bv h' q ys) ∧ ∀ (β : Type) (K : Sl → Int → GH → Option β), F_ref24_Local R x.a1 x.a2 x.a3 x.a4 x.a5 x.a6 x.a7 x.a8 s9 s10 h K = K q (if (locW x).isSome then 0 else 18) h' := by
  have nr9 := r9.n
  have nr10 := r10.n
  have k1 := keep_push h (.row ⟨[Value.int .i64 x.a1, Value.int .i64 x.a2, Value.int .i64 x.a3, Value.int .i64 x.a4, Value.int .i64 x.a5, Value.int .u32 x.a6, Value.int .u32 x.a7, Value.int .u32 x.a8, Value.slice s9.a s9.n s9.c, Value.slice s10.a s10.n s10.c], 0, false⟩) []
  obtain ⟨h1, eh1⟩ : ∃ h1, h1 = h.push (.row ⟨[Value.int .i64 x.a1, Value.int .i64 x.a2, Value.int .i64 x.a3, Value.int .i64 x.a4, Value.int .i64 x.a5, Value.int .u32 x.a6, Value.int .u32 x.a7, Value.int .u32 x.a8, Value.slice s9.a s9.n s9.c, Value.slice s10.a s10.n s10.c], 0, false⟩) := ⟨_, rfl⟩
  have l1 : h1.look h.next = some (.row ⟨[Value.int .i64 x.a1, Value.int .i64 x.a2, Value.int .i64 x.a3, Value.int .i64 x.a4, Value.int .i64 x.a5, Value.int .u32 x.a6, Value.int .u32 x.a7, Value.int .u32 x.a8, Value.slice s9.a s9.n s9.c, Value.slice s10.a s10.n s10.c], 0, false⟩) := by rw [eh1]; exact look_push_new
  rw [← eh1] at k1
  have c1 := fun o => cell_of l1 o
  have k2 := keep_push h1 (.row ⟨[Value.int .i64 x.a1, Value.int .i64 x.a2, Value.int .i64 x.a3, Value.int .i64 x.a4, Value.int .i64 x.a5], 1, false⟩) []
  obtain ⟨h2, eh2⟩ : ∃ hh, hh = h1.push (.row ⟨[Value.int .i64 x.a1, Value.int .i64 x.a2, Value.int .i64 x.a3, Value.int .i64 x.a4, Value.int .i64 x.a5], 1, false⟩) := ⟨_, rfl⟩
  have r_2 : Rdi h2 ⟨some ⟨h1.next, 0, none⟩, 5, 5⟩ [x.a1, x.a2, x.a3, x.a4, x.a5] := by rw [eh2]; exact (Vec.new (z := 1) (n := 5) (cs := i64s [x.a1, x.a2, x.a3, x.a4, x.a5]) rfl rfl).row
  rw [← eh2] at k2
  have m2 := k2.look l1 (by simp)
  have c2 := fun o => cell_of m2 o
  have kk2 := k1.trans k2 (by simp)
  obtain ⟨h3, q3, k3, n3, v3, e3⟩ := halves_ref r_2 (by simp) hR
  have m3 := k3.look m2 (by simp)
  have c3 := fun o => cell_of m3 o
  have kk3 := kk2.trans k3 (by simp)
  have k4 := keep_push h3 (.row ⟨[Value.int .i64 ((s9.n : Nat) : Int), Value.int .i64 ((s10.n : Nat) : Int)], 1, false⟩) []
  obtain ⟨h4, eh4⟩ : ∃ hh, hh = h3.push (.row ⟨[Value.int .i64 ((s9.n : Nat) : Int), Value.int .i64 ((s10.n : Nat) : Int)], 1, false⟩) := ⟨_, rfl⟩
  have r_4 : Rdi h4 ⟨some ⟨h3.next, 0, none⟩, 2, 2⟩ [((s9.n : Nat) : Int), ((s10.n : Nat) : Int)] := by rw [eh4]; exact (Vec.new (z := 1) (n := 2) (cs := i64s [((s9.n : Nat) : Int), ((s10.n : Nat) : Int)]) rfl rfl).row
  rw [← eh4] at k4
  have m4 := k4.look m3 (by simp)
  have c4 := fun o => cell_of m4 o
  have kk4 := kk3.trans k4 (by simp)
  obtain ⟨h5, q5, k5, n5, v5, e5⟩ := halves_ref r_4 (by simp) hR
  have m5 := k5.look m4 (by simp)
  have c5 := fun o => cell_of m5 o
  have kk5 := kk4.trans k5 (by simp)
  have nn := locW_eq x
  rw [← nr9, ← nr10] at nn
  cases hA : halP [x.a1, x.a2, x.a3, x.a4, x.a5] with
  | none =>
    rw [hA] at nn e3
    rw [nn]
    refine ⟨h5, ⟨none, 0, 0⟩, kk5, by simp [rowsOf], fun ys hy => (by cases hy), fun β K => ?_⟩
    unfold F_ref24_Local
    rw [F_ref24_Local_gen]
    refine (gnew_eq rfl _).trans ?_
    rw [← eh1]
    try simp only [c1, Nat.zero_add, Nat.reduceAdd, Nat.add_zero, nth_s, nth_0, exI_s, exS_s', veqO_i, veqO_s, condT, sameAt_1]
    refine (gnew_eq rfl _).trans ?_
    rw [← eh2]
    refine (e3 β _).trans ?_
    try simp only [c1, c2, c3, Nat.zero_add, Nat.reduceAdd, Nat.add_zero, nth_s, nth_0, exI_s, exS_s', veqO_i, veqO_s, condT, sameAt_1]
    refine (gnew_eq rfl _).trans ?_
    rw [← eh4]
    refine (e5 β _).trans ?_
    try simp only [c1, c2, c3, c4, c5, Nat.zero_add, Nat.reduceAdd, Nat.add_zero, nth_s, nth_0, exI_s, exS_s', veqO_i, veqO_s, condT, sameAt_1]
    rfl
  | some p =>
    rw [hA] at nn e3 v3
    cases hB : halP [((s9.n : Nat) : Int), ((s10.n : Nat) : Int)] with
    | none =>
      rw [hB] at nn e5
      rw [nn]
      refine ⟨h5, ⟨none, 0, 0⟩, kk5, by simp [rowsOf], fun ys hy => (by cases hy), fun β K => ?_⟩
      unfold F_ref24_Local
      rw [F_ref24_Local_gen]
      refine (gnew_eq rfl _).trans ?_
      rw [← eh1]
      try simp only [c1, Nat.zero_add, Nat.reduceAdd, Nat.add_zero, nth_s, nth_0, exI_s, exS_s', veqO_i, veqO_s, condT, sameAt_1]
      refine (gnew_eq rfl _).trans ?_
      rw [← eh2]
      refine (e3 β _).trans ?_
      try simp only [c1, c2, c3, Nat.zero_add, Nat.reduceAdd, Nat.add_zero, nth_s, nth_0, exI_s, exS_s', veqO_i, veqO_s, condT, sameAt_1]
      refine (gnew_eq rfl _).trans ?_
      rw [← eh4]
      refine (e5 β _).trans ?_
      try simp only [c1, c2, c3, c4, c5, Nat.zero_add, Nat.reduceAdd, Nat.add_zero, nth_s, nth_0, exI_s, exS_s', veqO_i, veqO_s, condT, sameAt_1]
      rfl
    | some q =>
      rw [hB] at nn e5 v5
      have pA := halP_len _ _ hA
      have pB := halP_len _ _ hB
      simp only [List.length_cons, List.length_nil] at pA pB
      have vA := v3 p rfl
      have vB := v5 q rfl
      have k6 := keep_push h5 (.row ⟨[Value.int .u32 67324752], 1, false⟩) []
      obtain ⟨h6, eh6⟩ : ∃ hh, hh = h5.push (.row ⟨[Value.int .u32 67324752], 1, false⟩) := ⟨_, rfl⟩
      have r_6 : Row h6 ⟨some ⟨h5.next, 0, none⟩, 1, 1⟩ 1 (u32s [67324752]) := by rw [eh6]; exact (Vec.new (z := 1) (n := 1) (cs := u32s [67324752]) rfl rfl).row
      rw [← eh6] at k6
      have m6 := k6.look m5 (by simp)
      have c6 := fun o => cell_of m6 o
      have kk6 := kk5.trans k6 (by simp)
      obtain ⟨h7, q7, j7, e7⟩ := words_ref r_6 (by simp) (by simp) hR
      have k7 := j7.keep
      have m7 := k7.look m6 (by simp)
      have c7 := fun o => cell_of m7 o
      have kk7 := kk6.trans k7 (by simp)
      have k8 := keep_push h7 (.row ⟨[Value.int .u32 x.a6, Value.int .u32 x.a7, Value.int .u32 x.a8], 1, false⟩) []
      obtain ⟨h8, eh8⟩ : ∃ hh, hh = h7.push (.row ⟨[Value.int .u32 x.a6, Value.int .u32 x.a7, Value.int .u32 x.a8], 1, false⟩) := ⟨_, rfl⟩
      have r_8 : Row h8 ⟨some ⟨h7.next, 0, none⟩, 3, 3⟩ 1 (u32s [x.a6, x.a7, x.a8]) := by rw [eh8]; exact (Vec.new (z := 1) (n := 3) (cs := u32s [x.a6, x.a7, x.a8]) rfl rfl).row
      rw [← eh8] at k8
      have m8 := k8.look m7 (by simp)
      have c8 := fun o => cell_of m8 o
      have kk8 := kk7.trans k8 (by simp)
      obtain ⟨h9, q9, j9, e9⟩ := words_ref r_8 (by simp; omega) (by simp) hR
      have k9 := j9.keep
      have m9 := k9.look m8 (by simp)
      have c9 := fun o => cell_of m9 o
      have kk9 := kk8.trans k9 (by simp)
      have k10 := keep_push h9 (.row ⟨[Value.slice q7.a q7.n q7.c, Value.slice q3.a q3.n q3.c, Value.slice q9.a q9.n q9.c, Value.slice q5.a q5.n q5.c, Value.slice s9.a s9.n s9.c, Value.slice s10.a s10.n s10.c], 1, false⟩) []
      obtain ⟨h10, eh10⟩ : ∃ hh, hh = h9.push (.row ⟨[Value.slice q7.a q7.n q7.c, Value.slice q3.a q3.n q3.c, Value.slice q9.a q9.n q9.c, Value.slice q5.a q5.n q5.c, Value.slice s9.a s9.n s9.c, Value.slice s10.a s10.n s10.c], 1, false⟩) := ⟨_, rfl⟩
      have r_10 : Row h10 ⟨some ⟨h9.next, 0, none⟩, 6, 6⟩ 1 (sls [(q7, worP [67324752]), (q3, p), (q9, worP [x.a6, x.a7, x.a8]), (q5, q), (s9, x.nm), (s10, x.ex)]) := by rw [eh10]; exact (Vec.new (z := 1) (n := 6) (cs := sls [(q7, worP [67324752]), (q3, p), (q9, worP [x.a6, x.a7, x.a8]), (q5, q), (s9, x.nm), (s10, x.ex)]) rfl rfl).row
      rw [← eh10] at k10
      have m10 := k10.look m9 (by simp)
      have c10 := fun o => cell_of m10 o
      have kk10 := kk9.trans k10 (by simp)
      have z0 : Rd h10 q7 (worP [67324752]) := Row.keep (Row.keep (Row.keep (j7.v.row) k8 (by simp)) k9 (by simp)) k10 (by simp)
      have z1 : Rd h10 q3 (p) := Row.keep (Row.keep (Row.keep (Row.keep (Row.keep (Row.keep (Row.keep (vA.row) k4 (by simp)) k5 (by simp)) k6 (by simp)) k7 (by simp)) k8 (by simp)) k9 (by simp)) k10 (by simp)
      have z2 : Rd h10 q9 (worP [x.a6, x.a7, x.a8]) := Row.keep (j9.v.row) k10 (by simp)
      have z3 : Rd h10 q5 (q) := Row.keep (Row.keep (Row.keep (Row.keep (Row.keep (vB.row) k6 (by simp)) k7 (by simp)) k8 (by simp)) k9 (by simp)) k10 (by simp)
      have z4 : Rd h10 s9 (x.nm) := r9.keep kk10 (by simp)
      have z5 : Rd h10 s10 (x.ex) := r10.keep kk10 (by simp)
      have hps : ∀ w ∈ ([(q7, worP [67324752]), (q3, p), (q9, worP [x.a6, x.a7, x.a8]), (q5, q), (s9, x.nm), (s10, x.ex)] : List (Sl × List Int)), Rd h10 w.1 w.2 ∧ w.2.length ≤ 1000000 := by
        intro w hw
        simp only [List.mem_cons, List.not_mem_nil, or_false] at hw
        rcases hw with rfl | rfl | rfl | rfl | rfl | rfl
        · exact ⟨z0, by rw [worP_len]; simp⟩
        · exact ⟨z1, by show (p).length ≤ _; omega⟩
        · exact ⟨z2, by rw [worP_len]; simp⟩
        · exact ⟨z3, by show (q).length ≤ _; omega⟩
        · exact ⟨z4, by show (x.nm).length ≤ _; omega⟩
        · exact ⟨z5, by show (x.ex).length ≤ _; omega⟩
      obtain ⟨h11, q11, j11, e11⟩ := join_ref r_10 hps (by simp) hR
      have k11 := j11.keep
      have hcat : locW x = some (catP [(q7, worP [67324752]), (q3, p), (q9, worP [x.a6, x.a7, x.a8]), (q5, q), (s9, x.nm), (s10, x.ex)]) := by
        rw [nn]; simp only [Option.bind_some, Option.map_some, catP, worP, List.flatMap_cons, List.flatMap_nil, List.append_nil, List.append_assoc]
      have bk := kk10.1
      rw [hcat]
      refine ⟨h11, q11, kk10.trans k11 (by simp), fun z hz => by have := j11.n z hz; omega, fun ys hy => by cases hy; exact j11.v, fun β K => ?_⟩
      unfold F_ref24_Local
      rw [F_ref24_Local_gen]
      refine (gnew_eq rfl _).trans ?_
      rw [← eh1]
      try simp only [c1, Nat.zero_add, Nat.reduceAdd, Nat.add_zero, nth_s, nth_0, exI_s, exS_s', veqO_i, veqO_s, condT, sameAt_1]
      refine (gnew_eq rfl _).trans ?_
      rw [← eh2]
      refine (e3 β _).trans ?_
      try simp only [c1, c2, c3, Nat.zero_add, Nat.reduceAdd, Nat.add_zero, nth_s, nth_0, exI_s, exS_s', veqO_i, veqO_s, condT, sameAt_1]
      refine (gnew_eq rfl _).trans ?_
      rw [← eh4]
      refine (e5 β _).trans ?_
      try simp only [c1, c2, c3, c4, c5, Nat.zero_add, Nat.reduceAdd, Nat.add_zero, nth_s, nth_0, exI_s, exS_s', veqO_i, veqO_s, condT, sameAt_1]
      rw [show (!(some p).isSome) = false from rfl, show (!(some q).isSome) = false from rfl, condF, condF, show (bif (some p).isSome then q3 else ⟨none, 0, 0⟩) = q3 from rfl, show (bif (some q).isSome then q5 else ⟨none, 0, 0⟩) = q5 from rfl]
      refine (gnew_eq rfl _).trans ?_
      rw [← eh6]
      refine (e7 β _).trans ?_
      try simp only [c1, c2, c3, c4, c5, c6, c7, Nat.zero_add, Nat.reduceAdd, Nat.add_zero, nth_s, nth_0, exI_s, exS_s', veqO_i, veqO_s, condT, sameAt_1]
      refine (gnew_eq rfl _).trans ?_
      rw [← eh8]
      refine (e9 β _).trans ?_
      try simp only [c1, c2, c3, c4, c5, c6, c7, c8, c9, Nat.zero_add, Nat.reduceAdd, Nat.add_zero, nth_s, nth_0, exI_s, exS_s', veqO_i, veqO_s, condT, sameAt_1]
      refine (gnew_eq rfl _).trans ?_
      rw [← eh10]
      refine (e11 β _).trans ?_
      try simp only [c1, c2, c3, c4, c5, c6, c7, c8, c9, c10, Nat.zero_add, Nat.reduceAdd, Nat.add_zero, nth_s, nth_0, exI_s, exS_s', veqO_i, veqO_s, condT, sameAt_1]
      rfl
set_option maxHeartbeats 4000000 in
theorem central_ref {h : GH} (x : Cn) {s9 s10 s16 : Sl} (r9 : Rd h s9 x.nm) (r10 : Rd h s10 x.ex) (r16 : Rd h s16 x.cm) (hn : x.nm.length ≤ 1000000) (hx : x.ex.length ≤ 1000000) (hc : x.cm.length ≤ 1000000) (u6 : 0 ≤ x.a6 ∧ x.a6 ≤ 4294967295) (u7 : 0 ≤ x.a7 ∧ x.a7 ≤ 4294967295) (u8 : 0 ≤ x.a8 ∧ x.a8 ≤ 4294967295) (u14 : 0 ≤ x.a14 ∧ x.a14 ≤ 4294967295) (u15 : 0 ≤ x.a15 ∧ x.a15 ≤ 4294967295) {R : Nat} (hR : 4000 < R) :
    ∃ h' q, Keep h h' [] ∧ (∀ z ∈ rowsOf q, h.next ≤ z) ∧ (∀ ys, cenW x = some ys → Bv h' q ys) ∧ ∀ (β : Type) (K : Sl → Int → GH → Option β), F_ref24_Central R x.a1 x.a2 x.a3 x.a4 x.a5 x.a6 x.a7 x.a8 s9 s10 x.a11 x.a12 x.a13 x.a14 x.a15 s16 h K = K q (if (cenW x).isSome then 0 else 18) h' := by
  have nr9 := r9.n
  have nr10 := r10.n
  have nr16 := r16.n
  have k1 := keep_push h (.row ⟨[Value.int .i64 x.a1, Value.int .i64 x.a2, Value.int .i64 x.a3, Value.int .i64 x.a4, Value.int .i64 x.a5, Value.int .u32 x.a6, Value.int .u32 x.a7, Value.int .u32 x.a8, Value.slice s9.a s9.n s9.c, Value.slice s10.a s10.n s10.c, Value.int .i64 x.a11, Value.int .i64 x.a12, Value.int .i64 x.a13, Value.int .u32 x.a14, Value.int .u32 x.a15, Value.slice s16.a s16.n s16.c], 0, false⟩) []
  obtain ⟨h1, eh1⟩ : ∃ h1, h1 = h.push (.row ⟨[Value.int .i64 x.a1, Value.int .i64 x.a2, Value.int .i64 x.a3, Value.int .i64 x.a4, Value.int .i64 x.a5, Value.int .u32 x.a6, Value.int .u32 x.a7, Value.int .u32 x.a8, Value.slice s9.a s9.n s9.c, Value.slice s10.a s10.n s10.c, Value.int .i64 x.a11, Value.int .i64 x.a12, Value.int .i64 x.a13, Value.int .u32 x.a14, Value.int .u32 x.a15, Value.slice s16.a s16.n s16.c], 0, false⟩) := ⟨_, rfl⟩
  have l1 : h1.look h.next = some (.row ⟨[Value.int .i64 x.a1, Value.int .i64 x.a2, Value.int .i64 x.a3, Value.int .i64 x.a4, Value.int .i64 x.a5, Value.int .u32 x.a6, Value.int .u32 x.a7, Value.int .u32 x.a8, Value.slice s9.a s9.n s9.c, Value.slice s10.a s10.n s10.c, Value.int .i64 x.a11, Value.int .i64 x.a12, Value.int .i64 x.a13, Value.int .u32 x.a14, Value.int .u32 x.a15, Value.slice s16.a s16.n s16.c], 0, false⟩) := by rw [eh1]; exact look_push_new
  rw [← eh1] at k1
  have c1 := fun o => cell_of l1 o
  obtain ⟨g2, h2, k2, n2, l2, e2⟩ := tmp_row h1 [Value.int .i64 0, Value.int .i64 0, Value.int .i64 0, Value.int .i64 0, Value.int .i64 0, Value.int .u32 0, Value.int .u32 0, Value.int .u32 0, Value.slice none 0 0, Value.slice none 0 0] [Value.int .i64 x.a1, Value.int .i64 x.a2, Value.int .i64 x.a3, Value.int .i64 x.a4, Value.int .i64 x.a5, Value.int .u32 x.a6, Value.int .u32 x.a7, Value.int .u32 x.a8, Value.slice s9.a s9.n s9.c, Value.slice s10.a s10.n s10.c] rfl rfl rfl
  have m2 := k2.look l1 (by simp)
  have c2 := fun o => cell_of m2 o
  have kk2 := k1.trans k2 (by simp)
  have d_2 := fun o => cell_of l2 o
  have k3 := keep_push h2 (.row ⟨[Value.int .i64 x.a11, Value.int .i64 x.a1, Value.int .i64 x.a2, Value.int .i64 x.a3, Value.int .i64 x.a4, Value.int .i64 x.a5], 1, false⟩) []
  obtain ⟨h3, eh3⟩ : ∃ hh, hh = h2.push (.row ⟨[Value.int .i64 x.a11, Value.int .i64 x.a1, Value.int .i64 x.a2, Value.int .i64 x.a3, Value.int .i64 x.a4, Value.int .i64 x.a5], 1, false⟩) := ⟨_, rfl⟩
  have r_3 : Rdi h3 ⟨some ⟨h2.next, 0, none⟩, 6, 6⟩ [x.a11, x.a1, x.a2, x.a3, x.a4, x.a5] := by rw [eh3]; exact (Vec.new (z := 1) (n := 6) (cs := i64s [x.a11, x.a1, x.a2, x.a3, x.a4, x.a5]) rfl rfl).row
  rw [← eh3] at k3
  have m3 := k3.look m2 (by simp)
  have c3 := fun o => cell_of m3 o
  have o3 := k3.look l2 (by simp)
  have d3 := fun o => cell_of o3 o
  have kk3 := kk2.trans k3 (by simp)
  obtain ⟨h4, q4, k4, n4, v4, e4⟩ := halves_ref r_3 (by simp) hR
  have m4 := k4.look m3 (by simp)
  have c4 := fun o => cell_of m4 o
  have o4 := k4.look o3 (by simp)
  have d4 := fun o => cell_of o4 o
  have kk4 := kk3.trans k4 (by simp)
  have k5 := keep_push h4 (.row ⟨[Value.int .i64 ((s9.n : Nat) : Int), Value.int .i64 ((s10.n : Nat) : Int), Value.int .i64 ((s16.n : Nat) : Int), Value.int .i64 x.a12, Value.int .i64 x.a13], 1, false⟩) []
  obtain ⟨h5, eh5⟩ : ∃ hh, hh = h4.push (.row ⟨[Value.int .i64 ((s9.n : Nat) : Int), Value.int .i64 ((s10.n : Nat) : Int), Value.int .i64 ((s16.n : Nat) : Int), Value.int .i64 x.a12, Value.int .i64 x.a13], 1, false⟩) := ⟨_, rfl⟩
  have r_5 : Rdi h5 ⟨some ⟨h4.next, 0, none⟩, 5, 5⟩ [((s9.n : Nat) : Int), ((s10.n : Nat) : Int), ((s16.n : Nat) : Int), x.a12, x.a13] := by rw [eh5]; exact (Vec.new (z := 1) (n := 5) (cs := i64s [((s9.n : Nat) : Int), ((s10.n : Nat) : Int), ((s16.n : Nat) : Int), x.a12, x.a13]) rfl rfl).row
  rw [← eh5] at k5
  have m5 := k5.look m4 (by simp)
  have c5 := fun o => cell_of m5 o
  have o5 := k5.look o4 (by simp)
  have d5 := fun o => cell_of o5 o
  have kk5 := kk4.trans k5 (by simp)
  obtain ⟨h6, q6, k6, n6, v6, e6⟩ := halves_ref r_5 (by simp) hR
  have m6 := k6.look m5 (by simp)
  have c6 := fun o => cell_of m6 o
  have o6 := k6.look o5 (by simp)
  have d6 := fun o => cell_of o6 o
  have kk6 := kk5.trans k6 (by simp)
  have nn := cenW_eq x
  rw [← nr9, ← nr10, ← nr16] at nn
  cases hA : halP [x.a11, x.a1, x.a2, x.a3, x.a4, x.a5] with
  | none =>
    rw [hA] at nn e4
    rw [nn]
    refine ⟨h6, ⟨none, 0, 0⟩, kk6, by simp [rowsOf], fun ys hy => (by cases hy), fun β K => ?_⟩
    unfold F_ref24_Central
    rw [F_ref24_Central_gen]
    refine (gnew_eq rfl _).trans ?_
    rw [← eh1]
    try simp only [c1, Nat.zero_add, Nat.reduceAdd, Nat.add_zero, nth_s, nth_0, exI_s, exS_s', veqO_i, veqO_s, condT, sameAt_1]
    refine (e2 β _).trans ?_
    try simp only [c1, c2, d_2, Nat.zero_add, Nat.reduceAdd, Nat.add_zero, nth_s, nth_0, exI_s, exS_s', veqO_i, veqO_s, condT, sameAt_1]
    refine (gnew_eq rfl _).trans ?_
    rw [← eh3]
    refine (e4 β _).trans ?_
    try simp only [c1, c2, d_2, c3, d3, c4, d4, Nat.zero_add, Nat.reduceAdd, Nat.add_zero, nth_s, nth_0, exI_s, exS_s', veqO_i, veqO_s, condT, sameAt_1]
    refine (gnew_eq rfl _).trans ?_
    rw [← eh5]
    refine (e6 β _).trans ?_
    try simp only [c1, c2, d_2, c3, d3, c4, d4, c5, d5, c6, d6, Nat.zero_add, Nat.reduceAdd, Nat.add_zero, nth_s, nth_0, exI_s, exS_s', veqO_i, veqO_s, condT, sameAt_1]
    rfl
  | some p =>
    rw [hA] at nn e4 v4
    cases hB : halP [((s9.n : Nat) : Int), ((s10.n : Nat) : Int), ((s16.n : Nat) : Int), x.a12, x.a13] with
    | none =>
      rw [hB] at nn e6
      rw [nn]
      refine ⟨h6, ⟨none, 0, 0⟩, kk6, by simp [rowsOf], fun ys hy => (by cases hy), fun β K => ?_⟩
      unfold F_ref24_Central
      rw [F_ref24_Central_gen]
      refine (gnew_eq rfl _).trans ?_
      rw [← eh1]
      try simp only [c1, Nat.zero_add, Nat.reduceAdd, Nat.add_zero, nth_s, nth_0, exI_s, exS_s', veqO_i, veqO_s, condT, sameAt_1]
      refine (e2 β _).trans ?_
      try simp only [c1, c2, d_2, Nat.zero_add, Nat.reduceAdd, Nat.add_zero, nth_s, nth_0, exI_s, exS_s', veqO_i, veqO_s, condT, sameAt_1]
      refine (gnew_eq rfl _).trans ?_
      rw [← eh3]
      refine (e4 β _).trans ?_
      try simp only [c1, c2, d_2, c3, d3, c4, d4, Nat.zero_add, Nat.reduceAdd, Nat.add_zero, nth_s, nth_0, exI_s, exS_s', veqO_i, veqO_s, condT, sameAt_1]
      refine (gnew_eq rfl _).trans ?_
      rw [← eh5]
      refine (e6 β _).trans ?_
      try simp only [c1, c2, d_2, c3, d3, c4, d4, c5, d5, c6, d6, Nat.zero_add, Nat.reduceAdd, Nat.add_zero, nth_s, nth_0, exI_s, exS_s', veqO_i, veqO_s, condT, sameAt_1]
      rfl
    | some q =>
      rw [hB] at nn e6 v6
      have pA := halP_len _ _ hA
      have pB := halP_len _ _ hB
      simp only [List.length_cons, List.length_nil] at pA pB
      have vA := v4 p rfl
      have vB := v6 q rfl
      have k7 := keep_push h6 (.row ⟨[Value.int .u32 33639248], 1, false⟩) []
      obtain ⟨h7, eh7⟩ : ∃ hh, hh = h6.push (.row ⟨[Value.int .u32 33639248], 1, false⟩) := ⟨_, rfl⟩
      have r_7 : Row h7 ⟨some ⟨h6.next, 0, none⟩, 1, 1⟩ 1 (u32s [33639248]) := by rw [eh7]; exact (Vec.new (z := 1) (n := 1) (cs := u32s [33639248]) rfl rfl).row
      rw [← eh7] at k7
      have m7 := k7.look m6 (by simp)
      have c7 := fun o => cell_of m7 o
      have o7 := k7.look o6 (by simp)
      have d7 := fun o => cell_of o7 o
      have kk7 := kk6.trans k7 (by simp)
      obtain ⟨h8, q8, j8, e8⟩ := words_ref r_7 (by simp) (by simp) hR
      have k8 := j8.keep
      have m8 := k8.look m7 (by simp)
      have c8 := fun o => cell_of m8 o
      have o8 := k8.look o7 (by simp)
      have d8 := fun o => cell_of o8 o
      have kk8 := kk7.trans k8 (by simp)
      have k9 := keep_push h8 (.row ⟨[Value.int .u32 x.a6, Value.int .u32 x.a7, Value.int .u32 x.a8], 1, false⟩) []
      obtain ⟨h9, eh9⟩ : ∃ hh, hh = h8.push (.row ⟨[Value.int .u32 x.a6, Value.int .u32 x.a7, Value.int .u32 x.a8], 1, false⟩) := ⟨_, rfl⟩
      have r_9 : Row h9 ⟨some ⟨h8.next, 0, none⟩, 3, 3⟩ 1 (u32s [x.a6, x.a7, x.a8]) := by rw [eh9]; exact (Vec.new (z := 1) (n := 3) (cs := u32s [x.a6, x.a7, x.a8]) rfl rfl).row
      rw [← eh9] at k9
      have m9 := k9.look m8 (by simp)
      have c9 := fun o => cell_of m9 o
      have o9 := k9.look o8 (by simp)
      have d9 := fun o => cell_of o9 o
      have kk9 := kk8.trans k9 (by simp)
      obtain ⟨h10, q10, j10, e10⟩ := words_ref r_9 (by simp; omega) (by simp) hR
      have k10 := j10.keep
      have m10 := k10.look m9 (by simp)
      have c10 := fun o => cell_of m10 o
      have o10 := k10.look o9 (by simp)
      have d10 := fun o => cell_of o10 o
      have kk10 := kk9.trans k10 (by simp)
      have k11 := keep_push h10 (.row ⟨[Value.int .u32 x.a14, Value.int .u32 x.a15], 1, false⟩) []
      obtain ⟨h11, eh11⟩ : ∃ hh, hh = h10.push (.row ⟨[Value.int .u32 x.a14, Value.int .u32 x.a15], 1, false⟩) := ⟨_, rfl⟩
      have r_11 : Row h11 ⟨some ⟨h10.next, 0, none⟩, 2, 2⟩ 1 (u32s [x.a14, x.a15]) := by rw [eh11]; exact (Vec.new (z := 1) (n := 2) (cs := u32s [x.a14, x.a15]) rfl rfl).row
      rw [← eh11] at k11
      have m11 := k11.look m10 (by simp)
      have c11 := fun o => cell_of m11 o
      have o11 := k11.look o10 (by simp)
      have d11 := fun o => cell_of o11 o
      have kk11 := kk10.trans k11 (by simp)
      obtain ⟨h12, q12, j12, e12⟩ := words_ref r_11 (by simp; omega) (by simp) hR
      have k12 := j12.keep
      have m12 := k12.look m11 (by simp)
      have c12 := fun o => cell_of m12 o
      have o12 := k12.look o11 (by simp)
      have d12 := fun o => cell_of o12 o
      have kk12 := kk11.trans k12 (by simp)
      have k13 := keep_push h12 (.row ⟨[Value.slice q8.a q8.n q8.c, Value.slice q4.a q4.n q4.c, Value.slice q10.a q10.n q10.c, Value.slice q6.a q6.n q6.c, Value.slice q12.a q12.n q12.c, Value.slice s9.a s9.n s9.c, Value.slice s10.a s10.n s10.c, Value.slice s16.a s16.n s16.c], 1, false⟩) []
      obtain ⟨h13, eh13⟩ : ∃ hh, hh = h12.push (.row ⟨[Value.slice q8.a q8.n q8.c, Value.slice q4.a q4.n q4.c, Value.slice q10.a q10.n q10.c, Value.slice q6.a q6.n q6.c, Value.slice q12.a q12.n q12.c, Value.slice s9.a s9.n s9.c, Value.slice s10.a s10.n s10.c, Value.slice s16.a s16.n s16.c], 1, false⟩) := ⟨_, rfl⟩
      have r_13 : Row h13 ⟨some ⟨h12.next, 0, none⟩, 8, 8⟩ 1 (sls [(q8, worP [33639248]), (q4, p), (q10, worP [x.a6, x.a7, x.a8]), (q6, q), (q12, worP [x.a14, x.a15]), (s9, x.nm), (s10, x.ex), (s16, x.cm)]) := by rw [eh13]; exact (Vec.new (z := 1) (n := 8) (cs := sls [(q8, worP [33639248]), (q4, p), (q10, worP [x.a6, x.a7, x.a8]), (q6, q), (q12, worP [x.a14, x.a15]), (s9, x.nm), (s10, x.ex), (s16, x.cm)]) rfl rfl).row
      rw [← eh13] at k13
      have m13 := k13.look m12 (by simp)
      have c13 := fun o => cell_of m13 o
      have o13 := k13.look o12 (by simp)
      have d13 := fun o => cell_of o13 o
      have kk13 := kk12.trans k13 (by simp)
      have z0 : Rd h13 q8 (worP [33639248]) := Row.keep (Row.keep (Row.keep (Row.keep (Row.keep (j8.v.row) k9 (by simp)) k10 (by simp)) k11 (by simp)) k12 (by simp)) k13 (by simp)
      have z1 : Rd h13 q4 (p) := Row.keep (Row.keep (Row.keep (Row.keep (Row.keep (Row.keep (Row.keep (Row.keep (Row.keep (vA.row) k5 (by simp)) k6 (by simp)) k7 (by simp)) k8 (by simp)) k9 (by simp)) k10 (by simp)) k11 (by simp)) k12 (by simp)) k13 (by simp)
      have z2 : Rd h13 q10 (worP [x.a6, x.a7, x.a8]) := Row.keep (Row.keep (Row.keep (j10.v.row) k11 (by simp)) k12 (by simp)) k13 (by simp)
      have z3 : Rd h13 q6 (q) := Row.keep (Row.keep (Row.keep (Row.keep (Row.keep (Row.keep (Row.keep (vB.row) k7 (by simp)) k8 (by simp)) k9 (by simp)) k10 (by simp)) k11 (by simp)) k12 (by simp)) k13 (by simp)
      have z4 : Rd h13 q12 (worP [x.a14, x.a15]) := Row.keep (j12.v.row) k13 (by simp)
      have z5 : Rd h13 s9 (x.nm) := r9.keep kk13 (by simp)
      have z6 : Rd h13 s10 (x.ex) := r10.keep kk13 (by simp)
      have z7 : Rd h13 s16 (x.cm) := r16.keep kk13 (by simp)
      have hps : ∀ w ∈ ([(q8, worP [33639248]), (q4, p), (q10, worP [x.a6, x.a7, x.a8]), (q6, q), (q12, worP [x.a14, x.a15]), (s9, x.nm), (s10, x.ex), (s16, x.cm)] : List (Sl × List Int)), Rd h13 w.1 w.2 ∧ w.2.length ≤ 1000000 := by
        intro w hw
        simp only [List.mem_cons, List.not_mem_nil, or_false] at hw
        rcases hw with rfl | rfl | rfl | rfl | rfl | rfl | rfl | rfl
        · exact ⟨z0, by rw [worP_len]; simp⟩
        · exact ⟨z1, by show (p).length ≤ _; omega⟩
        · exact ⟨z2, by rw [worP_len]; simp⟩
        · exact ⟨z3, by show (q).length ≤ _; omega⟩
        · exact ⟨z4, by rw [worP_len]; simp⟩
        · exact ⟨z5, by show (x.nm).length ≤ _; omega⟩
        · exact ⟨z6, by show (x.ex).length ≤ _; omega⟩
        · exact ⟨z7, by show (x.cm).length ≤ _; omega⟩
      obtain ⟨h14, q14, j14, e14⟩ := join_ref r_13 hps (by simp) hR
      have k14 := j14.keep
      have hcat : cenW x = some (catP [(q8, worP [33639248]), (q4, p), (q10, worP [x.a6, x.a7, x.a8]), (q6, q), (q12, worP [x.a14, x.a15]), (s9, x.nm), (s10, x.ex), (s16, x.cm)]) := by
        rw [nn]; simp only [Option.bind_some, Option.map_some, catP, worP, List.flatMap_cons, List.flatMap_nil, List.append_nil, List.append_assoc]
      have bk := kk13.1
      rw [hcat]
      refine ⟨h14, q14, kk13.trans k14 (by simp), fun z hz => by have := j14.n z hz; omega, fun ys hy => by cases hy; exact j14.v, fun β K => ?_⟩
      unfold F_ref24_Central
      rw [F_ref24_Central_gen]
      refine (gnew_eq rfl _).trans ?_
      rw [← eh1]
      try simp only [c1, Nat.zero_add, Nat.reduceAdd, Nat.add_zero, nth_s, nth_0, exI_s, exS_s', veqO_i, veqO_s, condT, sameAt_1]
      refine (e2 β _).trans ?_
      try simp only [c1, c2, d_2, Nat.zero_add, Nat.reduceAdd, Nat.add_zero, nth_s, nth_0, exI_s, exS_s', veqO_i, veqO_s, condT, sameAt_1]
      refine (gnew_eq rfl _).trans ?_
      rw [← eh3]
      refine (e4 β _).trans ?_
      try simp only [c1, c2, d_2, c3, d3, c4, d4, Nat.zero_add, Nat.reduceAdd, Nat.add_zero, nth_s, nth_0, exI_s, exS_s', veqO_i, veqO_s, condT, sameAt_1]
      refine (gnew_eq rfl _).trans ?_
      rw [← eh5]
      refine (e6 β _).trans ?_
      try simp only [c1, c2, d_2, c3, d3, c4, d4, c5, d5, c6, d6, Nat.zero_add, Nat.reduceAdd, Nat.add_zero, nth_s, nth_0, exI_s, exS_s', veqO_i, veqO_s, condT, sameAt_1]
      rw [show (!(some p).isSome) = false from rfl, show (!(some q).isSome) = false from rfl, condF, condF, show (bif (some p).isSome then q4 else ⟨none, 0, 0⟩) = q4 from rfl, show (bif (some q).isSome then q6 else ⟨none, 0, 0⟩) = q6 from rfl]
      refine (gnew_eq rfl _).trans ?_
      rw [← eh7]
      refine (e8 β _).trans ?_
      try simp only [c1, c2, d_2, c3, d3, c4, d4, c5, d5, c6, d6, c7, d7, c8, d8, Nat.zero_add, Nat.reduceAdd, Nat.add_zero, nth_s, nth_0, exI_s, exS_s', veqO_i, veqO_s, condT, sameAt_1]
      refine (gnew_eq rfl _).trans ?_
      rw [← eh9]
      refine (e10 β _).trans ?_
      try simp only [c1, c2, d_2, c3, d3, c4, d4, c5, d5, c6, d6, c7, d7, c8, d8, c9, d9, c10, d10, Nat.zero_add, Nat.reduceAdd, Nat.add_zero, nth_s, nth_0, exI_s, exS_s', veqO_i, veqO_s, condT, sameAt_1]
      refine (gnew_eq rfl _).trans ?_
      rw [← eh11]
      refine (e12 β _).trans ?_
      try simp only [c1, c2, d_2, c3, d3, c4, d4, c5, d5, c6, d6, c7, d7, c8, d8, c9, d9, c10, d10, c11, d11, c12, d12, Nat.zero_add, Nat.reduceAdd, Nat.add_zero, nth_s, nth_0, exI_s, exS_s', veqO_i, veqO_s, condT, sameAt_1]
      refine (gnew_eq rfl _).trans ?_
      rw [← eh13]
      refine (e14 β _).trans ?_
      try simp only [c1, c2, d_2, c3, d3, c4, d4, c5, d5, c6, d6, c7, d7, c8, d8, c9, d9, c10, d10, c11, d11, c12, d12, c13, d13, Nat.zero_add, Nat.reduceAdd, Nat.add_zero, nth_s, nth_0, exI_s, exS_s', veqO_i, veqO_s, condT, sameAt_1]
      rfl
set_option maxHeartbeats 4000000 in
theorem end_ref {h : GH} (x : En) {s7 : Sl} (r7 : Rd h s7 x.cm) (hc : x.cm.length ≤ 1000000) (u5 : 0 ≤ x.b5 ∧ x.b5 ≤ 4294967295) (u6 : 0 ≤ x.b6 ∧ x.b6 ≤ 4294967295) {R : Nat} (hR : 4000 < R) :
    ∃ h' q, Keep h h' [] ∧ (∀ z ∈ rowsOf q, h.next ≤ z) ∧ (∀ ys, endW x = some ys → Bv h' q ys) ∧ ∀ (β : Type) (K : Sl → Int → GH → Option β), F_ref24_End R x.b1 x.b2 x.b3 x.b4 x.b5 x.b6 s7 h K = K q (if (endW x).isSome then 0 else 18) h' := by
  have nr7 := r7.n
  have k1 := keep_push h (.row ⟨[Value.int .i64 x.b1, Value.int .i64 x.b2, Value.int .i64 x.b3, Value.int .i64 x.b4, Value.int .u32 x.b5, Value.int .u32 x.b6, Value.slice s7.a s7.n s7.c], 0, false⟩) []
  obtain ⟨h1, eh1⟩ : ∃ h1, h1 = h.push (.row ⟨[Value.int .i64 x.b1, Value.int .i64 x.b2, Value.int .i64 x.b3, Value.int .i64 x.b4, Value.int .u32 x.b5, Value.int .u32 x.b6, Value.slice s7.a s7.n s7.c], 0, false⟩) := ⟨_, rfl⟩
  have l1 : h1.look h.next = some (.row ⟨[Value.int .i64 x.b1, Value.int .i64 x.b2, Value.int .i64 x.b3, Value.int .i64 x.b4, Value.int .u32 x.b5, Value.int .u32 x.b6, Value.slice s7.a s7.n s7.c], 0, false⟩) := by rw [eh1]; exact look_push_new
  rw [← eh1] at k1
  have c1 := fun o => cell_of l1 o
  have k2 := keep_push h1 (.row ⟨[Value.int .i64 x.b1, Value.int .i64 x.b2, Value.int .i64 x.b3, Value.int .i64 x.b4], 1, false⟩) []
  obtain ⟨h2, eh2⟩ : ∃ hh, hh = h1.push (.row ⟨[Value.int .i64 x.b1, Value.int .i64 x.b2, Value.int .i64 x.b3, Value.int .i64 x.b4], 1, false⟩) := ⟨_, rfl⟩
  have r_2 : Rdi h2 ⟨some ⟨h1.next, 0, none⟩, 4, 4⟩ [x.b1, x.b2, x.b3, x.b4] := by rw [eh2]; exact (Vec.new (z := 1) (n := 4) (cs := i64s [x.b1, x.b2, x.b3, x.b4]) rfl rfl).row
  rw [← eh2] at k2
  have m2 := k2.look l1 (by simp)
  have c2 := fun o => cell_of m2 o
  have kk2 := k1.trans k2 (by simp)
  obtain ⟨h3, q3, k3, n3, v3, e3⟩ := halves_ref r_2 (by simp) hR
  have m3 := k3.look m2 (by simp)
  have c3 := fun o => cell_of m3 o
  have kk3 := kk2.trans k3 (by simp)
  have k4 := keep_push h3 (.row ⟨[Value.int .i64 ((s7.n : Nat) : Int)], 1, false⟩) []
  obtain ⟨h4, eh4⟩ : ∃ hh, hh = h3.push (.row ⟨[Value.int .i64 ((s7.n : Nat) : Int)], 1, false⟩) := ⟨_, rfl⟩
  have r_4 : Rdi h4 ⟨some ⟨h3.next, 0, none⟩, 1, 1⟩ [((s7.n : Nat) : Int)] := by rw [eh4]; exact (Vec.new (z := 1) (n := 1) (cs := i64s [((s7.n : Nat) : Int)]) rfl rfl).row
  rw [← eh4] at k4
  have m4 := k4.look m3 (by simp)
  have c4 := fun o => cell_of m4 o
  have kk4 := kk3.trans k4 (by simp)
  obtain ⟨h5, q5, k5, n5, v5, e5⟩ := halves_ref r_4 (by simp) hR
  have m5 := k5.look m4 (by simp)
  have c5 := fun o => cell_of m5 o
  have kk5 := kk4.trans k5 (by simp)
  have nn := endW_eq x
  rw [← nr7] at nn
  cases hA : halP [x.b1, x.b2, x.b3, x.b4] with
  | none =>
    rw [hA] at nn e3
    rw [nn]
    refine ⟨h5, ⟨none, 0, 0⟩, kk5, by simp [rowsOf], fun ys hy => (by cases hy), fun β K => ?_⟩
    unfold F_ref24_End
    rw [F_ref24_End_gen]
    refine (gnew_eq rfl _).trans ?_
    rw [← eh1]
    try simp only [c1, Nat.zero_add, Nat.reduceAdd, Nat.add_zero, nth_s, nth_0, exI_s, exS_s', veqO_i, veqO_s, condT, sameAt_1]
    refine (gnew_eq rfl _).trans ?_
    rw [← eh2]
    refine (e3 β _).trans ?_
    try simp only [c1, c2, c3, Nat.zero_add, Nat.reduceAdd, Nat.add_zero, nth_s, nth_0, exI_s, exS_s', veqO_i, veqO_s, condT, sameAt_1]
    refine (gnew_eq rfl _).trans ?_
    rw [← eh4]
    refine (e5 β _).trans ?_
    try simp only [c1, c2, c3, c4, c5, Nat.zero_add, Nat.reduceAdd, Nat.add_zero, nth_s, nth_0, exI_s, exS_s', veqO_i, veqO_s, condT, sameAt_1]
    rfl
  | some p =>
    rw [hA] at nn e3 v3
    cases hB : halP [((s7.n : Nat) : Int)] with
    | none =>
      rw [hB] at nn e5
      rw [nn]
      refine ⟨h5, ⟨none, 0, 0⟩, kk5, by simp [rowsOf], fun ys hy => (by cases hy), fun β K => ?_⟩
      unfold F_ref24_End
      rw [F_ref24_End_gen]
      refine (gnew_eq rfl _).trans ?_
      rw [← eh1]
      try simp only [c1, Nat.zero_add, Nat.reduceAdd, Nat.add_zero, nth_s, nth_0, exI_s, exS_s', veqO_i, veqO_s, condT, sameAt_1]
      refine (gnew_eq rfl _).trans ?_
      rw [← eh2]
      refine (e3 β _).trans ?_
      try simp only [c1, c2, c3, Nat.zero_add, Nat.reduceAdd, Nat.add_zero, nth_s, nth_0, exI_s, exS_s', veqO_i, veqO_s, condT, sameAt_1]
      refine (gnew_eq rfl _).trans ?_
      rw [← eh4]
      refine (e5 β _).trans ?_
      try simp only [c1, c2, c3, c4, c5, Nat.zero_add, Nat.reduceAdd, Nat.add_zero, nth_s, nth_0, exI_s, exS_s', veqO_i, veqO_s, condT, sameAt_1]
      rfl
    | some q =>
      rw [hB] at nn e5 v5
      have pA := halP_len _ _ hA
      have pB := halP_len _ _ hB
      simp only [List.length_cons, List.length_nil] at pA pB
      have vA := v3 p rfl
      have vB := v5 q rfl
      have k6 := keep_push h5 (.row ⟨[Value.int .u32 101010256], 1, false⟩) []
      obtain ⟨h6, eh6⟩ : ∃ hh, hh = h5.push (.row ⟨[Value.int .u32 101010256], 1, false⟩) := ⟨_, rfl⟩
      have r_6 : Row h6 ⟨some ⟨h5.next, 0, none⟩, 1, 1⟩ 1 (u32s [101010256]) := by rw [eh6]; exact (Vec.new (z := 1) (n := 1) (cs := u32s [101010256]) rfl rfl).row
      rw [← eh6] at k6
      have m6 := k6.look m5 (by simp)
      have c6 := fun o => cell_of m6 o
      have kk6 := kk5.trans k6 (by simp)
      obtain ⟨h7, q7, j7, e7⟩ := words_ref r_6 (by simp) (by simp) hR
      have k7 := j7.keep
      have m7 := k7.look m6 (by simp)
      have c7 := fun o => cell_of m7 o
      have kk7 := kk6.trans k7 (by simp)
      have k8 := keep_push h7 (.row ⟨[Value.int .u32 x.b5, Value.int .u32 x.b6], 1, false⟩) []
      obtain ⟨h8, eh8⟩ : ∃ hh, hh = h7.push (.row ⟨[Value.int .u32 x.b5, Value.int .u32 x.b6], 1, false⟩) := ⟨_, rfl⟩
      have r_8 : Row h8 ⟨some ⟨h7.next, 0, none⟩, 2, 2⟩ 1 (u32s [x.b5, x.b6]) := by rw [eh8]; exact (Vec.new (z := 1) (n := 2) (cs := u32s [x.b5, x.b6]) rfl rfl).row
      rw [← eh8] at k8
      have m8 := k8.look m7 (by simp)
      have c8 := fun o => cell_of m8 o
      have kk8 := kk7.trans k8 (by simp)
      obtain ⟨h9, q9, j9, e9⟩ := words_ref r_8 (by simp; omega) (by simp) hR
      have k9 := j9.keep
      have m9 := k9.look m8 (by simp)
      have c9 := fun o => cell_of m9 o
      have kk9 := kk8.trans k9 (by simp)
      have k10 := keep_push h9 (.row ⟨[Value.slice q7.a q7.n q7.c, Value.slice q3.a q3.n q3.c, Value.slice q9.a q9.n q9.c, Value.slice q5.a q5.n q5.c, Value.slice s7.a s7.n s7.c], 1, false⟩) []
      obtain ⟨h10, eh10⟩ : ∃ hh, hh = h9.push (.row ⟨[Value.slice q7.a q7.n q7.c, Value.slice q3.a q3.n q3.c, Value.slice q9.a q9.n q9.c, Value.slice q5.a q5.n q5.c, Value.slice s7.a s7.n s7.c], 1, false⟩) := ⟨_, rfl⟩
      have r_10 : Row h10 ⟨some ⟨h9.next, 0, none⟩, 5, 5⟩ 1 (sls [(q7, worP [101010256]), (q3, p), (q9, worP [x.b5, x.b6]), (q5, q), (s7, x.cm)]) := by rw [eh10]; exact (Vec.new (z := 1) (n := 5) (cs := sls [(q7, worP [101010256]), (q3, p), (q9, worP [x.b5, x.b6]), (q5, q), (s7, x.cm)]) rfl rfl).row
      rw [← eh10] at k10
      have m10 := k10.look m9 (by simp)
      have c10 := fun o => cell_of m10 o
      have kk10 := kk9.trans k10 (by simp)
      have z0 : Rd h10 q7 (worP [101010256]) := Row.keep (Row.keep (Row.keep (j7.v.row) k8 (by simp)) k9 (by simp)) k10 (by simp)
      have z1 : Rd h10 q3 (p) := Row.keep (Row.keep (Row.keep (Row.keep (Row.keep (Row.keep (Row.keep (vA.row) k4 (by simp)) k5 (by simp)) k6 (by simp)) k7 (by simp)) k8 (by simp)) k9 (by simp)) k10 (by simp)
      have z2 : Rd h10 q9 (worP [x.b5, x.b6]) := Row.keep (j9.v.row) k10 (by simp)
      have z3 : Rd h10 q5 (q) := Row.keep (Row.keep (Row.keep (Row.keep (Row.keep (vB.row) k6 (by simp)) k7 (by simp)) k8 (by simp)) k9 (by simp)) k10 (by simp)
      have z4 : Rd h10 s7 (x.cm) := r7.keep kk10 (by simp)
      have hps : ∀ w ∈ ([(q7, worP [101010256]), (q3, p), (q9, worP [x.b5, x.b6]), (q5, q), (s7, x.cm)] : List (Sl × List Int)), Rd h10 w.1 w.2 ∧ w.2.length ≤ 1000000 := by
        intro w hw
        simp only [List.mem_cons, List.not_mem_nil, or_false] at hw
        rcases hw with rfl | rfl | rfl | rfl | rfl
        · exact ⟨z0, by rw [worP_len]; simp⟩
        · exact ⟨z1, by show (p).length ≤ _; omega⟩
        · exact ⟨z2, by rw [worP_len]; simp⟩
        · exact ⟨z3, by show (q).length ≤ _; omega⟩
        · exact ⟨z4, by show (x.cm).length ≤ _; omega⟩
      obtain ⟨h11, q11, j11, e11⟩ := join_ref r_10 hps (by simp) hR
      have k11 := j11.keep
      have hcat : endW x = some (catP [(q7, worP [101010256]), (q3, p), (q9, worP [x.b5, x.b6]), (q5, q), (s7, x.cm)]) := by
        rw [nn]; simp only [Option.bind_some, Option.map_some, catP, worP, List.flatMap_cons, List.flatMap_nil, List.append_nil, List.append_assoc]
      have bk := kk10.1
      rw [hcat]
      refine ⟨h11, q11, kk10.trans k11 (by simp), fun z hz => by have := j11.n z hz; omega, fun ys hy => by cases hy; exact j11.v, fun β K => ?_⟩
      unfold F_ref24_End
      rw [F_ref24_End_gen]
      refine (gnew_eq rfl _).trans ?_
      rw [← eh1]
      try simp only [c1, Nat.zero_add, Nat.reduceAdd, Nat.add_zero, nth_s, nth_0, exI_s, exS_s', veqO_i, veqO_s, condT, sameAt_1]
      refine (gnew_eq rfl _).trans ?_
      rw [← eh2]
      refine (e3 β _).trans ?_
      try simp only [c1, c2, c3, Nat.zero_add, Nat.reduceAdd, Nat.add_zero, nth_s, nth_0, exI_s, exS_s', veqO_i, veqO_s, condT, sameAt_1]
      refine (gnew_eq rfl _).trans ?_
      rw [← eh4]
      refine (e5 β _).trans ?_
      try simp only [c1, c2, c3, c4, c5, Nat.zero_add, Nat.reduceAdd, Nat.add_zero, nth_s, nth_0, exI_s, exS_s', veqO_i, veqO_s, condT, sameAt_1]
      rw [show (!(some p).isSome) = false from rfl, show (!(some q).isSome) = false from rfl, condF, condF, show (bif (some p).isSome then q3 else ⟨none, 0, 0⟩) = q3 from rfl, show (bif (some q).isSome then q5 else ⟨none, 0, 0⟩) = q5 from rfl]
      refine (gnew_eq rfl _).trans ?_
      rw [← eh6]
      refine (e7 β _).trans ?_
      try simp only [c1, c2, c3, c4, c5, c6, c7, Nat.zero_add, Nat.reduceAdd, Nat.add_zero, nth_s, nth_0, exI_s, exS_s', veqO_i, veqO_s, condT, sameAt_1]
      refine (gnew_eq rfl _).trans ?_
      rw [← eh8]
      refine (e9 β _).trans ?_
      try simp only [c1, c2, c3, c4, c5, c6, c7, c8, c9, Nat.zero_add, Nat.reduceAdd, Nat.add_zero, nth_s, nth_0, exI_s, exS_s', veqO_i, veqO_s, condT, sameAt_1]
      refine (gnew_eq rfl _).trans ?_
      rw [← eh10]
      refine (e11 β _).trans ?_
      try simp only [c1, c2, c3, c4, c5, c6, c7, c8, c9, c10, Nat.zero_add, Nat.reduceAdd, Nat.add_zero, nth_s, nth_0, exI_s, exS_s', veqO_i, veqO_s, condT, sameAt_1]
      rfl
end Go.Proofs.Ytibngikhlgmhaaa.Gx

