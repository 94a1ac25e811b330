/- update.names walked: of each name, folded, the first or the last place. No condition. -/
import Derived.Test.YtgobiibalepaaaaGNames
import Derived.Test.YtgobiibalepaaaaGUpdS
namespace Go.Proofs.Ytgobiibalepaaaa.Q
open Go.RowKit Go.Maps Go.Proofs.YtgobiibalepaaaaW.PrintWords Go.Proofs.YtgobiibalepaaaaW.PrintLast Go.Proofs.YtgobiibalepaaaaW.PrintMore
set_option linter.unusedVariables false

theorem thg_plain {w : World} {A : Option Addr} {l : List Uhg} (h : Kd.C k54 w A l.length l) {k : Nat} (hk : k < l.length) :
    ∃ b o A0 c0, A = some ⟨b, o, none⟩ ∧ b < w.heap.size ∧ w.cell? ⟨b, o + k * 3, none⟩ = some (.slice A0 (rd_T54 l (k : Int)).f0.length c0) ∧ w.cell? ⟨b, o + k * 3 + 1, none⟩ = some (.int .i64 (rd_T54 l (k : Int)).f1) ∧ w.cell? ⟨b, o + k * 3 + 2, none⟩ = some (.int .i64 (rd_T54 l (k : Int)).f2) ∧
      (rd_T54 l (k : Int)).f0.length ≤ c0 ∧ (Kd.int .u8).C w A0 (rd_T54 l (k : Int)).f0.length (rd_T54 l (k : Int)).f0 := by
  obtain ⟨ad, A0, c0, rfl, h1, h2, h3, h4, h5⟩ := at_T54 h (k : Int) (by omega) (by omega)
  obtain ⟨b, o, sp⟩ := ad
  have hsp : sp = none := by
    obtain ⟨ad2, _, _, hA2, h1', _⟩ := at_T54 h 0 (by omega) (by omega)
    injection hA2 with hA2
    subst hA2
    simpa [Addr.add] using World.cell?_spot h1'
  subst hsp
  have e : (⟨b, o, none⟩ : Addr).add ((k : Int).toNat * 3) = ⟨b, o + k * 3, none⟩ := by
    unfold Addr.add; split <;> simp_all
  rw [e] at h1 h2 h3
  exact ⟨b, o, A0, c0, rfl, World.block_lt_of_cell? w _ h1, h1, h2, h3, h4, h5⟩
theorem thingsOk_rd {l : List Uhg} (h : thingsOk l = true) {k : Nat} (hk : k < l.length) : KeyOk (rd_T54 l (k : Int)).f0 := by
  have e : rd_T54 l (k : Int) = l[k] := by
    show l.getD k _ = _
    simp [List.getD_eq_getElem?_getD, hk]
  rw [e]
  unfold thingsOk at h
  rw [Bool.and_eq_true, List.all_eq_true] at h
  have := h.2 l[k] (List.getElem_mem hk)
  rw [Bool.and_eq_true] at this
  exact ⟨this.2, of_decide_eq_true this.1⟩
theorem thingsOk_len {l : List Uhg} (h : thingsOk l = true) : l.length ≤ 1000 := by
  unfold thingsOk at h
  rw [Bool.and_eq_true] at h
  exact of_decide_eq_true h.1
theorem keysT_at {l : List Uhg} {k : Nat} (hk : k < l.length) : (keysT l).getD k [] = foldN (rd_T54 l (k : Int)).f0 := by
  have e : rd_T54 l (k : Int) = l[k] := by
    show l.getD k _ = _
    simp [List.getD_eq_getElem?_getD, hk]
  rw [e, List.getD_eq_getElem?_getD]
  simp [keysT, hk]
theorem run_makeMapN {P : Program} {t k e : TypeId} (ht : P.underlying t = some (.map k e)) (n : Nat) (w : World) : (Instr.makeMap t (some (.int .i64 n))).run P w = .ok (.map (some w.heap.size)) (w.alloc (.map #[] 0)) := by
  simp [Instr.makeMap, run_underlying ht, asInt]
  rfl
theorem foldAll_n (w : World) (A : Option Addr) (n c : Nat) (l : List Int) (hn : n = l.length) (h : Kd.C (Kd.int .u8) w A l.length l) (hc : l.length ≤ c) (hb : bytesOk l = true) (hl : l.length ≤ 1000) :
    Calls Try.prog 24 #[.slice A n c] w fun e w' => ∃ v, e = .returned v ∧ Kd.R (Kd.int .u8) 5 w' w.heap.size (fun _ => True) v (foldN l) ∧ Below w.heap.size w w' := by
  subst hn
  exact foldAll_any w A c l h hc hb hl
theorem keyOk_fold {l : List Int} (h : KeyOk l) : KeyOk (foldN l) := ⟨foldN_ok h.1, by rw [foldN_len]; exact h.2⟩
theorem pick_put {last : Bool} {ks : List (List Int)} {k : Nat} (h : (pickU last ks (ks.getD k []) k).isSome = false ∨ last = true) :
    (fun ls => if ls = ks.getD k [] then some k else pickU last ks ls k) = fun ls => pickU last ks ls (k + 1) := by
  funext ls
  cases last with
  | true =>
    simp only [pickU, if_true, lstU]
    by_cases e : ls = ks.getD k []
    · rw [if_pos e, if_pos e.symm]
    · rw [if_neg e, if_neg (fun h => e h.symm)]
  | false =>
    have h := h.resolve_right (by simp)
    simp only [pickU, Bool.false_eq_true, if_false] at h ⊢
    rw [fstU]
    by_cases e : ls = ks.getD k []
    · subst e
      rw [if_pos rfl]
      cases hc : fstU ks (ks.getD k []) k with
      | none => rw [if_pos rfl]
      | some j => rw [hc] at h; cases h
    · rw [if_neg e]
      cases hc : fstU ks ls k with
      | none => rw [if_neg (fun h => e h.symm)]
      | some j => rfl
theorem pick_same {ks : List (List Int)} {k : Nat} (h : (pickU false ks (ks.getD k []) k).isSome = true) : (fun ls => pickU false ks ls k) = fun ls => pickU false ks ls (k + 1) := by
  funext ls
  simp only [pickU, Bool.false_eq_true, if_false] at h ⊢
  rw [fstU]
  cases hc : fstU ks ls k with
  | some j => rfl
  | none =>
    by_cases e : ls = ks.getD k []
    · subst e; rw [hc] at h; cases h
    · rw [if_neg (fun h => e h.symm)]
set_option maxHeartbeats 4000000 in
theorem names_any (w : World) (A : Option Addr) (c : Nat) (l : List Uhg) (last : Bool) (h : Kd.C k54 w A l.length l) (hc : l.length ≤ c) (hok : thingsOk l = true) :
    Calls Try.prog 17 #[.slice A l.length c, .bool last] w fun e w' => ∃ g, e = .returned (.map (some g)) ∧ Below w.heap.size w w' ∧ w.heap.size ≤ g ∧ MapS w' g l.length (fun ks => pickU last (keysT l) ks l.length) := by
  have hl := thingsOk_len hok
  have H := hide h
  have HO := hide hok
  clear h hok
  obtain ⟨n, hN⟩ : ∃ n, n = l.length := ⟨_, rfl⟩
  have hmm := run_makeMapN Try.underlying48
  rw [← hN] at hl hc ⊢
  replace hN := hide hN
  go_enter Try.func17, Try.ntmps17
  go_wp2_with fail
  go_loopw [16] (fun v16 wr => ∃ (k m : Nat), v16 = .int .i64 k ∧ k ≤ n ∧ m ≤ k ∧ Below w.heap.size w wr ∧ MapS wr w.heap.size m (fun ks => pickU last (keysT l) ks k)) (fun v16 _ => n - (intOf v16).toNat)
  case atStart => exact ⟨0, 0, rfl, by omega, by omega, (Below.refl _ _).alloc (Nat.le_refl _) _, by
    have := MapS.new w
    have e : (fun _ => none) = fun ks => pickU last (keysT l) ks 0 := by funext ks; cases last <;> rfl
    rwa [e] at this⟩
  case round =>
    obtain ⟨k, m, rfl, hk, hm, hbr, hmap⟩ := hrel
    by_cases hlt : k < n
    · have hkl : k < l.length := by rw [← hN.out]; exact hlt
      obtain ⟨b, o, A0, c0, hA, hb0, x0, x1, x2, hl0, hC0⟩ := thg_plain H.out hkl
      subst hA
      have e0 := (hbr.cell (p := ⟨b, o + k * 3, none⟩) hb0).trans x0
      have e1 := (hbr.cell (p := ⟨b, o + k * 3 + 1, none⟩) hb0).trans x1
      have e2 := (hbr.cell (p := ⟨b, o + k * 3 + 2, none⟩) hb0).trans x2
      have hC1 : (Kd.int .u8).C wr A0 (rd_T54 l (k : Int)).f0.length (rd_T54 l (k : Int)).f0 := Kd.C_below hC0 hbr
      have hko := thingsOk_rd HO.out hkl
      have hkey := keysT_at hkl
      clear x0 x1 x2 hC0
      generalize rd_T54 l (k : Int) = t at e0 e1 e2 hC1 hko hkey hl0
      obtain ⟨t0, t1, t2⟩ := t
      simp only at e0 e1 e2 hC1 hko hkey hl0
      obtain ⟨ln, hln⟩ : ∃ ln, ln = t0.length := ⟨_, rfl⟩
      have hq1 : (k : Int) < n := by omega
      have HC := hide hC1
      have HK := hide hko
      have HKey := hide hkey
      rw [← hln] at e0
      have Hln := hide hln
      clear hC1 hko hkey hln
      go_wp2_with fail
      (with_reducible refine (foldAll_n _ A0 ln c0 t0 Hln.out (Kd.C_below HC.out ((Below.refl _ _).alloc (Nat.le_refl _) _)) hl0 HK.out.one HK.out.two).mono ?_)
      rintro e w2 ⟨v2, rfl, hR, hb2⟩
      obtain ⟨A2, c2, rfl, hl2, hC2⟩ := Kd.R_reads hR
      have hko := keyOk_fold HK.out
      have hkey := HKey.out
      generalize foldN t0 = key at hl2 hC2 hko hkey ⊢
      have hconv := Kd.C_string (c := c2) Try.underlying34 Try.underlying5 Try.underlying9 hC2
      have hbA := hbr.alloc hbr.size (Obj.cells #[Value.slice A0 ln c0, Value.int .i64 t1, Value.int .i64 t2] 54)
      have hmap2 : MapS w2 w.heap.size m (fun ks => pickU last (keysT l) ks k) := hmap.below (((Below.refl wr.heap.size wr).alloc (Nat.le_refl _) _).trans (hb2.mono (by simp))) hmap.lt
      have hbw : Below w.heap.size w w2 := hbA.trans (hb2.mono hbA.size)
      have hsz : w.heap.size < w2.heap.size := hmap2.lt
      have hlook := hmap2.look_ok hko
      have hput := pick_put (last := last) (ks := keysT l) (k := k)
      have hsame := pick_same (ks := keysT l) (k := k)
      rw [hkey] at hput hsame
      have HP := hide hput
      have HS := hide hsame
      obtain ⟨s, hs⟩ : ∃ s, s = (pickU last (keysT l) key k).isSome := ⟨_, rfl⟩
      obtain ⟨z, hz⟩ : ∃ z, z = valO (pickU last (keysT l) key k) := ⟨_, rfl⟩
      try simp only at hlook
      rw [← hs, ← hz] at hlook
      have Hs := hide hs
      obtain ⟨w3, hrun, hmap3, hg3⟩ := hmap2.put hko (by unfold maxLen; omega) (x := k) (by omega)
      have Hko := hide hko
      have Hkey := hide hkey
      clear HC HK HKey hput hsame hs hz hko hkey hmap hR hC2 hb2 hbA e0 e1 e2 hl2
      by_cases hcase : s = false ∨ last = true
      · have e1 : MapS w3 w.heap.size (m + 1) (fun ks => pickU last (keysT l) ks (k + 1)) := by
          rw [← HP.out (hcase.imp (fun h => by rw [← h, Hs.out]) id)]
          exact hmap3
        have hb3 : Below w.heap.size w w3 := hbw.grown hg3 (Nat.le_of_lt hsz) (fun q hq => by injection hq with hq; omega)
        have h1 := hide hcase
        clear HP HS hmap3 hmap2 hcase
        cases s with
        | false =>
          go_wp2_with fail
          exact ⟨⟨k + 1, m + 1, by go_num, by omega, by omega, hb3, e1⟩, by simp [intOf]; omega⟩
        | true =>
          obtain rfl : last = true := h1.out.resolve_left (by simp)
          go_wp2_with fail
          exact ⟨⟨k + 1, m + 1, by go_num, by omega, by omega, hb3, e1⟩, by simp [intOf]; omega⟩
      · obtain rfl : s = true := by cases s with
          | false => exact absurd (.inl rfl) hcase
          | true => rfl
        obtain rfl : last = false := by cases last with
          | false => rfl
          | true => exact absurd (.inr rfl) hcase
        have e1 : MapS w2 w.heap.size m (fun ks => pickU false (keysT l) ks (k + 1)) := by
          rw [← HS.out (by rw [← Hs.out])]
          exact hmap2
        clear HP HS hmap3 hmap2 hcase hrun hg3
        go_wp2_with fail
        exact ⟨⟨k + 1, m, by go_num, by omega, by omega, hbw, e1⟩, by simp [intOf]; omega⟩
    · obtain rfl : k = n := by omega
      have hfin := hide hmap
      have hm' := hmap
      clear hmap
      go_wp2_with fail
      go_ret
      obtain ⟨D, hD, hM⟩ := hm'
      exact ⟨_, rfl, hbr, Nat.le_refl _, D, hD.mono hm, hM⟩
end Go.Proofs.Ytgobiibalepaaaa.Q

