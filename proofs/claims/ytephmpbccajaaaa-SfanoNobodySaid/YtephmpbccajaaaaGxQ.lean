/- The plain machine and the model: regions that draw their order, ended: whatever order is drawn, the model comes to what the text's order comes to. No condition. -/
import Derived.Test.YtephmpbccajaaaaGxO
namespace Go.Proofs.Ytephmpbccajaaaa.Gx
open Go Go.RowKit
set_option linter.unusedVariables false
set_option linter.unusedSimpArgs false
variable {P : Program} {β : Type} {r : β} {ds : List Deferred}
variable {N : Nat} {ops : Array Oper} {recs : List Rec} {e0 eN : Env} {h0 hN : GH}
variable {ι0 : Inj} {w0 : World} {listed : Array Bool} {a : Act} {w : World} {ι : Inj} {lo : Nat} {V : GH}

/-- A block is born under a name that was free. -/
theorem born_hr {h : GH} (hr : HR ι h w) {g : Nat} (hu : ι g = .unborn) (k : Nat) (rc : Array Value) (el : TypeId) (cs : List Value) (esz : Nat) (hs : cs.length ≤ rc.size)
    (hc : ∀ i v, nth cs i = some v → ∃ r, rc[i]? = some r ∧ VR ι v r) :
    HR (upd ι g (.live ⟨w.heap.size, 0, cs.length, rc.size, esz, false⟩)) (h.put g (some (.row ⟨cs, esz, false⟩))) ((w.drewN k).alloc (.cells rc el)) := by
  have hl : Le ι (upd ι g (.live ⟨w.heap.size, 0, cs.length, rc.size, esz, false⟩)) := Le.born _ hu
  have hsz : ((w.drewN k).alloc (.cells rc el)).heap.size = w.heap.size + 1 := by simp [World.alloc, World.drewN]
  refine ⟨?_, ?_, ?_, ?_⟩
  · intro x p hx hp
    by_cases e : x = g
    · subst e
      rw [upd_same] at hp
      cases hp
      rw [get_put_same]
      exact ⟨rfl, rfl, rfl, by simpa using hs, fun i v hv => by
        obtain ⟨r, hr, hv'⟩ := hc i v hv
        exact ⟨r, by simpa [cell_new] using hr, hv'.mono hl⟩, fun _ => ⟨fz_new w k rc el, fun i _ h2 => by simp [cell_new]; exact h2⟩⟩
    · rw [upd_ne _ _ e] at hp
      rw [get_put_ne _ _ e]
      have hin := hr.inb x p hp
      exact (hr.obj x p hx hp).mono hl (fun i _ _ => cell_of_heap (heap_old w k _ _ hin) _) (fun _ => ⟨fz_of_heap (heap_old w k _ _ hin), fun i _ _ hh => by rw [cell_of_heap (heap_old w k _ _ hin)]; exact hh⟩) (fun _ _ ents c hh => (heap_old w k _ _ hin).trans hh)
  · intro x hx hd
    have e : x ≠ g := fun e => by subst e; rw [upd_same] at hd; cases hd
    rw [upd_ne _ _ e] at hd
    rw [get_put_ne _ _ e]
    exact hr.dead x hx hd
  · intro x y p q hp hq hne hb
    by_cases e : x = g
    · subst e
      rw [upd_same] at hp; cases hp
      rw [upd_ne _ _ (Ne.symm hne)] at hq
      have := hr.inb y q hq
      simp at hb; omega
    · rw [upd_ne _ _ e] at hp
      by_cases e' : y = g
      · subst e'
        rw [upd_same] at hq; cases hq
        have := hr.inb x p hp
        simp at hb; omega
      · rw [upd_ne _ _ e'] at hq
        exact hr.apart x y p q hp hq hne hb
  · intro x p hp
    by_cases e : x = g
    · subst e; rw [upd_same] at hp; cases hp; simp [hsz]
    · rw [upd_ne _ _ e] at hp
      have := hr.inb x p hp
      omega
/-- an operation that makes a block -/
theorem Inv.made (cx : Cx P N ops recs e0 eN h0 hN) (inv : Inv ds P N ops recs e0 h0 hN ι0 w0 listed a w ι lo V) {i : Nat} {rc : Rec} (hi : nth recs i = some rc) (hL : LL listed i = false)
    (hrd : ∀ o, nth ops.toList i = some o → ∀ ed ∈ o.after.toList, bindE ed = true → LL listed ed.on = true) (hran : rc.ran = true) (hk : opKind P rc.o.op = .alloc) {blk : Blk} (hh : rc.h' = rc.h.push (.row blk)) (hs : Makes P rc.o (eo rc.o rc.e) rc.h rc.v blk) :
    ∃ rv ι' V' w', (execOp a.eval rc.o).run P w = .ok (.value rv) w' ∧ Inv ds P N ops recs e0 h0 hN ι0 w0 (listed.setIfInBounds i true) (a.put rc.o.dst rv) w' ι' lo V' := by
  obtain ⟨cs, esz, ro⟩ := blk
  obtain ⟨hro, mk, hmk, hvr, hrun⟩ := hs
  simp only at hro
  subst hro
  obtain ⟨arc, el, h3, h4, h5⟩ := hrun ι a (inv.slots cx hi hL hrd)
  have hb : Born P recs i rc.h.next := ⟨rc, hi, hran, hk, rfl⟩
  obtain ⟨b1, b2, b3⟩ := cx.born hb
  have hu := inv.unb i _ hb hL
  have hlt : i < listed.size := by rw [inv.lsz, ← cx.len]; exact nth_lt hi
  have hnh : rc.h.next < hN.next := by
    have h1 := cx.next_mono (i := i + 1) (j := recs.length) (nth_lt hi) (Nat.le_refl _)
    rw [Hf_end, b3] at h1; omega
  have hn0 : h0.next ≤ rc.h.next := by
    have h1 := cx.next_mono (i := 0) (j := i) (Nat.zero_le _) (Nat.le_of_lt (nth_lt hi))
    rw [cx.zero] at h1; omega
  have hnext : (Hf recs hN (i + 1)).get rc.h.next = some (.row ⟨cs, esz, false⟩) := by
    rw [← (cx.idx i rc hi).2.1, hh]; exact get_push_new _ _
  have hle := Le.born (.live ⟨w.heap.size, 0, cs.length, arc.size, esz, false⟩) hu
  have hnu : ∀ x, x ≠ rc.h.next → upd ι rc.h.next (.live ⟨w.heap.size, 0, cs.length, arc.size, esz, false⟩) x = ι x := fun x e => upd_ne _ _ e
  have hhr := born_hr inv.hr hu 0 arc el cs esz h3 h4
  refine ⟨mk ⟨w.heap.size, 0, none⟩, upd ι rc.h.next (.live ⟨w.heap.size, 0, cs.length, arc.size, esz, false⟩), V.put rc.h.next (some (.row ⟨cs, esz, false⟩)), (w.drewN 0).alloc (.cells arc el), h5 w, ?_⟩
  exact {
    closed := inv.closedput cx hi hrd
    lsz := by simp [inv.lsz]
    asz := by rw [put_size]; exact inv.asz
    adf := by rw [put_defers]; exact inv.adf
    tv := inv.tvput cx hi hL hle (by rw [hmk]; exact hvr _ _ (upd_same _ _ _) rfl)
    lole := inv.lole
    lo0 := by
      rcases inv.lo0 with h | ⟨k, h1, h2, h3⟩
      · exact .inl h
      · exact .inr ⟨k, h1, h2, LL_set_true cx inv hi h3⟩
    hiE := fun k h1 h2 => by
      have hki : k ≠ i := fun e => by
        subst e
        obtain ⟨r2, e1, e2, e3⟩ := h2
        rw [hi] at e1; cases e1
        unfold isEff at e3; rw [hk] at e3; cases e3
      rw [LL_set hlt, if_neg hki]
      exact inv.hiE k h1 h2
    vn := inv.vn
    hr := hhr
    vold := fun g h1 h2 => by
      by_cases e : g = rc.h.next
      · subst e
        rw [get_put_same]
        have hil : i < lo := by
          rcases Nat.lt_or_ge i lo with h | h
          · exact h
          · have := cx.next_mono (i := lo) (j := i) h (Nat.le_of_lt (nth_lt hi)); omega
        rw [inv.kept i _ hb hL hil, hnext]
      · rw [get_put_ne _ _ e]
        rw [hnu g e] at h2
        exact inv.vold g h1 h2
    vnew := fun g h1 h2 h3 => by
      by_cases e : g = rc.h.next
      · subst e
        refine ⟨i, ?_, hb, by rw [LL_set hlt, if_pos rfl], by rw [get_put_same, hnext]⟩
        rcases Nat.lt_or_ge i lo with h | h
        · have := cx.next_mono (i := i + 1) (j := lo) h inv.lole; omega
        · exact h
      · rw [hnu g e] at h3
        obtain ⟨k, k1, k2, k3, k4⟩ := inv.vnew g h1 h2 h3
        exact ⟨k, k1, k2, LL_set_true cx inv hi k3, by rw [get_put_ne _ _ e]; exact k4⟩
    unb := fun k g h1 h2 => by
      obtain ⟨hki, h2⟩ := LL_set_false cx inv hi h2
      have e : g ≠ rc.h.next := fun e => by subst e; exact hki (cx.born_unique h1 hb)
      rw [hnu g e]
      exact inv.unb k g h1 h2
    kept := fun k g h1 h2 h3 => inv.kept k g h1 (LL_set_false cx inv hi h2).2 h3
    oldn := fun g hg => by rw [hnu g (by omega)]; exact inv.oldn g hg
    farn := fun g hg => by rw [hnu g (by omega)]; exact inv.farn g hg
    samen := inv.samen
    fr := inv.fr.trans (Fr.alloc (fun _ _ => False) w 0 (.cells arc el)) (fun _ _ _ h => h.elim)
    cov := fun b j hb' => by
      rintro ⟨g, p, h1, h2, h3, h4, h5, h6⟩
      by_cases e : g = rc.h.next
      · subst e
        rw [upd_same] at h2; cases h2
        have := inv.fr.size
        simp only at h4; omega
      · rw [hnu g e] at h2
        exact inv.cov b j hb' ⟨g, p, h1, h2, h3, h4, h5, h6⟩ }
/-- those that act come one after the other -/
theorem Inv.turn (cx : Cx P N ops recs e0 eN h0 hN) (inv : Inv ds P N ops recs e0 h0 hN ι0 w0 listed a w ι lo V) {i : Nat} {rc : Rec} (hi : nth recs i = some rc) (hL : LL listed i = false)
    (hrd : ∀ o, nth ops.toList i = some o → ∀ ed ∈ o.after.toList, bindE ed = true → LL listed ed.on = true) (he : isEff P rc.o = true) : lo ≤ i ∧ ∀ k, lo ≤ k → k < i → ¬ EffAt P recs k := by
  obtain ⟨ho, _⟩ := cx.idx i rc hi
  refine ⟨?_, fun k h1 h2 h3 => ?_⟩
  · rcases inv.lo0 with h | ⟨k, h1, ⟨rk, e1, e2, e3⟩, h3⟩
    · omega
    · rcases Nat.lt_or_ge i lo with h | h
      · have hki : k ≠ i := fun e => by subst e; rw [hL] at h3; cases h3
        have hr := cx.effs i k rc.o rk.o (by omega) ho (cx.idx k rk e1).1 he e3
        rw [hr.mem inv.closed h3] at hL; cases hL
      · exact h
  · have hf := inv.hiE k h1 h3
    obtain ⟨rk, e1, e2, e3⟩ := h3
    have hr := cx.effs k i rk.o rc.o h2 (cx.idx k rk e1).1 ho e3 he
    rw [hr.ready inv.closed hrd] at hf; cases hf
/-- an operation that acts -/
theorem Inv.act (cx : Cx P N ops recs e0 eN h0 hN) (inv : Inv ds P N ops recs e0 h0 hN ι0 w0 listed a w ι lo V) {i : Nat} {rc : Rec} (hi : nth recs i = some rc) (hL : LL listed i = false)
    (hrd : ∀ o, nth ops.toList i = some o → ∀ ed ∈ o.after.toList, bindE ed = true → LL listed ed.on = true) (hran : rc.ran = true) (he : isEff P rc.o = true) (hs : OpSim P rc.o (eo rc.o rc.e) rc.h rc.v rc.h')
    {K : Act → World → Prop} {Q : Exit → Act → World → Prop} (hK : ∀ rv ι' V' w', Inv ds P N ops recs e0 h0 hN ι0 w0 (listed.setIfInBounds i true) (a.put rc.o.dst rv) w' ι' (i + 1) V' → K (a.put rc.o.dst rv) w') : rc.o.wp P a w K Q := by
  obtain ⟨hlo, hno⟩ := inv.turn cx hi hL hrd he
  obtain ⟨ho, hh', _⟩ := cx.idx i rc hi
  have hlt : i < listed.size := by rw [inv.lsz, ← cx.len]; exact nth_lt hi
  have hin := nth_lt hi
  have hHi : Hf recs hN i = rc.h := Hf_at hi
  have m1 : (Hf recs hN lo).next ≤ rc.h.next := by have := cx.next_mono hlo (Nat.le_of_lt hin); rwa [hHi] at this
  have m2 : rc.h.next ≤ rc.h'.next := by have := (cx.one hi).1; rwa [hHi, ← hh'] at this
  have m3 : rc.h'.next ≤ hN.next := by have := cx.next_mono (i := i + 1) (j := recs.length) hin (Nat.le_refl _); rwa [Hf_end, ← hh'] at this
  have m0 : h0.next ≤ rc.h.next := by have := cx.next_mono (i := 0) (j := i) (Nat.zero_le _) (Nat.le_of_lt hin); rwa [cx.zero, hHi] at this
  have hnb : ∀ g, ¬ Born P recs i g := fun g hb => by
    obtain ⟨r2, e1, e2, e3, e4⟩ := hb
    rw [hi] at e1; cases e1
    unfold isEff at he; rw [e3] at he; cases he
  -- what the virtual memory holds is what the text's order has here
  have hV : ∀ g, g < rc.h.next → ι g ≠ .unborn → V.get g = rc.h.get g := fun g hg hu => by
    by_cases hgl : g < (Hf recs hN lo).next
    · rw [inv.vold g hgl hu, ← hHi]
      exact (cx.grow hgl hlo (Nat.le_of_lt hin) hno).symm
    · obtain ⟨k, k1, k2, k3, k4⟩ := inv.vnew g (by omega) (by omega) hu
      obtain ⟨b1, b2, b3⟩ := cx.born k2
      have hki : k < i := by
        rcases Nat.lt_or_ge k i with h | h
        · exact h
        · have := cx.next_mono (i := i) (j := k) h (Nat.le_of_lt b1); rw [hHi] at this; omega
      rw [k4, ← hHi]
      exact (cx.grow (i := k + 1) (by omega) hki (Nat.le_of_lt hin) (fun k' h1 h2 => hno k' (by omega) h2)).symm
  have hgood : Good ι rc.h rc.h'.next w := by
    refine ⟨⟨fun g p hg hp => ?_, fun g hg hd => ?_, inv.hr.apart, inv.hr.inb⟩, fun g h1 h2 => ?_⟩
    · rw [← hV g hg (by rw [hp]; intro h; cases h)]
      exact inv.hr.obj g p (by rw [inv.vn]; omega) hp
    · rw [← hV g hg (by rw [hd]; intro h; cases h)]
      exact inv.hr.dead g (by rw [inv.vn]; omega) hd
    · cases hg : ι g with
      | unborn => rfl
      | live p =>
        obtain ⟨k, k1, k2, _⟩ := inv.vnew g (by omega) (by omega) (by rw [hg]; intro h; cases h)
        exfalso
        obtain ⟨b1, b2, b3⟩ := cx.born k2
        rcases Nat.lt_trichotomy k i with h | h | h
        · have := cx.next_mono (i := k + 1) (j := i) h (Nat.le_of_lt hin); rw [hHi] at this; omega
        · subst h; exact hnb g k2
        · have := cx.next_mono (i := i + 1) (j := k) h (Nat.le_of_lt b1); rw [← hh'] at this; omega
      | dead =>
        obtain ⟨k, k1, k2, _⟩ := inv.vnew g (by omega) (by omega) (by rw [hg]; intro h; cases h)
        exfalso
        obtain ⟨b1, b2, b3⟩ := cx.born k2
        rcases Nat.lt_trichotomy k i with h | h | h
        · have := cx.next_mono (i := k + 1) (j := i) h (Nat.le_of_lt hin); rw [hHi] at this; omega
        · subst h; exact hnb g k2
        · have := cx.next_mono (i := i + 1) (j := k) h (Nat.le_of_lt b1); rw [← hh'] at this; omega
  refine hs.2 ι w a hgood (inv.slots cx hi hL hrd) K Q (fun rv ι' w' st hv => ?_)
  have hle := st.le hgood.free
  refine hK rv ι' ⟨hN.next, fun g => if g < rc.h'.next then rc.h'.get g else V.get g⟩ w' ?_
  have hget : ∀ g, g < rc.h'.next → (⟨hN.next, fun g => if g < rc.h'.next then rc.h'.get g else V.get g⟩ : GH).get g = rc.h'.get g := fun g hg => by simp [hg]
  have hget' : ∀ g, ¬ g < rc.h'.next → (⟨hN.next, fun g => if g < rc.h'.next then rc.h'.get g else V.get g⟩ : GH).get g = V.get g := fun g hg => by simp [hg]
  exact {
    closed := inv.closedput cx hi hrd
    lsz := by simp [inv.lsz]
    asz := by rw [put_size]; exact inv.asz
    adf := by rw [put_defers]; exact inv.adf
    tv := inv.tvput cx hi hL hle hv
    lole := hin
    lo0 := .inr ⟨i, rfl, ⟨rc, hi, hran, he⟩, by rw [LL_set hlt, if_pos rfl]⟩
    hiE := fun k h1 h2 => by
      rw [LL_set hlt, if_neg (by omega)]
      exact inv.hiE k (by omega) h2
    vn := rfl
    hr := by
      refine ⟨fun g p hg hp => ?_, fun g hg hd => ?_, st.hr.apart, st.hr.inb⟩
      · by_cases hgl : g < rc.h'.next
        · rw [hget g hgl]; exact st.hr.obj g p hgl hp
        · rw [hget' g hgl]
          have hp0 : ι g = .live p := by rw [← st.far g (by omega)]; exact hp
          have hpi := inv.hr.inb g p hp0
          have hncov : ∀ j, p.off ≤ j → j < p.ext → ¬ Cov rc.h.next ι p.blk j := by
            rintro j h1 h2 ⟨g2, p2, c1, c2, c3, c4, c5, c6⟩
            rcases inv.hr.apart g g2 p p2 hp0 c2 (by omega) c4.symm with ⟨_, h⟩ | h | h
            · rw [c3] at h; cases h
            · omega
            · omega
          have hobj := inv.hr.obj g p (by rw [inv.vn]; exact hg) hp0
          refine hobj.mono hle (fun j h1 h2 => st.fr.cell _ _ hpi (hncov j h1 h2)) (fun hro => ⟨st.fr.fz _ hpi, fun j _ _ => st.fr.some _ _ hpi⟩) (fun es he ents c hh => ?_)
          rw [he] at hobj
          refine (st.fr.block _ hpi ?_).trans hh
          rintro j ⟨g2, p2, c1, c2, c3, c4, c5, c6⟩
          have q1 := hobj.off
          have q2 := hobj.ext
          have q3 := hobj.ro
          rcases inv.hr.apart g g2 p p2 hp0 c2 (by omega) c4.symm with ⟨h, _⟩ | h | h
          · rw [q3] at h; cases h
          · have hobj2 := inv.hr.obj g2 p2 (by rw [inv.vn]; omega) c2
            unfold ObjOk at hobj2
            split at hobj2
            · have h5 := (hobj2.room c3).2 j c5 c6
              rw [c4, (cell_of_map hh j).1] at h5
              cases h5
            · have := hobj2.off; omega
            · exact hobj2
          · omega
      · by_cases hgl : g < rc.h'.next
        · rw [hget g hgl]; exact st.hr.dead g hgl hd
        · rw [hget' g hgl]
          rw [st.far g (by omega)] at hd
          exact inv.hr.dead g (by rw [inv.vn]; exact hg) hd
    vold := fun g h1 h2 => by
      rw [← hh'] at h1
      rw [hget g h1, ← hh']
    vnew := fun g h1 h2 h3 => by
      rw [← hh'] at h1
      rw [st.far g h1] at h3
      obtain ⟨k, k1, k2, k3, k4⟩ := inv.vnew g (by omega) h2 h3
      obtain ⟨b1, b2, b3⟩ := cx.born k2
      refine ⟨k, ?_, k2, LL_set_true cx inv hi k3, by rw [hget' g (by omega)]; exact k4⟩
      rcases Nat.lt_trichotomy i k with h | h | h
      · exact h
      · subst h; exact (hnb g k2).elim
      · exfalso
        have := cx.next_mono (i := k + 1) (j := i) h (Nat.le_of_lt hin); rw [hHi] at this; omega
    unb := fun k g h1 h2 => by
      obtain ⟨hki, h2⟩ := LL_set_false cx inv hi h2
      have hu := inv.unb k g h1 h2
      obtain ⟨b1, b2, b3⟩ := cx.born h1
      rcases Nat.lt_or_ge g rc.h.next with h | h
      · rcases st.old g h with e | ⟨⟨p, hp, _⟩, _⟩
        · rw [e]; exact hu
        · rw [hu] at hp; cases hp
      · have : rc.h'.next ≤ g := by
          rcases Nat.lt_trichotomy k i with h' | h' | h'
          · have := cx.next_mono (i := k + 1) (j := i) h' (Nat.le_of_lt hin); rw [hHi] at this; omega
          · exact (hki h').elim
          · have := cx.next_mono (i := i + 1) (j := k) h' (Nat.le_of_lt b1); rw [← hh'] at this; omega
        rw [st.far g this]; exact hu
    kept := fun k g h1 h2 h3 => by
      obtain ⟨hki, h2⟩ := LL_set_false cx inv hi h2
      have hu := inv.unb k g h1 h2
      obtain ⟨b1, b2, b3⟩ := cx.born h1
      have hk : k < i := by omega
      have hgi : g < rc.h.next := by have := cx.next_mono (i := k + 1) (j := i) hk (Nat.le_of_lt hin); rw [hHi] at this; omega
      rw [← hh', st.same g hgi hu, ← hHi]
      rcases Nat.lt_or_ge k lo with h | h
      · rw [← inv.kept k g h1 h2 h]
        exact cx.grow (by have := cx.next_mono (i := k + 1) (j := lo) h inv.lole; omega) hlo (Nat.le_of_lt hin) hno
      · exact cx.grow (i := k + 1) (g := g) (by omega) hk (Nat.le_of_lt hin) (fun k' h1 h2 => hno k' (by omega) h2)
    oldn := fun g hg => by
      rcases inv.oldn g hg with e | ⟨hp, e⟩
      · rcases st.old g (by omega) with e' | ⟨hp', e'⟩
        · exact .inl (e'.trans e)
        · exact .inr ⟨e ▸ hp', e'⟩
      · rcases st.old g (by omega) with e' | ⟨hp', e'⟩
        · exact .inr ⟨hp, e'.trans e⟩
        · exact .inr ⟨hp, e'⟩
    farn := fun g hg => (st.far g (by omega)).trans (inv.farn g hg)
    samen := fun g hg hu => by
      have hu' : ι g = .unborn := by
        rcases inv.oldn g hg with e | ⟨⟨p, hp, _⟩, _⟩
        · rw [e]; exact hu
        · rw [hu] at hp; cases hp
      rw [← hh', st.same g (by omega) hu', ← hHi, ← inv.samen g hg hu]
      refine cx.grow ?_ hlo (Nat.le_of_lt hin) hno
      have := cx.next_mono (i := 0) (j := lo) (Nat.zero_le _) inv.lole
      rw [cx.zero] at this; omega
    fr := inv.fr.trans st.fr (fun b j hb => by
      rintro ⟨g, p, h1, h2⟩
      exact inv.cov b j hb ⟨g, p, by omega, h2⟩)
    cov := fun b j hb => by
      rintro ⟨g, p, h1, h2, h3⟩
      by_cases hgl : g < rc.h'.next
      · obtain ⟨g2, p2, c1, c2⟩ := st.cov b j (Nat.lt_of_lt_of_le hb inv.fr.size) ⟨g, p, hgl, h2, h3⟩
        exact inv.cov b j hb ⟨g2, p2, by omega, c2⟩
      · rw [st.far g (by omega)] at h2
        exact inv.cov b j hb ⟨g, p, h1, h2, h3⟩ }
/-- cells that the effects on the way do not turn -/
theorem Cx.walk (cx : Cx P N ops recs e0 eN h0 hN) {s g off n : Nat} (hg : g < (Hf recs hN s).next) : ∀ {i : Nat}, s ≤ i → i ≤ recs.length →
    (∀ k rk, s ≤ k → k < i → nth recs k = some rk → rk.ran = true → isEff P rk.o = true → ∀ j, j < n → rk.h.cell ⟨g, off + j, none⟩ = rk.h'.cell ⟨g, off + j, none⟩) →
    ∀ j, j < n → (Hf recs hN s).cell ⟨g, off + j, none⟩ = (Hf recs hN i).cell ⟨g, off + j, none⟩ := by
  intro i
  induction i with
  | zero => intro h _ _ j _; have : s = 0 := by omega
            subst this; rfl
  | succ i ih =>
    intro h hi hs j hj
    by_cases e : s = i + 1
    · subst e; rfl
    · rw [ih (by omega) (by omega) (fun k rk h1 h2 => hs k rk h1 (by omega)) j hj]
      obtain ⟨rc, hrc⟩ := rec_at (recs := recs) (k := i) (by omega)
      have hm := cx.next_mono (i := s) (j := i) (by omega) (by omega)
      by_cases he : EffAt P recs i
      · obtain ⟨r2, e1, e2, e3⟩ := he
        have := hs i r2 (by omega) (by omega) e1 e2 e3 j hj
        rw [Hf_at e1, ← (cx.idx i r2 e1).2.1]
        exact this
      · have h1 := (cx.one hrc).2 he g (by omega)
        have h2 := (cx.one hrc).1
        unfold GH.cell
        simp only []
        rw [look_of (by omega : g < (Hf recs hN i).next), look_of (by omega : g < (Hf recs hN (i + 1)).next), h1]
/-- a load, whenever it comes -/
theorem Inv.load (cx : Cx P N ops recs e0 eN h0 hN) (inv : Inv ds P N ops recs e0 h0 hN ι0 w0 listed a w ι lo V) {i : Nat} {rc : Rec} (hi : nth recs i = some rc) (hL : LL listed i = false)
    (hrd : ∀ o, nth ops.toList i = some o → ∀ ed ∈ o.after.toList, bindE ed = true → LL listed ed.on = true) (hran : rc.ran = true) {t : TypeId} {x : Operand} {g off : Nat} {b : Blk} (ho : rc.o.op = .load t x)
    (hx : rc.e.eval x = .pointer (some ⟨g, off, none⟩)) (hpos : 0 < loadN P t) (hb : rc.h.look g = some (.row b)) (hle : off + loadN P t ≤ b.cells.length)
    (hs : ∀ (b' : Blk), off + loadN P t ≤ b'.cells.length → (∀ i, i < loadN P t → nth b'.cells (off + i) = nth b.cells (off + i)) → ∀ ι p w, RowOk ι p b' w →
        ∃ rv, VR ι rc.v rv ∧ (Instr.loadAt t (.pointer (some ⟨p.blk, p.off + off, none⟩))).run P w = .ok rv w) :
    ∃ rv, VR ι rc.v rv ∧ (execOp a.eval rc.o).run P w = .ok (.value rv) w := by
  have hin := nth_lt hi
  have hHi : Hf recs hN i = rc.h := Hf_at hi
  obtain ⟨hgi, hgb⟩ := look_get hb
  have hni : ¬ EffAt P recs i := by
    rintro ⟨r2, e1, e2, e3⟩
    rw [hi] at e1; cases e1
    unfold isEff at e3; rw [ho] at e3; simp [opKind] at e3
  have hxr : VR ι (rc.e.eval x) (a.eval x) := by
    have := (inv.slots cx hi hL hrd).eval x
    rwa [eo_eval (o := rc.o) (e := rc.e) (x := x) (by rw [ho]; simp [Op.operands])] at this
  rw [hx] at hxr
  have hu : ι g ≠ .unborn := by
    rcases hxr.someP with ⟨p, hp, _⟩ | ⟨hd, _⟩
    · rw [hp]; intro h; cases h
    · rw [hd]; intro h; cases h
  have hmN : rc.h.next ≤ hN.next := by have := cx.next_mono (i := i) (j := recs.length) (Nat.le_of_lt hin) (Nat.le_refl _); rwa [Hf_end, hHi] at this
  obtain ⟨s, hsl, hsg, hsV, hslo⟩ : ∃ s, s ≤ recs.length ∧ g < (Hf recs hN s).next ∧ V.get g = (Hf recs hN s).get g ∧ (lo ≤ s ∧ (s = lo ∨ s ≤ i)) := by
    by_cases hgl : g < (Hf recs hN lo).next
    · exact ⟨lo, inv.lole, hgl, inv.vold g hgl hu, Nat.le_refl _, .inl rfl⟩
    · obtain ⟨k, k1, k2, k3, k4⟩ := inv.vnew g (by omega) (by omega) hu
      obtain ⟨b1, b2, b3⟩ := cx.born k2
      refine ⟨k + 1, b1, by omega, k4, by omega, .inr ?_⟩
      rcases Nat.lt_or_ge k i with h | h
      · exact h
      · exfalso
        have := cx.next_mono (i := i) (j := k) h (Nat.le_of_lt b1); rw [hHi] at this; omega
  have hcells : ∀ j, j < loadN P t → (Hf recs hN s).cell ⟨g, off + j, none⟩ = rc.h.cell ⟨g, off + j, none⟩ := by
    rw [← hHi]
    rcases Nat.lt_or_ge i s with hlt | hge
    · -- the load comes late
      have e : s = lo := by rcases hslo.2 with h | h <;> omega
      subst e
      have hw := cx.walk (s := i) (g := g) (off := off) (n := loadN P t) (by rw [hHi]; exact hgi) (Nat.le_of_lt hlt) hsl (fun k rk h1 h2 hk hr he j hj => by
        have hki : k ≠ i := fun e => by subst e; exact hni ⟨rk, hk, hr, he⟩
        refine (cx.rds i k rc rk t x g off hi hk hran hr ho hx he (fun hre => ?_) j hj).1
        rw [Nat.max_eq_right (by omega), Nat.min_eq_left (by omega)] at hre
        have hlk : LL listed k = true := by
          rcases inv.lo0 with h | ⟨k0, q1, ⟨r0, q2, q3, q4⟩, q5⟩
          · omega
          · by_cases e : k = k0
            · subst e; exact q5
            · exact (cx.effs k k0 rk.o r0.o (by omega) (cx.idx k rk hk).1 (cx.idx k0 r0 q2).1 he q4).mem inv.closed q5
        rw [hre.mem inv.closed hlk] at hL; cases hL)
      exact fun j hj => (hw j hj).symm
    · exact cx.walk hsg hge (Nat.le_of_lt hin) (fun k rk h1 h2 hk hr he j hj => by
        refine (cx.rds i k rc rk t x g off hi hk hran hr ho hx he (fun hre => ?_) j hj).1
        rw [Nat.max_eq_left (by omega), Nat.min_eq_right (by omega)] at hre
        have hlk := inv.hiE k (by omega) ⟨rk, hk, hr, he⟩
        rw [hre.ready inv.closed hrd] at hlk; cases hlk)
  have hcb : ∀ j, j < loadN P t → rc.h.cell ⟨g, off + j, none⟩ = nth b.cells (off + j) := fun j _ => by unfold GH.cell; simp only [hb, rowCell]
  have hex : ∀ j, j < loadN P t → ∃ v, nth b.cells (off + j) = some v := fun j hj => ⟨b.cells[off + j]'(by omega), by rw [nth_eq]; exact List.getElem?_eq_getElem _⟩
  obtain ⟨b', hb'⟩ : ∃ b', (Hf recs hN s).look g = some (.row b') := by
    obtain ⟨v, hv⟩ := hex 0 hpos
    obtain ⟨b', h1, _⟩ := cell_row ((hcells 0 hpos).trans ((hcb 0 hpos).trans hv))
    exact ⟨b', h1⟩
  have hcb' : ∀ j, j < loadN P t → nth b'.cells (off + j) = nth b.cells (off + j) := fun j hj => by
    rw [← hcb j hj, ← hcells j hj]; unfold GH.cell; simp only [hb', rowCell]
  have hle' : off + loadN P t ≤ b'.cells.length := by
    obtain ⟨v, hv⟩ := hex (loadN P t - 1) (by omega)
    have := nth_lt ((hcb' (loadN P t - 1) (by omega)).trans hv)
    omega
  have hVb : V.get g = some (.row b') := by rw [hsV]; exact (look_get hb').2
  have hgV : g < V.next := by rw [inv.vn]; omega
  rcases hxr.someP with ⟨p, hp, he⟩ | ⟨hd, _⟩
  · obtain ⟨rv, h3, h4⟩ := hs b' hle' hcb' ι p w (row_at inv.hr hgV hp hVb)
    exact ⟨rv, h3, by simp only [execOp, ho, he, Sem.run_bind, h4, Result.andThen_ok, Sem.run_pure]⟩
  · rw [inv.hr.dead g hgV hd] at hVb; cases hVb

/-- one operation, whichever is drawn -/
theorem Inv.exec (cx : Cx P N ops recs e0 eN h0 hN) (inv : Inv ds P N ops recs e0 h0 hN ι0 w0 listed a w ι lo V) {i : Nat} {rc : Rec} (hi : nth recs i = some rc) (hL : LL listed i = false)
    (hrd : ∀ o, nth ops.toList i = some o → ∀ ed ∈ o.after.toList, bindE ed = true → LL listed ed.on = true) {K : Act → World → Prop} {Q : Exit → Act → World → Prop}
    (hK : ∀ a' w' ι' lo' V', Inv ds P N ops recs e0 h0 hN ι0 w0 (listed.setIfInBounds i true) a' w' ι' lo' V' → K a' w') : wpOp P ops Q i K a w := by
  obtain ⟨ho, hh', hd, hgd, hst, _⟩ := cx.idx i rc hi
  have hoi : ops[i]? = some rc.o := by rw [nth_eq] at ho; simpa using ho
  have hw : Region.wanted rc.o (yielded ops a.tmps) = rc.ran := by
    unfold GuardOk at hgd
    split at hgd
    · rename_i hg; rw [wanted_none hg, hgd]
    · rename_i j want hg
      obtain ⟨t, h1, hor⟩ := hgd
      have hn := inv.named cx hi hL hrd (t := t) (by unfold namesOf; rw [hg]; simp [h1])
      have hv := inv.tv t
      rw [hn] at hv
      rcases hor with ⟨b, h2, h3⟩ | ⟨h2, h3⟩
      case inr =>
        obtain ⟨rs, hrs⟩ := VR.skip h2 hv
        rw [wanted_skip hg h1 hrs, h3]
      rw [h2] at hv
      have hv := hv.bool
      have : a.tmps[t]? = some (.bool b) := by
        rw [Array.getD_eq_getD_getElem?] at hv
        cases hx : a.tmps[t]? with
        | none => rw [hx] at hv; cases hv
        | some x => rw [hx] at hv; simp at hv; rw [hv]
      rw [wanted_of hg h1 this, h3]
  unfold wpOp
  simp only [hoi, hw]
  have hnb : opKind P rc.o.op ≠ .alloc → ∀ g, ¬ Born P recs i g := fun hk g hb => by
    obtain ⟨r2, e1, e2, e3, e4⟩ := hb
    rw [hi] at e1; cases e1
    exact hk e3
  have hne : isEff P rc.o = false → ¬ EffAt P recs i := fun hk hb => by
    obtain ⟨r2, e1, e2, e3⟩ := hb
    rw [hi] at e1; cases e1
    rw [hk] at e3; cases e3
  cases hst with
  | skip hran hv hh =>
    rw [hran]
    simp only [Bool.false_eq_true, if_false]
    refine hK _ _ _ _ _ (inv.quiet cx hi hL hrd ?_ ?_ (by rw [hv]; exact .sk))
    · rintro ⟨r2, e1, e2, e3⟩; rw [hi] at e1; cases e1; rw [hran] at e2; cases e2
    · rintro g ⟨r2, e1, e2, e3⟩; rw [hi] at e1; cases e1; rw [hran] at e2; cases e2
  | pure hran hk hh hs =>
    rw [hran]
    simp only [if_true]
    obtain ⟨rv, h3, h4⟩ := hs ι a (inv.slots cx hi hL hrd)
    refine .inl ?_
    unfold Oper.wp
    rw [h4 w]
    exact hK _ _ _ _ _ (inv.quiet cx hi hL hrd (hne (by unfold isEff; rw [hk])) (hnb (by rw [hk]; intro h; cases h)) h3)
  | read hran hk hh t x g off b hop hx hpos hb hle hs =>
    rw [hran]
    simp only [if_true]
    obtain ⟨rv, h3, h4⟩ := inv.load cx hi hL hrd hran hop hx hpos hb hle hs
    refine .inl ?_
    unfold Oper.wp
    rw [h4]
    exact hK _ _ _ _ _ (inv.quiet cx hi hL hrd (hne (by unfold isEff; rw [hk])) (hnb (by rw [hk]; intro h; cases h)) h3)
  | alloc hran hk blk hh hs =>
    rw [hran]
    simp only [if_true]
    obtain ⟨rv, ι', V', w', h3, h4⟩ := inv.made cx hi hL hrd hran hk hh hs
    refine .inl ?_
    unfold Oper.wp
    rw [h3]
    exact hK _ _ _ _ _ h4
  | eff hran hk hs =>
    rw [hran]
    simp only [if_true]
    exact .inl (inv.act cx hi hL hrd hran hk hs (fun rv ι' V' w' h => hK _ _ _ _ _ h))

/-! ### how many are still to come -/
def unl (listed : Array Bool) : Nat → Nat
  | 0 => 0
  | k + 1 => (if listed.getD k false = true then 0 else 1) + unl listed k
theorem unl_zero {listed : Array Bool} : ∀ {n : Nat}, unl listed n = 0 → ∀ k, k < n → LL listed k = true
  | 0, _, k, hk => by omega
  | n + 1, h, k, hk => by
    unfold unl at h
    by_cases e : k = n
    · subst e
      by_cases hl : listed.getD k false = true
      · exact hl
      · rw [if_neg hl] at h; omega
    · exact unl_zero (n := n) (by omega) k (by omega)
theorem unl_set {listed : Array Bool} {i : Nat} (hi : i < listed.size) (hL : LL listed i = false) : ∀ {n : Nat}, (i < n → unl (listed.setIfInBounds i true) n + 1 = unl listed n) ∧ (n ≤ i → unl (listed.setIfInBounds i true) n = unl listed n)
  | 0 => ⟨fun h => by omega, fun _ => rfl⟩
  | n + 1 => by
    have hs : ∀ k, (listed.setIfInBounds i true).getD k false = if k = i then true else listed.getD k false := fun k => LL_set hi k
    obtain ⟨h1, h2⟩ := unl_set hi hL (n := n)
    unfold unl
    rw [hs n]
    by_cases e : n = i
    · subst e
      have hL' : listed.getD n false = false := hL
      refine ⟨fun _ => ?_, fun h => by omega⟩
      rw [if_pos rfl, h2 (Nat.le_refl _), hL']
      simp; omega
    · rw [if_neg e]
      exact ⟨fun h => by have := h1 (by omega); omega, fun h => by have := h2 (by omega); omega⟩
theorem ready_spec {listed : Array Bool} {i : Nat} (h : i ∈ Region.ready .any ops listed) : i < ops.size ∧ listed.getD i true = false ∧ ∀ o, nth ops.toList i = some o → ∀ ed ∈ o.after.toList, bindE ed = true → LL listed ed.on = true := by
  unfold Region.ready at h
  simp only [List.mem_filter, List.mem_range, Bool.and_eq_true, Bool.not_eq_true'] at h
  obtain ⟨h1, h2, h3⟩ := h
  refine ⟨h1, h2, fun o ho ed he hb => ?_⟩
  have hoi : ops[i]? = some o := by rw [nth_eq] at ho; simpa using ho
  rw [hoi] at h3
  simp only [Option.map_some, Option.getD_some] at h3
  rw [Array.all_eq_true_iff_forall_mem] at h3
  have := h3 ed (by simpa using he)
  unfold bindE at hb
  rw [hb] at this
  simpa [LL] using this
theorem ready_nil (cx : Cx P N ops recs e0 eN h0 hN) {listed : Array Bool} (hsz : listed.size = ops.size) (h : Region.ready .any ops listed = []) : ∀ k, k < ops.size → LL listed k = true := by
  intro k
  induction k using Nat.strongRecOn with
  | _ k ih =>
    intro hk
    cases hl : LL listed k with
    | true => rfl
    | false =>
      exfalso
      have hko : ops[k]? = some ops[k] := by simp [hk]
      have : k ∈ Region.ready .any ops listed := by
        unfold Region.ready
        simp only [List.mem_filter, List.mem_range, Bool.and_eq_true, Bool.not_eq_true']
        refine ⟨hk, ?_, ?_⟩
        · unfold LL at hl
          have : k < listed.size := by omega
          simp [this] at hl ⊢
          exact hl
        · rw [hko]
          simp only [Option.map_some, Option.getD_some]
          rw [Array.all_eq_true_iff_forall_mem]
          intro ed he
          cases hb : Region.binds .any ed with
          | false => simp
          | true =>
            have hlt := cx.edges k ops[k] (by rw [nth_eq]; simp) ed (by simpa using he) hb
            have := ih ed.on hlt (by omega)
            simp only [Bool.not_true, Bool.false_or]
            exact this
      rw [h] at this
      cases this
theorem Inv.all (cx : Cx P N ops recs e0 eN h0 hN) {Q : Exit → Act → World → Prop} (hQ : ∀ ι w a, Stp h0 ι0 w0 hN ι w → AR ds ι N eN a → Q .normal a w) : ∀ (fuel : Nat) (listed : Array Bool) (a : Act) (w : World) (ι : Inj) (lo : Nat) (V : GH),
    unl listed ops.size ≤ fuel → Inv ds P N ops recs e0 h0 hN ι0 w0 listed a w ι lo V → wpAny P .any ops Q fuel listed a w := by
  intro fuel
  induction fuel with
  | zero =>
    intro listed a w ι lo V hf inv
    have hall := unl_zero (Nat.le_zero.1 hf)
    refine ⟨?_, ?_⟩
    · apply List.eq_nil_iff_forall_not_mem.2
      intro i hi
      obtain ⟨h1, h2, _⟩ := ready_spec hi
      have := hall i h1
      unfold LL at this
      have hlt : i < listed.size := by rw [inv.lsz]; exact h1
      simp [hlt] at this h2
      rw [this] at h2; cases h2
    · exact done cx hQ inv hall
  | succ fuel ih =>
    intro listed a w ι lo V hf inv
    refine ⟨fun hr => done cx hQ inv (ready_nil cx inv.lsz hr), fun i hi => ?_⟩
    obtain ⟨h1, h2, h3⟩ := ready_spec hi
    have hlt : i < listed.size := by rw [inv.lsz]; exact h1
    have hL : LL listed i = false := by unfold LL; simp [hlt] at h2 ⊢; exact h2
    obtain ⟨rc, hrc⟩ := rec_at (recs := recs) (k := i) (by rw [cx.len]; exact h1)
    refine inv.exec cx hrc hL h3 (fun a' w' ι' lo' V' inv' => ih _ a' w' ι' lo' V' ?_ inv')
    have := (unl_set hlt hL (n := ops.size)).1 h1
    omega
where
  done {Q : Exit → Act → World → Prop} (cx : Cx P N ops recs e0 eN h0 hN) (hQ : ∀ ι w a, Stp h0 ι0 w0 hN ι w → AR ds ι N eN a → Q .normal a w) {listed : Array Bool} {a : Act} {w : World} {ι : Inj} {lo : Nat} {V : GH}
      (inv : Inv ds P N ops recs e0 h0 hN ι0 w0 listed a w ι lo V) (hall : ∀ k, k < ops.size → LL listed k = true) : Q .normal a w := by
    have hno : ∀ k, lo ≤ k → ¬ EffAt P recs k := fun k h1 h2 => by
      have := inv.hiE k h1 h2
      obtain ⟨rc, e1, _⟩ := h2
      have hk := nth_lt e1
      rw [hall k (by rw [← cx.len]; exact hk)] at this; cases this
    have hend : Hf recs hN recs.length = hN := Hf_end
    have hV : ∀ g, g < hN.next → ι g ≠ .unborn → V.get g = hN.get g := fun g hg hu => by
      by_cases hgl : g < (Hf recs hN lo).next
      · rw [inv.vold g hgl hu]
        have := cx.grow hgl inv.lole (Nat.le_refl _) (fun k h1 _ => hno k h1)
        rw [hend] at this; exact this.symm
      · obtain ⟨k, k1, k2, k3, k4⟩ := inv.vnew g (by omega) hg hu
        obtain ⟨b1, b2, b3⟩ := cx.born k2
        rw [k4]
        have := cx.grow (i := k + 1) (g := g) (by omega) b1 (Nat.le_refl _) (fun k' h1 _ => hno k' (by omega))
        rw [hend] at this; exact this.symm
    have hmlo : (Hf recs hN lo).next ≤ hN.next := by have := cx.next_mono inv.lole (Nat.le_refl _); rwa [hend] at this
    have hm0 : h0.next ≤ (Hf recs hN lo).next := by have := cx.next_mono (i := 0) (j := lo) (Nat.zero_le _) inv.lole; rwa [cx.zero] at this
    refine hQ ι w a ⟨by omega, inv.oldn, inv.farn, ⟨fun g p hg hp => ?_, fun g hg hd => ?_, inv.hr.apart, inv.hr.inb⟩, fun g hg hu => ?_, inv.fr, inv.cov⟩ ⟨fun t => ?_, inv.asz, inv.adf⟩
    · rw [← hV g hg (by rw [hp]; intro h; cases h)]
      exact inv.hr.obj g p (by rw [inv.vn]; exact hg) hp
    · rw [← hV g hg (by rw [hd]; intro h; cases h)]
      exact inv.hr.dead g (by rw [inv.vn]; exact hg) hd
    · rw [← inv.samen g hg hu]
      have := cx.grow (i := lo) (g := g) (by omega) inv.lole (Nat.le_refl _) (fun k h1 _ => hno k h1)
      rw [hend] at this; exact this
    · rw [cx.fin t, ← tvAt_congr (L := LL listed) (fun k rc h1 hk _ => by rw [hall k (by rw [← cx.len]; exact h1)]; rfl)]
      exact inv.tv t
end Go.Proofs.Ytephmpbccajaaaa.Gx

