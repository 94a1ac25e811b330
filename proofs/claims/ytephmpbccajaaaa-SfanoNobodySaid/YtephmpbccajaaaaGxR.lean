/- The plain machine and the model: regions, code, functions: what the plain machine comes to, the model comes to. No condition. -/
import Derived.Test.YtephmpbccajaaaaGxQb
namespace Go.Proofs.Ytephmpbccajaaaa.Gx
open Go Go.RowKit
set_option linter.unusedVariables false
set_option linter.unusedSimpArgs false
variable {P : Program} {β : Type} {r : β}

theorem unl_le {listed : Array Bool} : ∀ n, unl listed n ≤ n
  | 0 => Nat.le_refl _
  | n + 1 => by have := unl_le (listed := listed) n; unfold unl; split <;> omega
theorem LL_rep (n k : Nat) : LL (Array.replicate n false) k = false := by
  unfold LL
  by_cases h : k < n
  · simp [h]
  · simp [h]
theorem tvAt_none (recs : List Rec) (n : Nat) (e : Env) (t : Nat) : ∀ m, tvAt recs (LL (Array.replicate n false)) e t m = e.get t
  | 0 => rfl
  | m + 1 => by
    show (match nth recs m with | some rc => if LL (Array.replicate n false) m = true ∧ rc.o.dst = some t then rc.v else tvAt recs (LL (Array.replicate n false)) e t m | none => tvAt recs (LL (Array.replicate n false)) e t m) = _
    split
    · rw [if_neg (fun h => by rw [LL_rep] at h; cases h.1)]; exact tvAt_none recs n e t m
    · exact tvAt_none recs n e t m
theorem gregion_sim {C : Orc β} (hC : SimOrc P C) (hm : P.follows .mixedOrders = true) {N : Nat} {id : Nat} {ops : Array Oper} {d : Bool} {e : Env} {h : GH} {K : Env → GH → Option β} (hg : gregion P C N ops.toList d e h K = some r) :
    ∃ e' h', K e' h' = some r ∧ ∀ fl, CodeSim fl P N (.region id ops d) e h .normal e' h' := by
  unfold gregion at hg
  have hnd := noDefer_spec (cond_none hg).1
  have hnd' : ∀ (i : Nat) (o : Oper), ops[i]? = some o → isDefer o.op = false := fun i o hi => hnd i o (by simpa using hi)
  replace hg := (cond_none hg).2
  cases d with
  | false =>
    simp only [cond_false] at hg
    obtain ⟨e', h', hK, hn, hs⟩ := gops_sim hC ops.toList 0 rfl hg
    refine ⟨e', h', hK, fun fl => ⟨hn, fun ds ι w a gd ar ro hro n Q hQ => wpIn_mono (wpIn_region (Q := fun x a w => x = .normal ∧ Q .normal a w) ?_) (fun e a w q => q.1 ▸ q.2)⟩⟩
    have := hs ds ι w a gd ar (fun x a w => x = .normal ∧ Q .normal a w) (fun ι' w' a' st ar' => ⟨rfl, hQ ι' w' a' ds st ar' (Mk.refl _ _ _)⟩)
    rw [List.range_eq_range']
    refine ops_in letsOut_normal hnd' _ ?_
    simpa using this
  | true =>
    simp only [cond_true] at hg
    have hok := (cond_none hg).1
    replace hg := (cond_none hg).2
    obtain ⟨recs, eN, hN, rd, ef, hK, htr, hlen, _, _, hef, hrd⟩ := gopsD_tr hC ops.toList 0 rfl hg
    obtain ⟨hK, hchk⟩ := chkAll_spec hK
    obtain ⟨i1, i2, i3⟩ := htr.idx
    simp only [Nat.zero_add] at i2 hef hrd
    unfold drawOk at hok
    simp only [Bool.and_eq_true] at hok
    obtain ⟨⟨⟨o1, o2⟩, o3⟩, o4⟩ := hok
    have cx : Cx P N ops recs e eN h hN := {
      len := by rw [hlen]; simp
      zero := i1
      idx := i2
      fin := i3
      edges := fun k o hk ed he hb => by have := edgesOk_spec ops.toList 0 rfl o1 k o hk ed he hb; simpa using this
      tmps := fun j o i oi hj hi d hd hmem hne => by
        have := tmpsOk_spec ops.toList 0 o2 j o hj i oi hi d hd hmem (by simpa using hne)
        rw [Nat.zero_add] at this
        exact waits_reach this
      effs := fun i j oi oj hlt hi hj ei ej => by
        have := (effsOk_spec ops.toList 0 [] o3).2 i oi j oj hlt hi hj ei ej
        rw [Nat.zero_add, Nat.zero_add] at this
        exact waits_reach this
      rds := fun i j ri rj t x g off hi hj hri hrj ho hx he hnr => by
        have h1 := hrd i ri t x g off hi hri ho hx
        have h2 := hef j rj hj hrj he
        obtain ⟨g', o', he', h3⟩ := hchk _ _ _ h1 _ _ _ h2 (by
          unfold apartB
          cases hw : waits (ancs ops.toList []) (max i j) (min i j) with
          | false => rfl
          | true => exact (hnr (waits_reach hw)).elim)
        cases he'
        exact sameAt_spec h3 }
    have hmono : h.next ≤ hN.next := by
      have := cx.next_mono (i := 0) (j := recs.length) (Nat.zero_le _) (Nat.le_refl _)
      rwa [cx.zero, Hf_end] at this
    refine ⟨eN, hN, hK, fun fl => ⟨hmono, fun ds ι w a gd ar ro hro n Q hQ => wpIn_mono (wpIn_region_any (Q := fun x a w => x = .normal ∧ Q .normal a w) hm (any_in letsOut_normal hnd' _ ?_)) (fun e a w q => q.1 ▸ q.2)⟩⟩
    have hdw : { w with drawn := w.drawn + 1 } = w.drewN 1 := rfl
    rw [hdw]
    have inv : Inv ds P N ops recs e h hN ι w (Array.replicate ops.size false) a (w.drewN 1) ι 0 ⟨hN.next, h.get⟩ := {
      closed := fun j o ho hj => by rw [LL_rep] at hj; cases hj
      lsz := by simp
      asz := ar.size
      adf := ar.defers
      tv := fun t => by rw [tvAt_none]; exact ar.er t
      lole := Nat.zero_le _
      lo0 := .inl rfl
      hiE := fun k _ _ => LL_rep _ _
      vn := rfl
      hr := by
        have hr := gd.hr.drew 1
        refine ⟨fun g p hg hp => ?_, fun g hg hd => ?_, hr.apart, hr.inb⟩
        · by_cases hgl : g < h.next
          · exact hr.obj g p hgl hp
          · rw [gd.free g (by omega) hg] at hp; cases hp
        · by_cases hgl : g < h.next
          · exact hr.dead g hgl hd
          · rw [gd.free g (by omega) hg] at hd; cases hd
      vold := fun g hg hu => by rw [cx.zero]
      vnew := fun g h1 h2 h3 => by rw [cx.zero] at h1; exact (h3 (gd.free g h1 h2)).elim
      unb := fun k g hb _ => by
        obtain ⟨b1, b2, b3⟩ := cx.born hb
        have m1 := cx.next_mono (i := 0) (j := k) (Nat.zero_le _) (Nat.le_of_lt b1)
        have m2 := cx.next_mono (i := k + 1) (j := recs.length) b1 (Nat.le_refl _)
        rw [cx.zero] at m1
        rw [Hf_end] at m2
        exact gd.free g (by omega) (by omega)
      kept := fun k g _ _ h => by omega
      oldn := fun g _ => .inl rfl
      farn := fun g _ => rfl
      samen := fun g _ _ => by rw [cx.zero]
      fr := Fr.drew _ w 1
      cov := fun b i _ => by
        rintro ⟨g, p, h1, h2, h3⟩
        by_cases hgl : g < h.next
        · exact ⟨g, p, hgl, h2, h3⟩
        · rw [gd.free g (by omega) h1] at h2; cases h2 }
    exact inv.all cx (fun ι w a st ar => ⟨rfl, hQ ι w a ds st ar (Mk.refl _ _ _)⟩) ops.size _ a _ ι 0 _ (unl_le _)

/-! ### code -/
/-- which continuation is taken -/
inductive GX | normal | exit (id : Nat) | ret
def GX.toExit : GX → Exit
  | .normal => .normal
  | .exit id => .exit id
  | .ret => .ret
def Kof (Kn : Env → GH → Option β) (Kx : Nat → Env → GH → Option β) (Kr : Env → GH → Option β) : GX → Env → GH → Option β
  | .normal => Kn
  | .exit id => Kx id
  | .ret => Kr
/-- a loop, one round begun -/
def LoopWp (F : Fence) (n : Nat) (P : Program) (c : Code) (Q : Exit → Act → World → Prop) (a : Act) (w : World) : Prop :=
  ∀ (b : Frame) (k : List Item) (cs : List Frame), b.roundOf = F.round → F.fn b.fn → F.room (cs.length + 1 + n) → ∃ e a' w', Q e a' w' ∧ ArrivesIn (Machine.fenced P F) P (lone (b.atR a (.code c :: .inLoop c :: k)) cs w) b k cs e a' w'
theorem LoopWp.loop {F : Fence} {n : Nat} {c : Code} {Q : Exit → Act → World → Prop} {a : Act} {w : World} (h : LoopWp F n P c Q a w) : (Code.loop c).wpIn F n P Q a w := fun b k cs hro hb hr => by
  obtain ⟨e, a', w', hq, harr⟩ := h b k cs hro hb hr
  exact ⟨e, a', w', hq, .of_steps (.one (fenced_calm hb hr rfl) stepR_loop) harr⟩
theorem LoopWp.round {F : Fence} {n : Nat} {c : Code} {Q : Exit → Act → World → Prop} {a : Act} {w : World} (h : c.wpIn F n P (Exit.then (LoopWp F n P c Q) Q) a w) : LoopWp F n P c Q a w := fun b k cs hro hb hr => by
  obtain ⟨e, a₁, w₁, hq, harr⟩ := h b (.inLoop c :: k) cs hro hb hr
  cases e with
  | normal =>
    obtain ⟨e₂, a₂, w₂, hq₂, harr₂⟩ := hq b k cs hro hb hr
    exact ⟨e₂, a₂, w₂, hq₂, .of_steps (StepsIn.trans harr (.one (fenced_calm hb hr rfl) stepR_inLoop)) harr₂⟩
  | exit id => exact ⟨_, a₁, w₁, hq, .pass (x := .inLoop c) rfl (fun _ _ => .inl (by simp)) harr⟩
  | goto l => exact ⟨_, a₁, w₁, hq, .pass (x := .inLoop c) rfl (fun _ _ => .inl (by simp)) harr⟩
  | ret => exact ⟨_, a₁, w₁, hq, .pass (x := .inLoop c) rfl (fun _ _ => .inl (by simp)) harr⟩
  | panic ch => exact ⟨_, a₁, w₁, hq, .pass (x := .inLoop c) rfl (fun _ _ => .inl (by simp)) harr⟩
  | outgrown => exact ⟨_, a₁, w₁, hq, .pass (x := .inLoop c) rfl (fun _ _ => .inl (by simp)) harr⟩
theorem gloop_sim {fl : Prop} {c : Code} {N : Nat} {body : Env → GH → (Env → GH → Option β) → (Nat → Env → GH → Option β) → (Env → GH → Option β) → Option β} {live : List Nat}
    (hb : ∀ {e : Env} {h : GH} {Kn Kx Kr}, body e h Kn Kx Kr = some r → ∃ x e' h', Kof Kn Kx Kr x e' h' = some r ∧ CodeSim fl P N c e h x.toExit e' h') :
    ∀ (n : Nat) {e : Env} {h : GH} {Kx Kr}, gloop body live n e h Kx Kr = some r → ∃ x e' h', Kof (fun _ _ => none) Kx Kr x e' h' = some r ∧ h.next ≤ h'.next ∧
      ∀ ds ι w a, Good ι h h'.next w → AR ds ι N e a → ∀ (ro : Option Nat), (fl → ro = none) → ∀ (m : Nat) (Q : Exit → Act → World → Prop), (∀ ι' w' a' ds', Stp h ι w h' ι' w' → AR ds' ι' N e' a' → Mk w w' ds ds' → Q x.toExit a' w') → LoopWp (Fw ro) m P c Q a w := by
  intro n
  induction n with
  | zero => intro e h Kx Kr hg; cases hg
  | succ n ih =>
    intro e h Kx Kr hg
    unfold gloop at hg
    obtain ⟨x, e1, h1, hK, hn1, hs1⟩ := hb hg
    cases x with
    | normal =>
      obtain ⟨x, e', h', hK, hn, hs⟩ := ih hK
      refine ⟨x, e', h', hK, Nat.le_trans hn1 hn, fun ds ι w a gd ar ro hro m Q hQ => LoopWp.round ?_⟩
      refine hs1 ds ι w a (gd.less hn) ar ro hro m _ (fun ι1 w1 a1 ds1 st ar1 mk => ?_)
      exact hs ds1 ι1 w1 a1 (gd.step st) (ar1.only live) ro hro m Q (fun ι2 w2 a2 ds2 st2 ar2 mk2 => hQ ι2 w2 a2 ds2 (st.trans st2) ar2 (mk.trans st.fr.size st.hr st2 mk2))
    | exit id => exact ⟨.exit id, e1, h1, hK, hn1, fun ds ι w a gd ar ro hro m Q hQ => LoopWp.round (hs1 ds ι w a gd ar ro hro m _ (fun ι1 w1 a1 ds1 st ar1 mk => hQ ι1 w1 a1 ds1 st ar1 mk))⟩
    | ret => exact ⟨.ret, e1, h1, hK, hn1, fun ds ι w a gd ar ro hro m Q hQ => LoopWp.round (hs1 ds ι w a gd ar ro hro m _ (fun ι1 w1 a1 ds1 st ar1 mk => hQ ι1 w1 a1 ds1 st ar1 mk))⟩
theorem AR.joinE {ds : List Deferred} {ι : Inj} {N : Nat} {e : Env} {a : Act} (h : AR ds ι N e a) (H : Hints) (b : Code) : AR ds ι N (joinE H b e) a := by
  unfold Gx.joinE
  split
  · exact h
  · split
    · exact h.only _
    · exact h
theorem castV_sim {t : TypeId} {v : Value} {K : Value → Option β} (hg : castV P t v K = some r) : K v = some r := by
  unfold castV at hg
  split at hg
  · cases hg
  · rename_i d hd
    cases ha : aggD d with
    | true =>
      rw [ha] at hg
      simp only [cond_true] at hg
      split at hg
      · rename_i n hn
        unfold exAg at hg
        split at hg
        · rename_i cs
          have h1 := Nat.eq_of_beq_eq_true (cond_none hg).1
          replace hg := (cond_none hg).2
          cases hb : (Nat.ble n small && Nat.beq (flat P 4 t).length n) with
          | true =>
            rw [hb] at hg
            simp only [cond_true] at hg
            obtain ⟨vs, hl, hf, hg⟩ := exN_some hg
            simp only [Bool.and_eq_true] at hb
            have hl' : vs.length = n := hl.trans (Nat.eq_of_beq_eq_true hb.2)
            have : vs = cs.toList := by
              apply List.ext_getElem?
              intro i
              by_cases hi : i < vs.length
              · have := hf i hi; simp only [Nat.zero_add, nth_eq] at this; exact this.symm
              · rw [List.getElem?_eq_none (by omega), List.getElem?_eq_none (by omega)]
            rw [this] at hg
            simpa using hg
          | false =>
            rw [hb] at hg
            simpa using hg
        · cases hg
      · cases hg
    | false =>
      rw [ha] at hg
      simp only [cond_false] at hg
      obtain ⟨v', hv, hg⟩ := exK_some hg
      cases hv
      exact hg
theorem exKs_sim : ∀ {ks : List CK} {vs : List Value} {K : List Value → Option β}, exKs ks vs K = some r → K vs = some r
  | [], [], K, hg => hg
  | [], _ :: _, K, hg => by cases hg
  | k :: ks, [], K, hg => by cases hg
  | k :: ks, v :: vs, K, hg => by
    simp only [exKs] at hg
    obtain ⟨v', hv, hg⟩ := exK_some hg
    cases hv
    exact exKs_sim (ks := ks) (K := fun vs' => K (v :: vs')) hg
theorem castC_sim {t : CT} {v : Value} {K : Value → Option β} (hg : castC P t v K = some r) : K v = some r := by
  cases t with
  | ty t => exact castV_sim hg
  | nilf =>
    simp only [castC] at hg
    split at hg
    · exact hg
    · cases hg
  | fn f fs cs =>
    simp only [castC, exF] at hg
    split at hg
    · rename_i f' a c
      obtain ⟨hf, hg⟩ := cond_none hg
      obtain rfl := Nat.eq_of_beq_eq_true hf
      have h2 := exKs_sim (exKs_sim hg)
      simpa using h2
    · cases hg
theorem castE_sim {e : Env} : ∀ {ts : List (Nat × CT)} {K : Env → Option β}, castE P ts e K = some r → ∃ e', K e' = some r ∧ ∀ ds ι N a, AR ds ι N e a → AR ds ι N e' a
  | [], K, hg => ⟨[], hg, fun ds ι N a ar => ⟨fun t => .un _, ar.size, ar.defers⟩⟩
  | (t, ty) :: ts, K, hg => by
    unfold castE at hg
    have hg := castC_sim hg
    obtain ⟨e', hK, hs⟩ := castE_sim (ts := ts) hg
    exact ⟨_, hK, fun ds ι N a ar => ⟨fun x => by
      rw [env_get_cons]
      split
      · rename_i h; subst h; exact ar.er t
      · exact (hs ds ι N a ar).er x, ar.size, ar.defers⟩⟩
theorem exitsK_sim {Kx : Nat → Env → GH → Option β} {i : Nat} {e : Env} {h : GH} : ∀ {outs : List (Nat × List (Nat × CT))}, exitsK P outs Kx i e h = some r → ∃ e', Kx i e' h = some r ∧ ∀ ds ι N a, AR ds ι N e a → AR ds ι N e' a
  | [], hg => by cases hg
  | (id, ts) :: outs, hg => by
    unfold exitsK at hg
    by_cases hi : i = id
    · subst hi
      simp only [beq_self, cond_true] at hg
      exact castE_sim hg
    · simp only [beq_ne hi, cond_false] at hg
      exact exitsK_sim (outs := outs) hg
theorem exI_of {k : IntKind} {v : Option Value} {K : Int → Option β} (h : exI k v K = some r) : ∃ n, v = some (.int k n) ∧ K n = some r := by
  unfold exI at h
  split at h
  · rename_i k' n
    obtain ⟨hk, h'⟩ := cond_none h
    obtain rfl := of_decide_eq_true hk
    exact ⟨n, rfl, h'⟩
  · cases h
theorem exS_of {v : Option Value} {K : Sl → Option β} (h : exS v K = some r) : ∃ s : Sl, v = some (.slice s.a s.n s.c) ∧ K s = some r := by
  unfold exS at h
  split at h
  · rename_i a n c
    exact ⟨⟨a, n, c⟩, rfl, h⟩
  · cases h
theorem CodeSim.fl {f1 f2 : Prop} {N : Nat} {c : Code} {e e' : Env} {h h' : GH} {x : Exit} (s : CodeSim f1 P N c e h x e' h') (hf : f1 → f2) : CodeSim f2 P N c e h x e' h' :=
  ⟨s.1, fun ds ι w a gd ar ro hro => s.2 ds ι w a gd ar ro fun q => hro (hf q)⟩
theorem gback_tr {N : Nat} {a b : Code} {e : Env} {p0 p1 : Nat} {s : Sl} {gB oB : Nat} {rnd : Int → Int → GH → (GH → Option β) → Option β}
    (hrnd : ∀ {i z : Int} {h : GH} {K : GH → Option β}, rnd i z h K = some r → ∃ h', K h' = some r ∧ RoundSim P N a b ((p1, .int .i64 z) :: (p0, .int .i64 i) :: e) h h') {K : GH → Option β} :
    ∀ (i : Nat) {h : GH}, gback s gB oB rnd i h K = some r → ∃ H : Nat → GH, H 0 = h ∧ K (H i) = some r ∧ ∀ k, k < i → ∃ z ga o, s.a = some ⟨ga, o, none⟩ ∧ (H k).cell ⟨ga, o + (i - 1 - k), none⟩ = some (.int .i64 z) ∧
      RoundSim P N a b ((p1, .int .i64 z) :: (p0, .int .i64 ((i - 1 - k : Nat) : Int)) :: e) (H k) (H (k + 1)) ∧ (H k).cell ⟨gB, oB, none⟩ = (H (k + 1)).cell ⟨gB, oB, none⟩ ∧ ∀ j, j < s.n → (H k).cell ⟨ga, o + j, none⟩ = (H (k + 1)).cell ⟨ga, o + j, none⟩ := by
  intro i
  induction i with
  | zero => intro h hg; exact ⟨fun _ => h, rfl, hg, fun k hk => by omega⟩
  | succ i ih =>
    intro h hg
    unfold gback at hg
    obtain ⟨ga, o, ha, hg⟩ := exA_some hg
    obtain ⟨z, hz, hg⟩ := exI_of hg
    obtain ⟨h', hg, hrs⟩ := hrnd hg
    obtain ⟨hsm, hg⟩ := cond_none hg
    simp only [Bool.and_eq_true] at hsm
    obtain ⟨H, h0, hK, hr⟩ := ih hg
    refine ⟨fun k => match k with | 0 => h | k + 1 => H k, rfl, hK, fun k hk => ?_⟩
    cases k with
    | zero =>
      refine ⟨z, ga, o, ha, by simpa using hz, by simpa [h0] using hrs, ?_, fun j hj => ?_⟩
      · have := (sameAt_spec hsm.1 0 (by omega)).1
        simpa [h0] using this
      · have := (sameAt_spec hsm.2 j hj).1
        simpa [h0] using this
    | succ k =>
      obtain ⟨z, ga, o, q1, q2, q3, q4, q5⟩ := hr k (by omega)
      have e1 : i + 1 - 1 - (k + 1) = i - 1 - k := by omega
      exact ⟨z, ga, o, q1, by rw [e1]; exact q2, by rw [e1]; exact q3, q4, q5⟩
theorem grange_sim {bk : List Nat} (hB : ∀ f, memN f bk = true → BackOk P f) {N : Nat} {a b : Code} {g : Operand} {ps : Array Tmp} {fl : Prop} (hfl : fl) {rnd : Env → GH → (GH → Option β) → Option β}
    (hrnd : ∀ {e h K}, rnd e h K = some r → ∃ h', K h' = some r ∧ RoundSim P N a b e h h') {e : Env} {h : GH} {K : GH → Option β} (hg : grange bk N (e.eval g) ps.toList rnd e h K = some r) :
    ∃ h', K h' = some r ∧ CodeSim fl P N (.rangeFunc g ps a b) e h .normal e h' := by
  unfold grange at hg
  split at hg
  · rename_i f fs cs p0 p1 hv hps
    split at hg
    · rename_i p hfs hcs
      obtain ⟨hc, hg⟩ := cond_none hg
      simp only [Bool.and_eq_true] at hc
      obtain ⟨gB, oB, hp, hg2⟩ := exA_some hg
      obtain ⟨s, hs, hg3⟩ := exS_of hg2
      obtain ⟨hl, hg4⟩ := cond_none hg3
      obtain ⟨H, h0, hK, hr⟩ := gback_tr (a := a) (b := b) (N := N) (e := e) (p0 := p0) (p1 := p1) (fun hg => hrnd hg) s.n hg4
      clear hg hg2 hg3 hg4
      subst hp
      obtain ⟨l⟩ := ps
      simp only at hps
      subst hps
      obtain ⟨lf⟩ := fs
      obtain ⟨lc⟩ := cs
      simp only at hfs hcs
      subst hfs hcs
      exact ⟨_, hK, range_sim (hB f hc.1.1) hv hs (of_blt' hc.1.2) (of_blt' hc.2) (Nat.le_of_ble_eq_true hl) hfl h0 hr⟩
    · cases hg
  · cases hg
theorem gcode_sim {C : Orc β} (hC : SimOrc P C) (hm : P.follows .mixedOrders = true) {N : Nat} {H : Hints} (hB : ∀ f, memN f H.back = true → BackOk P f) {R : Nat} : ∀ (c : Code) {e : Env} {h : GH} {Kn Kx Kr}, gcode P C N H R c e h Kn Kx Kr = some r →
    ∃ x e' h', Kof Kn Kx Kr x e' h' = some r ∧ CodeSim (hasRange c = true) P N c e h x.toExit e' h' := by
  intro c
  induction c with
  | skip => intro e h Kn Kx Kr hg; exact ⟨.normal, e, h, hg, Nat.le_refl _, fun ds ι w a gd ar ro hro m Q hQ => wpIn_skip (hQ ι w a ds (Stp.refl gd.hr) ar (Mk.refl _ _ _))⟩
  | label l => intro e h Kn Kx Kr hg; exact ⟨.normal, e, h, hg, Nat.le_refl _, fun ds ι w a gd ar ro hro m Q hQ => wpIn_label (hQ ι w a ds (Stp.refl gd.hr) ar (Mk.refl _ _ _))⟩
  | exit id => intro e h Kn Kx Kr hg; exact ⟨.exit id, e, h, hg, Nat.le_refl _, fun ds ι w a gd ar ro hro m Q hQ => wpIn_exit (hQ ι w a ds (Stp.refl gd.hr) ar (Mk.refl _ _ _))⟩
  | ret => intro e h Kn Kx Kr hg; exact ⟨.ret, e, h, hg, Nat.le_refl _, fun ds ι w a gd ar ro hro m Q hQ => wpIn_ret (hQ ι w a ds (Stp.refl gd.hr) ar (Mk.refl _ _ _))⟩
  | region id ops d =>
    intro e h Kn Kx Kr hg
    obtain ⟨e', h', hK, hs⟩ := gregion_sim (id := id) hC hm hg
    exact ⟨.normal, e', h', hK, hs _⟩
  | seq a b iha ihb =>
    intro e h Kn Kx Kr hg
    unfold gcode at hg
    obtain ⟨x, e1, h1, hK, hn1, hs1⟩ := iha hg
    cases x with
    | normal =>
      obtain ⟨x, e', h', hK, hn, hs⟩ := ihb hK
      refine ⟨x, e', h', hK, Nat.le_trans hn1 hn, fun ds ι w ac gd ar ro hro m Q hQ => wpIn_seq ?_⟩
      refine hs1 ds ι w ac (gd.less hn) ar ro (fun q => hro (by unfold hasRange; rw [q]; rfl)) m _ (fun ι1 w1 a1 ds1 st ar1 mk => ?_)
      exact hs ds1 ι1 w1 a1 (gd.step st) (ar1.joinE H b) ro (fun q => hro (by unfold hasRange; rw [q]; exact Bool.or_true _)) m Q (fun ι2 w2 a2 ds2 st2 ar2 mk2 => hQ ι2 w2 a2 ds2 (st.trans st2) ar2 (mk.trans st.fr.size st.hr st2 mk2))
    | exit id => exact ⟨.exit id, e1, h1, hK, hn1, fun ds ι w ac gd ar ro hro m Q hQ => wpIn_seq (hs1 ds ι w ac gd ar ro (fun q => hro (by unfold hasRange; rw [q]; rfl)) m _ (fun ι1 w1 a1 ds1 st ar1 mk => hQ ι1 w1 a1 ds1 st ar1 mk))⟩
    | ret => exact ⟨.ret, e1, h1, hK, hn1, fun ds ι w ac gd ar ro hro m Q hQ => wpIn_seq (hs1 ds ι w ac gd ar ro (fun q => hro (by unfold hasRange; rw [q]; rfl)) m _ (fun ι1 w1 a1 ds1 st ar1 mk => hQ ι1 w1 a1 ds1 st ar1 mk))⟩
  | cond c a b iha ihb =>
    intro e h Kn Kx Kr hg
    unfold gcode at hg
    split at hg
    · rename_i t ht
      cases t with
      | true =>
        obtain ⟨x, e', h', hK, hn, hs⟩ := iha hg
        refine ⟨x, e', h', hK, hn, fun ds ι w ac gd ar ro hro m Q hQ => ?_⟩
        have hv := ar.er.eval c
        rw [ht] at hv
        exact wpIn_cond_true hv.bool (hs ds ι w ac gd ar ro (fun q => hro (by unfold hasRange; rw [q]; rfl)) m Q hQ)
      | false =>
        obtain ⟨x, e', h', hK, hn, hs⟩ := ihb hg
        refine ⟨x, e', h', hK, hn, fun ds ι w ac gd ar ro hro m Q hQ => ?_⟩
        have hv := ar.er.eval c
        rw [ht] at hv
        exact wpIn_cond_false hv.bool (hs ds ι w ac gd ar ro (fun q => hro (by unfold hasRange; rw [q]; exact Bool.or_true _)) m Q hQ)
    · cases hg
  | block id b ih =>
    intro e h Kn Kx Kr hg
    unfold gcode at hg
    obtain ⟨x, e1, h1, hK, hn1, hs1⟩ := ih hg
    cases x with
    | normal => exact ⟨.normal, e1, h1, hK, hn1, fun ds ι w ac gd ar ro hro m Q hQ => wpIn_block (hs1 ds ι w ac gd ar ro hro m _ (fun ι1 w1 a1 ds1 st ar1 mk => hQ ι1 w1 a1 ds1 st ar1 mk))⟩
    | ret => exact ⟨.ret, e1, h1, hK, hn1, fun ds ι w ac gd ar ro hro m Q hQ => wpIn_block (hs1 ds ι w ac gd ar ro hro m _ (fun ι1 w1 a1 ds1 st ar1 mk => hQ ι1 w1 a1 ds1 st ar1 mk))⟩
    | exit i =>
      by_cases hi : i = id
      · subst hi
        simp only [Kof, beq_self, cond_true] at hK
        exact ⟨.normal, e1, h1, hK, hn1, fun ds ι w ac gd ar ro hro m Q hQ => wpIn_block (hs1 ds ι w ac gd ar ro hro m _ (fun ι1 w1 a1 ds1 st ar1 mk => by
          show (if i = i then Q .normal a1 w1 else _)
          rw [if_pos rfl]; exact hQ ι1 w1 a1 ds1 st ar1 mk))⟩
      · simp only [Kof, beq_ne hi, cond_false] at hK
        exact ⟨.exit i, e1, h1, hK, hn1, fun ds ι w ac gd ar ro hro m Q hQ => wpIn_block (hs1 ds ι w ac gd ar ro hro m _ (fun ι1 w1 a1 ds1 st ar1 mk => by
          show (if i = id then Q .normal a1 w1 else Q (.exit i) a1 w1)
          rw [if_neg hi]; exact hQ ι1 w1 a1 ds1 st ar1 mk))⟩
  | loop b ih =>
    intro e h Kn Kx Kr hg
    unfold gcode at hg
    obtain ⟨x, e1, h1, hK, hn, hs⟩ := gloop_sim ih _ hg
    cases x with
    | normal => cases hK
    | exit i =>
      obtain ⟨e2, hK, ha⟩ := exitsK_sim hK
      exact ⟨.exit i, e2, h1, hK, hn, fun ds ι w ac gd ar ro hro m Q hQ => LoopWp.loop (hs ds ι w ac gd (ar.only _) ro hro m Q (fun ι1 w1 a1 ds1 st ar1 mk => hQ ι1 w1 a1 ds1 st (ha _ _ _ _ ar1) mk))⟩
    | ret =>
      cases ho : (loopH H b).2.2 with
      | none => rw [ho] at hK; cases hK
      | some ts =>
      rw [ho] at hK
      obtain ⟨e2, hK, ha⟩ := castE_sim (K := fun e' => Kr e' h1) hK
      exact ⟨.ret, e2, h1, hK, hn, fun ds ι w ac gd ar ro hro m Q hQ => LoopWp.loop (hs ds ι w ac gd (ar.only _) ro hro m Q (fun ι1 w1 a1 ds1 st ar1 mk => hQ ι1 w1 a1 ds1 st (ha _ _ _ _ ar1) mk))⟩
  | rangeFunc g ps a b iha ihb =>
    intro e h Kn Kx Kr hg
    unfold gcode at hg
    cases hrg : (hasRange a || hasRange b) with
    | true => rw [hrg] at hg; cases hg
    | false =>
    rw [hrg] at hg
    simp only [cond_false] at hg
    simp only [Bool.or_eq_false_iff] at hrg
    obtain ⟨h', hK, hs⟩ := grange_sim hB (a := a) (b := b) (g := g) (ps := ps) (fl := hasRange (.rangeFunc g ps a b) = true) rfl (fun {e1 h1 K} hg => by
      obtain ⟨x, e2, h2, hK2, hs2⟩ := iha hg
      cases x with
      | exit id => cases hK2
      | ret => cases hK2
      | normal =>
        obtain ⟨y, e3, h3, hK3, hs3⟩ := ihb hK2
        cases y with
        | exit id => cases hK3
        | ret => cases hK3
        | normal => exact ⟨h3, hK3, e2, h2, e3, hs2.fl (by rw [hrg.1]; simp), hs3.fl (by rw [hrg.2]; simp)⟩) hg
    exact ⟨.normal, e, h', hK, hs⟩
  | _ => intro e h Kn Kx Kr hg; cases hg

/-! ### functions -/
theorem parE_get : ∀ (args : List Value) (i t : Nat), (parE args i).get t = if i ≤ t then (match nth args (t - i) with | some v => v | none => undef) else undef
  | [], i, t => by split <;> simp [parE, Env.get, nth]
  | v :: l, i, t => by
    rw [show parE (v :: l) i = (i, v) :: parE l (i + 1) from rfl, env_get_cons]
    by_cases h : i = t
    · subst h; simp [nth]
    · rw [if_neg h, parE_get l (i + 1) t]
      by_cases h' : i ≤ t
      · rw [if_pos (by omega), if_pos h', show t - i = (t - (i + 1)) + 1 by omega]; rfl
      · rw [if_neg (by omega), if_neg h']
def resOf (tmps : Array Value) : ResultVar → Sem Value
  | .tmp t => pure (tmps.getD t undef)
  | .cell ad t => do loadVar t (← asAddr (tmps.getD ad undef))
theorem gress_sim {e : Env} {h : GH} : ∀ {rs : List ResultVar} {K : List Value → Option β}, gress P e h rs K = some r →
    ∃ vs, K vs = some r ∧ ∀ ι w a, HR ι h w → ER ι e a → ∃ rvs, All2 (VR ι) vs rvs ∧ (rs.mapM (resOf a.tmps)).run P w = .ok rvs w
  | [], K, hg => ⟨[], hg, fun ι w a hr er => ⟨[], .nil, rfl⟩⟩
  | .tmp t :: rs, K, hg => by
    obtain ⟨vs, hK, hs⟩ := gress_sim (rs := rs) hg
    refine ⟨_, hK, fun ι w a hr er => ?_⟩
    obtain ⟨rvs, h1, h2⟩ := hs ι w a hr er
    exact ⟨_, .cons (er t) h1, by simp only [List.mapM_cons, Sem.run_bind, resOf, Sem.run_pure, Result.andThen_ok, h2]⟩
  | .cell ad t :: rs, K, hg => by
    unfold gress at hg
    split at hg
    · rename_i p hp
      obtain ⟨g, o, rfl, hg'⟩ := exA_some hg
      obtain ⟨v, b, hK, hpos, hb, hle, hld⟩ := gload_sim hg'
      obtain ⟨vs, hK, hs⟩ := gress_sim (rs := rs) hK
      refine ⟨_, hK, fun ι w a hr er => ?_⟩
      obtain ⟨rvs, h1, h2⟩ := hs ι w a hr er
      have hx := er ad
      rw [hp] at hx
      obtain ⟨hg1, hg2⟩ := look_get hb
      rcases hx.someP with ⟨p, hpl, he⟩ | ⟨hd, _⟩
      · obtain ⟨rv, h3, h4⟩ := hld b hle (fun _ _ => rfl) ι p w (row_at hr hg1 hpl hg2)
        refine ⟨rv :: rvs, .cons h3 h1, ?_⟩
        simp only [Instr.loadAt, Instr.sureAddr, Sem.run_bind, Sem.run_pure, Result.andThen_ok] at h4
        simp only [List.mapM_cons, Sem.run_bind, resOf, he, asAddr, Sem.run_pure, Result.andThen_ok, h4, h2]
      · rw [hr.dead g hg1 hd] at hg2; cases hg2
    · cases hg
theorem results_run {fn : Func} {a : Act} {w : World} {rvs : List Value} (h : (fn.results.toList.mapM (resOf a.tmps)).run P w = .ok rvs w) :
    (results fn a.tmps).run P w = .ok (oneOf rvs) w := by
  have e : results fn a.tmps = (do let vs ← fn.results.mapM (resOf a.tmps); pure (if h : vs.size = 1 then vs[0] else .tuple vs)) := by
    unfold results
    congr 2
  rw [e, Array.mapM_eq_mapM_toList]
  simp only [Sem.run_bind, map_eq_pure_bind, h, Result.andThen_ok, Sem.run_pure]
  congr 1
  cases rvs with
  | nil => rfl
  | cons v l => cases l with
    | nil => rfl
    | cons u l => simp [oneOf]
theorem VR.oneOf {ι : Inj} {vs rvs : List Value} (h : All2 (VR ι) vs rvs) : VR ι (oneOf vs) (oneOf rvs) := by
  cases h with
  | nil => exact .un _
  | cons h1 h2 => cases h2 with
    | nil => exact h1
    | cons h2 h3 => exact .mkTup (by simpa [Gx.oneOf] using All2.cons h1 (.cons h2 h3))
/-- A body that is come through is a call. -/
theorem code_call {f : FuncId} {fn : Func} {c : Code} (hf : P.funcs[f]? = some fn) (hnm : (fn.name == "runtime.NumGoroutine") = false) (hc : fn.body = some c) {args : List Value} {h h' : GH} {e' : Env} {x : GX} {K : Value → GH → Option β} (hlen : args.length ≤ fn.ntmps)
    (hK : Kof (gend P fn K) (fun _ _ _ => none) (gend P fn K) x e' h' = some r) {fl : Prop} (hs : CodeSim fl P fn.ntmps c (parE args 0) h x.toExit e' h') : ∃ v h', K v h' = some r ∧ CallSim P f args h v h' := by
    obtain ⟨hn, hs⟩ := hs
    have hx : ∃ vs, K (oneOf vs) h' = some r ∧ (x.toExit = .normal ∨ x.toExit = .ret) ∧ ∀ ι w a, HR ι h' w → ER ι e' a → ∃ rvs, All2 (VR ι) vs rvs ∧ (fn.results.toList.mapM (resOf a.tmps)).run P w = .ok rvs w := by
      cases x with
      | exit id => cases hK
      | normal => unfold Kof gend at hK; obtain ⟨vs, h1, h2⟩ := gress_sim hK; exact ⟨vs, h1, .inl rfl, h2⟩
      | ret => unfold Kof gend at hK; obtain ⟨vs, h1, h2⟩ := gress_sim hK; exact ⟨vs, h1, .inr rfl, h2⟩
    obtain ⟨vs, hKv, hxe, hres⟩ := hx
    refine ⟨_, h', hKv, ⟨fn, hf, hnm, by rw [hc]; rfl⟩, hn, fun ι w rargs gd hargs => callsOf_Fw (n := 0) (callsIn_of_wp_marks hf hc trivial ?_)⟩
    have hal := hargs.length
    have ar : AR [] ι fn.ntmps (parE args 0) { tmps := rargs.toArray ++ Array.replicate (fn.ntmps - rargs.toArray.size) undef, defers := [] } := by
      refine ⟨fun t => ?_, by simp; omega, rfl⟩
      rw [parE_get, if_pos (Nat.zero_le _), Nat.sub_zero]
      split
      · rename_i v hv
        obtain ⟨rv, h1, h2⟩ := hargs.get hv
        have hlt := nth_lt h1
        have : (rargs.toArray ++ Array.replicate (fn.ntmps - rargs.toArray.size) undef).getD t undef = rv := by
          rw [Array.getD_eq_getD_getElem?, Array.getElem?_append_left (by simpa using hlt)]
          rw [nth_eq] at h1
          simp [h1]
        show VR ι v ((rargs.toArray ++ Array.replicate (fn.ntmps - rargs.toArray.size) undef).getD t undef)
        rw [this]; exact h2
      · exact .un _
    refine hs [] ι w _ gd ar none (fun _ => rfl) 0 _ (fun ι1 w1 a1 ds1 st ar1 mk => ?_)
    obtain ⟨ms, e1, hnd, hm⟩ := mk
    rw [List.append_nil] at e1
    subst e1
    have leave : ∀ (ds : List Deferred) (w2 : World), ds.Nodup → (∀ d ∈ ds, ∃ D, d = { target := .collected D, args := #[] } ∧ w.heap.size ≤ D ∧ w2.heap[D]? = some (.deferred (some []))) → Stp h ι w h' ι1 w2 →
        LeavesInM (Fw none) 0 P fn a1.tmps (fun e W => ∃ rv ι', e = .returned rv ∧ Stp h ι w h' ι' W ∧ VR ι' (oneOf vs) rv) ds .returning w2 := by
      intro ds
      induction ds with
      | nil =>
        intro w2 _ _ st2
        obtain ⟨rvs, h1, h2⟩ := hres ι1 w2 a1 st2.hr ar1.er
        exact ⟨_, results_run h2, _, ι1, rfl, st2, VR.oneOf h1⟩
      | cons d ds ih =>
        intro w2 hnd hm st2
        obtain ⟨D, rfl, hD, hb⟩ := hm d List.mem_cons_self
        refine ⟨fun h => (nomatch h), .inl ⟨D, _, rfl, run_takeDeferred hb, ?_⟩⟩
        refine ih _ (List.nodup_cons.1 hnd).2 (fun d' hd' => ?_) (st2.turn (Turn.put hb rfl rfl) (fun b hlt => World.putObj_heap_other (by omega)))
        obtain ⟨D', rfl, hD', hb'⟩ := hm d' (List.mem_cons_of_mem _ hd')
        refine ⟨D', rfl, hD', (World.putObj_heap_other fun e => ?_).trans hb'⟩
        subst e; exact (List.nodup_cons.1 hnd).1 hd'
    have hl := leave ds1 w1 hnd hm st
    have hd : a1.defers = ds1 := ar1.defers
    rw [← hd] at hl
    rcases hxe with e | e <;> rw [e] <;> exact hl
/-- WHAT THE PLAIN MACHINE COMES TO, THE MODEL'S CALL COMES TO. -/
theorem gfun_sim {C : Orc β} (hC : SimOrc P C) (hm : P.follows .mixedOrders = true) {H : Hints} (hB : ∀ f, memN f H.back = true → BackOk P f) {R : Nat} {f : FuncId} {fn : Func} (hf : P.funcs[f]? = some fn) (hnm : (fn.name == "runtime.NumGoroutine") = false) {args : List Value} {h : GH} {K : Value → GH → Option β}
    (hg : gfun P C H R fn args h K = some r) : ∃ v h', K v h' = some r ∧ CallSim P f args h v h' := by
  unfold gfun at hg
  split at hg
  · cases hg
  · rename_i c hc
    have hlen := Nat.le_of_ble_eq_true (cond_none hg).1
    replace hg := (cond_none hg).2
    obtain ⟨x, e', h', hK, hs⟩ := gcode_sim hC hm hB c hg
    exact code_call hf hnm hc hlen hK hs
end Go.Proofs.Ytephmpbccajaaaa.Gx

