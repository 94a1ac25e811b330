/- The plain machine, run whole: an oracle that runs each function's own code, for calls that are known throughout (a law's 'lives'). No condition. -/
import Derived.Test.YtephmpbccajaaaaGxW
namespace Go.Proofs.Ytephmpbccajaaaa.Gx
open Go Go.RowKit
set_option linter.unusedVariables false
set_option linter.unusedSimpArgs false
variable {P : Program} {β : Type} {r : β}
section
variable (P)
/-- code as it stands: nothing is forgotten but at a loop's head -/
def ucode (bk : List Nat) (C : Orc β) (N : Nat) (LV : Nat → Option (List Nat)) (R : Nat) : Code → Env → GH → (Env → GH → Option β) → (Nat → Env → GH → Option β) → (Env → GH → Option β) → Option β
  | .skip, e, h, Kn, _, _ => Kn e h
  | .label _, e, h, Kn, _, _ => Kn e h
  | .region _ ops d, e, h, Kn, _, _ => gregion P C N ops.toList d e h Kn
  | .seq a b, e, h, Kn, Kx, Kr => ucode bk C N LV R a e h (fun e' h' => ucode bk C N LV R b e' h' Kn Kx Kr) Kx Kr
  | .cond c a b, e, h, Kn, Kx, Kr => (match e.eval c with
    | .bool t => bif t then ucode bk C N LV R a e h Kn Kx Kr else ucode bk C N LV R b e h Kn Kx Kr
    | _ => none)
  | .block id b, e, h, Kn, Kx, Kr => ucode bk C N LV R b e h Kn (fun i e' h' => bif Nat.beq i id then Kn e' h' else Kx i e' h') Kr
  | .loop b, e, h, _, Kx, Kr => (match lead b with
    | none => none
    | some k => (match LV k with
      | none => none
      | some live => gloop (ucode bk C N LV R b) live R (e.only live) h Kx Kr))
  | .exit id, e, h, _, Kx, _ => Kx id e h
  | .ret, e, h, _, _, Kr => Kr e h
  | .rangeFunc g ps a b, e, h, Kn, _, _ => bif hasRange a || hasRange b then none else grange bk N (e.eval g) ps.toList (fun e h K => ucode bk C N LV R a e h (fun e h => ucode bk C N LV R b e h (fun _ h => K h) (fun _ _ _ => none) (fun _ _ => none)) (fun _ _ _ => none) (fun _ _ => none)) e h (fun h => Kn e h)
  | _, _, _, _, _, _ => none
def ufun (bk : List Nat) (C : Orc β) (LV : Nat → Option (List Nat)) (R : Nat) (fn : Func) (args : List Value) (h : GH) (K : Value → GH → Option β) : Option β := match fn.body with
  | none => none
  | some c => bif Nat.ble args.length fn.ntmps then ucode P bk C fn.ntmps LV R c (parE args 0) h (gend P fn K) (fun _ _ _ => none) (gend P fn K) else none
/-- the oracle that runs: X tells a function's text and what lives at its loops; E stands for those that have no text -/
def uorc (bk : List Nat) (X : FuncId → Option (Func × (Nat → Option (List Nat)))) (E : Orc β) (R : Nat) : Nat → Orc β
  | 0 => fun _ _ _ _ => none
  | n + 1 => fun f args h K => match X f with
    | some (fn, LV) => ufun P bk (uorc bk X E R n) LV R fn args h K
    | none => E f args h K
end
theorem ucode_sim {C : Orc β} (hC : SimOrc P C) (hm : P.follows .mixedOrders = true) {N : Nat} {LV : Nat → Option (List Nat)} {bk : List Nat} (hB : ∀ f, memN f bk = true → BackOk P f) {R : Nat} : ∀ (c : Code) {e : Env} {h : GH} {Kn Kx Kr}, ucode P bk C N LV R c e h Kn Kx Kr = some r →
    ∃ x e' h', Kof Kn Kx Kr x e' h' = some r ∧ CodeSim (hasRange c = true) P N c e h x.toExit e' h' := by
  intro c
  induction c with
  | skip => intro e h Kn Kx Kr hg; exact ⟨.normal, e, h, hg, Nat.le_refl _, fun ds ι w a gd ar ro hro m Q hQ => wpIn_skip (hQ ι w a ds (Stp.refl gd.hr) ar (Mk.refl _ _ _))⟩
  | label l => intro e h Kn Kx Kr hg; exact ⟨.normal, e, h, hg, Nat.le_refl _, fun ds ι w a gd ar ro hro m Q hQ => wpIn_label (hQ ι w a ds (Stp.refl gd.hr) ar (Mk.refl _ _ _))⟩
  | exit id => intro e h Kn Kx Kr hg; exact ⟨.exit id, e, h, hg, Nat.le_refl _, fun ds ι w a gd ar ro hro m Q hQ => wpIn_exit (hQ ι w a ds (Stp.refl gd.hr) ar (Mk.refl _ _ _))⟩
  | ret => intro e h Kn Kx Kr hg; exact ⟨.ret, e, h, hg, Nat.le_refl _, fun ds ι w a gd ar ro hro m Q hQ => wpIn_ret (hQ ι w a ds (Stp.refl gd.hr) ar (Mk.refl _ _ _))⟩
  | region id ops d =>
    intro e h Kn Kx Kr hg
    obtain ⟨e', h', hK, hs⟩ := gregion_sim (id := id) hC hm hg
    exact ⟨.normal, e', h', hK, hs _⟩
  | seq a b iha ihb =>
    intro e h Kn Kx Kr hg
    unfold ucode at hg
    obtain ⟨x, e1, h1, hK, hn1, hs1⟩ := iha hg
    cases x with
    | normal =>
      obtain ⟨x, e', h', hK, hn, hs⟩ := ihb hK
      refine ⟨x, e', h', hK, Nat.le_trans hn1 hn, fun ds ι w ac gd ar ro hro m Q hQ => wpIn_seq ?_⟩
      refine hs1 ds ι w ac (gd.less hn) ar ro (fun q => hro (by unfold hasRange; rw [q]; rfl)) m _ (fun ι1 w1 a1 ds1 st ar1 mk => ?_)
      exact hs ds1 ι1 w1 a1 (gd.step st) ar1 ro (fun q => hro (by unfold hasRange; rw [q]; exact Bool.or_true _)) m Q (fun ι2 w2 a2 ds2 st2 ar2 mk2 => hQ ι2 w2 a2 ds2 (st.trans st2) ar2 (mk.trans st.fr.size st.hr st2 mk2))
    | exit id => exact ⟨.exit id, e1, h1, hK, hn1, fun ds ι w ac gd ar ro hro m Q hQ => wpIn_seq (hs1 ds ι w ac gd ar ro (fun q => hro (by unfold hasRange; rw [q]; rfl)) m _ (fun ι1 w1 a1 ds1 st ar1 mk => hQ ι1 w1 a1 ds1 st ar1 mk))⟩
    | ret => exact ⟨.ret, e1, h1, hK, hn1, fun ds ι w ac gd ar ro hro m Q hQ => wpIn_seq (hs1 ds ι w ac gd ar ro (fun q => hro (by unfold hasRange; rw [q]; rfl)) m _ (fun ι1 w1 a1 ds1 st ar1 mk => hQ ι1 w1 a1 ds1 st ar1 mk))⟩
  | cond c a b iha ihb =>
    intro e h Kn Kx Kr hg
    unfold ucode at hg
    split at hg
    · rename_i t ht
      cases t with
      | true =>
        obtain ⟨x, e', h', hK, hn, hs⟩ := iha hg
        refine ⟨x, e', h', hK, hn, fun ds ι w ac gd ar ro hro m Q hQ => ?_⟩
        have hv := ar.er.eval c
        rw [ht] at hv
        exact wpIn_cond_true hv.bool (hs ds ι w ac gd ar ro (fun q => hro (by unfold hasRange; rw [q]; rfl)) m Q hQ)
      | false =>
        obtain ⟨x, e', h', hK, hn, hs⟩ := ihb hg
        refine ⟨x, e', h', hK, hn, fun ds ι w ac gd ar ro hro m Q hQ => ?_⟩
        have hv := ar.er.eval c
        rw [ht] at hv
        exact wpIn_cond_false hv.bool (hs ds ι w ac gd ar ro (fun q => hro (by unfold hasRange; rw [q]; exact Bool.or_true _)) m Q hQ)
    · cases hg
  | block id b ih =>
    intro e h Kn Kx Kr hg
    unfold ucode at hg
    obtain ⟨x, e1, h1, hK, hn1, hs1⟩ := ih hg
    cases x with
    | normal => exact ⟨.normal, e1, h1, hK, hn1, fun ds ι w ac gd ar ro hro m Q hQ => wpIn_block (hs1 ds ι w ac gd ar ro hro m _ (fun ι1 w1 a1 ds1 st ar1 mk => hQ ι1 w1 a1 ds1 st ar1 mk))⟩
    | ret => exact ⟨.ret, e1, h1, hK, hn1, fun ds ι w ac gd ar ro hro m Q hQ => wpIn_block (hs1 ds ι w ac gd ar ro hro m _ (fun ι1 w1 a1 ds1 st ar1 mk => hQ ι1 w1 a1 ds1 st ar1 mk))⟩
    | exit i =>
      by_cases hi : i = id
      · subst hi
        simp only [Kof, beq_self, cond_true] at hK
        exact ⟨.normal, e1, h1, hK, hn1, fun ds ι w ac gd ar ro hro m Q hQ => wpIn_block (hs1 ds ι w ac gd ar ro hro m _ (fun ι1 w1 a1 ds1 st ar1 mk => by
          show (if i = i then Q .normal a1 w1 else _)
          rw [if_pos rfl]; exact hQ ι1 w1 a1 ds1 st ar1 mk))⟩
      · simp only [Kof, beq_ne hi, cond_false] at hK
        exact ⟨.exit i, e1, h1, hK, hn1, fun ds ι w ac gd ar ro hro m Q hQ => wpIn_block (hs1 ds ι w ac gd ar ro hro m _ (fun ι1 w1 a1 ds1 st ar1 mk => by
          show (if i = id then Q .normal a1 w1 else Q (.exit i) a1 w1)
          rw [if_neg hi]; exact hQ ι1 w1 a1 ds1 st ar1 mk))⟩
  | loop b ih =>
    intro e h Kn Kx Kr hg
    unfold ucode at hg
    split at hg
    · cases hg
    · rename_i k hk
      split at hg
      · cases hg
      · rename_i live hl
        obtain ⟨x, e1, h1, hK, hn, hs⟩ := gloop_sim ih _ hg
        cases x with
        | normal => cases hK
        | exit i => exact ⟨.exit i, e1, h1, hK, hn, fun ds ι w ac gd ar ro hro m Q hQ => LoopWp.loop (hs ds ι w ac gd (ar.only _) ro hro m Q (fun ι1 w1 a1 ds1 st ar1 mk => hQ ι1 w1 a1 ds1 st ar1 mk))⟩
        | ret => exact ⟨.ret, e1, h1, hK, hn, fun ds ι w ac gd ar ro hro m Q hQ => LoopWp.loop (hs ds ι w ac gd (ar.only _) ro hro m Q (fun ι1 w1 a1 ds1 st ar1 mk => hQ ι1 w1 a1 ds1 st ar1 mk))⟩
  | rangeFunc g ps a b iha ihb =>
    intro e h Kn Kx Kr hg
    unfold ucode at hg
    cases hrg : (hasRange a || hasRange b) with
    | true => rw [hrg] at hg; cases hg
    | false =>
    rw [hrg] at hg
    simp only [cond_false] at hg
    simp only [Bool.or_eq_false_iff] at hrg
    obtain ⟨h', hK, hs⟩ := grange_sim hB (a := a) (b := b) (g := g) (ps := ps) (fl := hasRange (.rangeFunc g ps a b) = true) rfl (fun {e1 h1 K} hg => by
      obtain ⟨x, e2, h2, hK2, hs2⟩ := iha hg
      cases x with
      | exit id => cases hK2
      | ret => cases hK2
      | normal =>
        obtain ⟨y, e3, h3, hK3, hs3⟩ := ihb hK2
        cases y with
        | exit id => cases hK3
        | ret => cases hK3
        | normal => exact ⟨h3, hK3, e2, h2, e3, hs2.fl (by rw [hrg.1]; simp), hs3.fl (by rw [hrg.2]; simp)⟩) hg
    exact ⟨.normal, e, h', hK, hs⟩
  | _ => intro e h Kn Kx Kr hg; cases hg
theorem ufun_sim {C : Orc β} (hC : SimOrc P C) (hm : P.follows .mixedOrders = true) {LV : Nat → Option (List Nat)} {bk : List Nat} (hB : ∀ f, memN f bk = true → BackOk P f) {R : Nat} {f : FuncId} {fn : Func} (hf : P.funcs[f]? = some fn) (hnm : (fn.name == "runtime.NumGoroutine") = false) {args : List Value} {h : GH} {K : Value → GH → Option β}
    (hg : ufun P bk C LV R fn args h K = some r) : ∃ v h', K v h' = some r ∧ CallSim P f args h v h' := by
  unfold ufun at hg
  split at hg
  · cases hg
  · rename_i c hc
    have hlen := Nat.le_of_ble_eq_true (cond_none hg).1
    replace hg := (cond_none hg).2
    obtain ⟨x, e', h', hK, hs⟩ := ucode_sim hC hm hB c hg
    exact code_call hf hnm hc hlen hK hs
theorem uorc_sim {bk : List Nat} (hB : ∀ f, memN f bk = true → BackOk P f) {X : FuncId → Option (Func × (Nat → Option (List Nat)))} {E : Orc β} {R : Nat} (hm : P.follows .mixedOrders = true) (hX : ∀ f fn LV, X f = some (fn, LV) → P.funcs[f]? = some fn ∧ (fn.name == "runtime.NumGoroutine") = false) (hE : SimOrc P E) : ∀ n, SimOrc P (uorc P bk X E R n)
  | 0 => fun _ _ _ _ _ hc => by cases hc
  | n + 1 => fun f args h K r hc => by
    unfold uorc at hc
    split at hc
    · rename_i fn LV hx
      obtain ⟨h1, h2⟩ := hX f fn LV hx
      exact any_call (ufun_sim (uorc_sim hB hm hX hE n) hm hB h1 h2 hc)
    · exact hE f args h K r hc
end Go.Proofs.Ytephmpbccajaaaa.Gx

