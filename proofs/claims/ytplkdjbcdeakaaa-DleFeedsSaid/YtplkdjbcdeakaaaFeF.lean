/- DleFeeds, run: it answers true, whatever came in. No condition. -/
import Derived.Test.YtplkdjbcdeakaaaFeE
namespace Go.Proofs.Ytplkdjbcdeakaaa.Gx
open Go Go.RowKit
set_option linter.unusedVariables false
theorem isNone_n {α : Type} : Option.isNone (none : Option α) = true := by simp
/-- at most so many bytes of a row that came in -/
theorem cut_eq {zs : List Int} {a : Option Addr} {len : Nat} (hl : zs.length = len) (h0 : a = none → len = 0) (h : GH) :
    ∃ y : Sl, (∀ (β : Type) (K : Sl → GH → Option β), F8 (argSl 0 a len) 60 h K = K y h) ∧ y.n ≤ zs.length ∧ y.n ≤ 60 ∧ (0 < y.n → y.a = some ⟨0, 0, none⟩) := by
  cases a with
  | none =>
    refine ⟨⟨none, 0, 0⟩, fun β K => ?_, by simp, by simp, by simp⟩
    unfold F8; rw [F8_gen]; rfl
  | some q =>
    cases len with
    | zero =>
      refine ⟨⟨some ⟨0, 1, none⟩, 0, 0⟩, fun β K => ?_, by simp, by simp, by simp⟩
      unfold F8; rw [F8_gen]; rfl
    | succ n =>
      by_cases hn : n + 1 > 60
      · refine ⟨⟨some ⟨0, 0 + 0 * 1, none⟩, 60 - 0, n + 1 - 0⟩, fun β K => ?_, by simp; omega, by simp, by simp⟩
        unfold F8; rw [F8_gen]
        show (bif decide (((n + 1 : Nat) : Int) > 60) then bnd 60 (n + 1) fun m3 => K ⟨addO (some ⟨0, 0, none⟩) (0 * 1), m3 - 0, n + 1 - 0⟩ h else _) = _
        rw [decide_eq_true (by omega), condT, bnd, decide_eq_true (by omega), condT, decide_eq_true (by omega), condT]
        rfl
      · refine ⟨⟨some ⟨0, 0, none⟩, n + 1, n + 1⟩, fun β K => ?_, by simp; omega, by simp; omega, by simp⟩
        unfold F8; rw [F8_gen]
        show (bif decide (((n + 1 : Nat) : Int) > 60) then _ else K ⟨some ⟨0, 0, none⟩, n + 1, n + 1⟩ h) = _
        rw [decide_eq_false (by omega), condF]
theorem F3_true {f size : Int} (hs : size ≤ 9223372036854775807) {zs : List Int} (hz : ∀ b ∈ zs, 0 ≤ b ∧ b ≤ 255) {a : Option Addr} {len : Nat} (hl : zs.length = len) (h0 : a = none → len = 0) :
    ∃ h', ∀ (β : Type) (K : Bool → GH → Option β), F3 f size (argSl 0 a len) (argGH [u8s zs]) K = K true h' := by
  obtain ⟨y, ey, y1, y2, y3⟩ := cut_eq hl h0 (argGH [u8s zs])
  have hlook : (argGH [u8s zs]).look 0 = some (.row ⟨u8s zs, 1, true⟩) := rfl
  cases hn : newR f size with
  | false =>
    refine ⟨argGH [u8s zs], fun β K => ?_⟩
    unfold F3; rw [F3_gen, ey, (new_not hn _ _).1, (new_not hn _ _).2, bne_self_eq_false, condF, isNone_n, beq_self_eq_true, notT, condF]
    obtain ⟨q, hq⟩ : ∃ q, rounds = q + 1 := ⟨rounds - 1, by unfold rounds; omega⟩
    generalize hR : rounds = R
    rw [hR] at hq
    subst hq
    rw [L3l0_succ, isNone_n, notT]
    cases hd : decide ((0 : Int) < ((y.n : Nat) : Int)) with
    | true => rw [condT, condF]; rfl
    | false => rw [condF]; rfl
  | true =>
    obtain ⟨h1, m, g, e1, M1, k1, n1⟩ := new_own hn (argGH [u8s zs])
    obtain ⟨h2, m', g', e2, M2, k2, n2⟩ := new_ref hn h1
    have hq := of_decide_eq_true hn
    have hnx : (argGH [u8s zs]).next = 1 := rfl
    have hk := k1.1
    obtain ⟨h3, e3⟩ := feed_loop hz y1 y2 y3 rounds y.n rounds 0 (by omega) (by unfold rounds; omega) (k2.look (k1.look hlook (by simp)) (by simp)) (M1.keep k2 (by simp)) M2
      (fun x hx hm => by have := M1.lt x hx; have := n2 x hm; omega) (fun x hx => by have := n1 x hx; omega) (fun x hx => by have := n2 x hx; omega)
      ⟨⟨hq.1, hq.2.1⟩, ⟨hq.2.2, hs⟩, .inl rfl, by omega, by omega, by omega, by simp; exact hq.2.2, by simp⟩
    refine ⟨h3, fun β K => ?_⟩
    unfold F3; rw [F3_gen, ey, e1, e2, bne_self_eq_false, condF, isNone_s, isNone_s, beq_self_eq_true, notT, condF]
    have e3' := e3 β
    generalize L3l0 (β := β) F8 F9 F10 F11 F12 F14 F13 F15 F16 F17 F18c rounds rounds = L at e3' ⊢
    exact e3' _ _
theorem arg_row {W : World} {a : Option Addr} {len cap : Nat} {zs : List Int} (h : IsRow .u8 W a len cap zs) : ArgRow W a len cap (u8s (zs.take len)) := by
  rcases h with ⟨rfl, rfl, rfl, rfl⟩ | ⟨x, rfl, hl, hm, hz, hc, hw⟩
  · exact ⟨rfl, Nat.le_refl _, fun _ => ⟨rfl, rfl⟩, fun q hq => (nomatch hq), rfl⟩
  · refine ⟨by simp [u8s]; omega, hl, fun hq => (nomatch hq), fun q hq hlen => ?_, ?_⟩
    · cases hq
      have h0 := hc 0 (by omega)
      have hb := World.block_lt_of_cell? W _ h0
      rw [block_of_add] at hb
      have hsp : x.spot = none := by
        cases hsp : x.spot with
        | none => rfl
        | some z =>
          rw [World.cell?] at h0
          split at h0
          · simp [Addr.add, hsp] at h0
          · cases h0
      refine ⟨hsp, hb, fun i v hv => ?_⟩
      rw [nth_u8s, List.getElem?_take] at hv
      split at hv
      · rename_i hi
        have := hc i (by omega)
        rw [List.getElem?_eq_getElem (by omega)] at hv
        cases hv
        rw [List.getD_eq_getElem?_getD, List.getElem?_eq_getElem (by omega)] at this
        have hx : (⟨x.block, x.off + i, none⟩ : Addr) = x.add i := by
          cases x
          simp only at hsp
          subst hsp
          simp [Addr.add]
        show W.cell? ⟨x.block, x.off + i, none⟩ = _
        rw [hx]
        exact this
      · cases hv
    · generalize zs.take len = l
      induction l with
      | nil => rfl
      | cons b r ih => show (plain1 (.int .u8 b) && plains (u8s r)) = true; rw [ih]; rfl
theorem i64_top {n : Int} (h : (Lit.int .i64 n).wf = true) : n ≤ 9223372036854775807 := by
  have h1 : IntKind.i64.max = 9223372036854775807 := by decide +kernel
  simp [Lit.wf, h1] at h
  omega
theorem feeds_any {W : World} (f size : Int) (hs : size ≤ 9223372036854775807) {a : Option Addr} {len cap : Nat} {zs : List Int} (hr : IsRow .u8 W a len cap zs) :
    Calls Try.prog 3 #[.int .i64 f, .int .i64 size, .slice a len cap] W fun e W' => e = .returned (.bool true) ∧ Below W.heap.size W W' := by
  have ar := arg_row hr
  obtain ⟨h', e⟩ := F3_true (f := f) hs (zs := zs.take len) (fun b hb => u8_bd (hr.rn.2.2 b hb)) (a := a) (len := len) (by have := ar.lenc; rwa [u8s_length] at this) (fun ha => (ar.nil ha).1)
  obtain ⟨v, h1, hk, hc⟩ := F3_sim (β := Value × GH) (r := (.bool true, h')) (K := fun v h => some (v, h)) (e _ _)
  cases hk
  exact law_calls (l := [⟨a, len, cap, u8s (zs.take len)⟩]) (fun x hx => by cases List.mem_singleton.1 hx; exact ar) hc (.cons (.same _ rfl) (.cons (.same _ rfl) (.cons (arg_vr (l := [⟨a, len, cap, u8s (zs.take len)⟩]) (fun x hx => by cases List.mem_singleton.1 hx; exact ar) (g := 0) rfl) .nil)))
end Go.Proofs.Ytplkdjbcdeakaaa.Gx

