/- The finder's small functions: what each answers. -/
import Derived.Test.YtplkdjbcdeakaaaChecked
import Derived.Test.YtplkdjbcdeakaaaBase
import Derived.Laws.CopyOwn
import Derived.Deep.RegionLaw
namespace Go.Proofs.Ytplkdjbcdeakaaa
open Go.RowKit

/-- How many bytes are the same from two places on, from k on. -/
def lenFrom (bs : List Int) (f i : Nat) (mx : Int) : Nat → Nat → Nat
  | 0, k => k
  | m + 1, k => if (k : Int) < mx ∧ i + k < bs.length ∧ bs.getD (f + k) 0 = bs.getD (i + k) 0 then lenFrom bs f i mx m (k + 1) else k
def same (bs : List Int) (f i : Nat) (mx : Int) : Nat := lenFrom bs f i mx bs.length 0

/-- The finder's block. -/
def FCells (win mn mx ch : Int) (lz : Bool) (A : Option Addr) (n c : Nat) (mb : Nat) (PA : Option Addr) (pn pc : Nat) (put : Int) : Array Value :=
  #[.int .i64 win, .int .i64 mn, .int .i64 mx, .int .i64 ch, .bool lz, .slice A n c, .map (some mb), .slice PA pn pc, .int .i64 put]

theorem lenFrom_stop (bs : List Int) (f i : Nat) (mx : Int) (m k : Nat) (h : ¬ ((k : Int) < mx ∧ i + k < bs.length ∧ bs.getD (f + k) 0 = bs.getD (i + k) 0)) : lenFrom bs f i mx m k = k := by
  cases m with
  | zero => rfl
  | succ m => rw [lenFrom, if_neg h]

theorem lenFrom_go (bs : List Int) (f i : Nat) (mx : Int) (n k : Nat) (hl : bs.length = n) (h : i + k < n) (h1 : (k : Int) < mx) (hq : (bs[f + k]?.getD 0 == bs[i + k]?.getD 0) = true) :
    lenFrom bs f i mx (n - k) k = lenFrom bs f i mx (n - (k + 1)) (k + 1) := by
  obtain ⟨m, hm⟩ : ∃ m, n - k = m + 1 := ⟨n - k - 1, by omega⟩
  rw [hm, show n - (k + 1) = m by omega, lenFrom, if_pos ⟨h1, by omega, by simpa using hq⟩]

set_option maxHeartbeats 1000000 in
theorem length_any (w : World) (fb : Nat) (win mn mx ch : Int) (lz : Bool) (A : Option Addr) (n c mb : Nat) (PA : Option Addr) (pn pc : Nat) (put : Int) (bs : List Int) (B : Nat) (f i : Nat)
    (hF : Blk w fb 78 (FCells win mn mx ch lz A n c mb PA pn pc put)) (hb : RN .u8 w B A n bs) (hn : n ≤ 140737488351232) (hfi : f < i) (hi : i ≤ n) :
    Calls Try.prog 46 #[.pointer (some ⟨fb, 0, none⟩), .int .i64 f, .int .i64 i] w fun e w' => e = .returned (.int .i64 (same bs f i mx)) ∧ Drawn w w' := by
  have hl := hb.len
  have c2 : w.cell? ⟨fb, 2, none⟩ = some (.int .i64 mx) := hF.cell 2
  have c5 : w.cell? ⟨fb, 5, none⟩ = some (.slice A n c) := hF.cell 5
  clear hF
  go_enter Try.func46, Try.ntmps46
  go_wp2
  go_loopw [7] (fun x wr => ∃ k : Nat, k ≤ n ∧ x = .int .i64 k ∧ Drawn w wr ∧ lenFrom bs f i mx (n - k) k = same bs f i mx) (fun x _ => n - (intOf x).toNat)
  case atStart => exact ⟨0, by omega, rfl, Drawn.refl _, by rw [Nat.sub_zero, ← hl]; rfl⟩
  case round =>
    obtain ⟨k, hk, rfl, hd, hs⟩ := hrel
    have d2 := (hd.cell ⟨fb, 2, none⟩).trans c2
    have d5 := (hd.cell ⟨fb, 5, none⟩).trans c5
    have HS := hide hs
    clear hs c2 c5
    by_cases h1 : (k : Int) < mx
    · by_cases h2 : (i : Int) + k < n
      · obtain ⟨ad, rfl, _, hc⟩ := hb.ad (by omega)
        have e1 : wr.cell? (ad.add (f + k)) = some (.int .u8 (bs.getD (f + k) 0)) := (hd.cell _).trans (hc _ (by omega))
        have e2 : wr.cell? (ad.add (i + k)) = some (.int .u8 (bs.getD (i + k) 0)) := (hd.cell _).trans (hc _ (by omega))
        clear hc
        go_wp2_with fail
        go_quiet (fail)
        go_wp2
        · have hq : (bs[f + k]?.getD 0 == bs[i + k]?.getD 0) = true := by assumption
          refine ⟨⟨k + 1, by omega, by go_num, hd.step _, ?_⟩, by simp [intOf]; omega⟩
          rw [← HS]; exact (lenFrom_go bs f i mx n k hl (by omega) h1 hq).symm
        · have hq : (bs[f + k]?.getD 0 == bs[i + k]?.getD 0) = false := by assumption
          have hst := lenFrom_stop bs f i mx (n - k) k (by intro h; simp at hq h; exact hq h.2.2)
          go_ret
          exact ⟨by rw [← HS, hst]; rfl, hd.step _⟩
      · have hx : decide ((i : Int) + k < n) = false := by simp; omega
        have hst := hide (lenFrom_stop bs f i mx (n - k) k (by intro h; omega))
        go_wp2_with fail
        go_quiet (fail)
        go_wp2
        go_ret
        exact ⟨by rw [← HS, hst]; rfl, hd.step _⟩
    · have hx : decide ((k : Int) < mx) = false := by simp; omega
      have hst := hide (lenFrom_stop bs f i mx (n - k) k (by intro h; omega))
      go_wp2_with fail
      go_quiet (fail)
      go_wp2
      go_ret
      exact ⟨by rw [← HS, hst]; rfl, hd.step _⟩
open Go.RowKit

def keyAt (bs : List Int) (mn : Int) (i : Nat) : List Int := [bs.getD i 0, bs.getD (i + 1) 0, if mn = 3 then bs.getD (i + 2) 0 else 0]
def keyV (ks : List Int) : Value := .agg (nums .u8 ks).toArray

set_option maxHeartbeats 1000000 in
theorem key_no (w : World) (fb : Nat) (win mn mx ch : Int) (lz : Bool) (A : Option Addr) (n c mb : Nat) (PA : Option Addr) (pn pc : Nat) (put : Int) (i : Nat)
    (hF : Blk w fb 78 (FCells win mn mx ch lz A n c mb PA pn pc put)) (hn : n ≤ 140737488351232) (hm : 2 ≤ mn) (hm3 : mn ≤ 3) (hi : i ≤ n) (h : (n : Int) < i + mn) :
    Calls Try.prog 45 #[.pointer (some ⟨fb, 0, none⟩), .int .i64 i] w fun e w' => e = .returned (.tuple #[.agg #[.int .u8 0, .int .u8 0, .int .u8 0], .bool false]) ∧ Below w.heap.size w w' := by
  have c1 : w.cell? ⟨fb, 1, none⟩ = some (.int .i64 mn) := hF.cell 1
  have c5 : w.cell? ⟨fb, 5, none⟩ = some (.slice A n c) := hF.cell 5
  have hlt := hF.lt
  clear hF
  go_enter Try.func45, Try.ntmps45
  go_wp2_with fail
  go_quiet (fail)
  go_wp2
  refine bodyPost_ret (v := .tuple #[.agg #[.int .u8 0, .int .u8 0, .int .u8 0], .bool false]) (by simp [results, Try.results45, go_sem]) rfl ⟨rfl, ?_⟩
  exact (((below_drewN (((Below.refl _ _).alloc (Nat.le_refl _) _).alloc (by simp) _) nq).setCell (Nat.le_refl _) _).setCell (Nat.le_refl _) _).setCell (Nat.le_refl _) _

theorem cells2 (w : World) (ad : Addr) (i : Nat) (x y : Value) (h : w.cell? (ad.add i) = some x ∧ w.cell? (ad.add (i + 1)) = some y) : ∀ j v, [x, y][j]? = some v → w.cell? ((ad.add i).add j) = some v := by
  intro j v hv
  rw [add_of_add]
  match j, hv with
  | 0, hv => simp at hv; subst hv; exact h.1
  | 1, hv => simp at hv; subst hv; exact h.2
theorem cells3 (w : World) (ad : Addr) (i : Nat) (x y z : Value) (h : w.cell? (ad.add i) = some x ∧ w.cell? (ad.add (i + 1)) = some y ∧ w.cell? (ad.add (i + 2)) = some z) :
    ∀ j v, [x, y, z][j]? = some v → w.cell? ((ad.add i).add j) = some v := by
  intro j v hv
  rw [add_of_add]
  match j, hv with
  | 0, hv => simp at hv; subst hv; exact h.1
  | 1, hv => simp at hv; subst hv; exact h.2.1
  | 2, hv => simp at hv; subst hv; exact h.2.2

theorem step_copy_small {P : Program} {ops : Array Oper} {o : Oper} {a : Act} {w : World} {K : Act → World → Prop} {Q : Exit → Act → World → Prop} {E : Prop} (hgd : o.guard = none) (d s : Operand) (dT sT : TypeId)
    (ho : o.op = .call { callee := .builtin .copy, args := #[d, s], argTypes := #[dT, sT] }) (elem : TypeId) (hu : P.underlying dT = some (.slice elem)) (hsz : (P.info? elem).map (·.size) = some 1)
    (ad : Addr) (dLen dCap sLen sCap g : Nat) (hd : a.eval d = .slice (some ⟨g, 0, none⟩) dLen dCap) (hs : a.eval s = .slice (some ad) sLen sCap)
    {cur : Array Value} {t : TypeId} (hg : Blk w g t cur) (cs : List Value) (hn : cs.length = Nat.min sLen dLen)
    (hc : ∀ j v, cs[j]? = some v → w.cell? (ad.add j) = some v)
    (hfit : cs.length ≤ cur.size) (h1 : ∀ v ∈ cs, v.oneCell' = true) {B : Nat} {w0 : World} (hb : RowKit.Below B w0 w) (hBg : B ≤ g)
    (h : ∀ w', Blk w' g t (splice cur.toList 0 cs).toArray → RowKit.Below B w0 w' → K (a.put o.dst (goInt cs.length)) w') :
    if Region.wanted o (yielded ops a.tmps) = true then Oper.wp P o a w K Q else E :=
  step_copy_splice hgd d s dT sT ho elem hu hsz _ _ dLen dCap sLen sCap hd hs g 0 cur.toList t hg cs hn (fun _ => ⟨rfl, ad, rfl, hc⟩) (by simpa using hfit) h1 B w0 hb hBg h

theorem Try.usize5 : (Try.prog.info? 5).map (·.size) = some 1 := by kernel_rfl

set_option maxHeartbeats 1000000 in
theorem key_yes (w : World) (fb : Nat) (win mn mx ch : Int) (lz : Bool) (A : Option Addr) (n c mb : Nat) (PA : Option Addr) (pn pc : Nat) (put : Int) (bs : List Int) (B : Nat) (i : Nat)
    (hF : Blk w fb 78 (FCells win mn mx ch lz A n c mb PA pn pc put)) (hb : RN .u8 w B A n bs) (hc : n ≤ c) (hn : n ≤ 140737488351232) (hm : mn = 2 ∨ mn = 3) (h : i + mn ≤ n) :
    Calls Try.prog 45 #[.pointer (some ⟨fb, 0, none⟩), .int .i64 i] w fun e w' => e = .returned (.tuple #[keyV (keyAt bs mn i), .bool true]) ∧ Below w.heap.size w w' := by
  have c1 : w.cell? ⟨fb, 1, none⟩ = some (.int .i64 mn) := hF.cell 1
  have c5 : w.cell? ⟨fb, 5, none⟩ = some (.slice A n c) := hF.cell 5
  have hlt := hF.lt
  have hl := hb.len
  clear hF
  rcases hm with rfl | rfl
  · obtain ⟨ad, rfl, _, hcell⟩ := hb.ad (by omega)
    have e0 := hcell i (by omega)
    have e1 := hcell (i + 1) (by omega)
    have H0 := hide (And.intro e0 e1)
    clear hcell hb e0 e1 hl
    go_enter Try.func45, Try.ntmps45
    go_wp2_with fail
    go_quiet (fail)
    go_wp2_with fail
    generalize hW : (((w.alloc (Obj.cells #[Value.int IntKind.u8 0, Value.int IntKind.u8 0, Value.int IntKind.u8 0] 84)).alloc (Obj.cells #[Value.int IntKind.u8 0, Value.int IntKind.u8 0, Value.int IntKind.u8 0] 84)).drewN nq) = W
    have hbW : Below w.heap.size w W := by rw [← hW]; exact below_drewN (((Below.refl _ _).alloc (Nat.le_refl _) _).alloc (by simp) _) nq
    have hgW : Blk W (w.heap.size + 1) 84 #[.int .u8 0, .int .u8 0, .int .u8 0] := by rw [← hW]; have := Blk.new (w.alloc (Obj.cells #[Value.int IntKind.u8 0, Value.int IntKind.u8 0, Value.int IntKind.u8 0] 84)) 84 #[.int .u8 0, .int .u8 0, .int .u8 0]; simpa using this.drewN nq
    have hgV : Blk W w.heap.size 84 #[.int .u8 0, .int .u8 0, .int .u8 0] := by rw [← hW]; exact ((Blk.new w 84 #[.int .u8 0, .int .u8 0, .int .u8 0]).alloc _).drewN nq
    clear hW
    have q1 : IntKind.i64.wrap ((i : Int) + 2) = i + 2 := IntWalk.i64_in _ (by omega)
    have q2 : ((i : Int) + 2).toNat = i + 2 := by omega
    have q3 : i + 2 - i = 2 := by omega
    have q4 : ¬ c = i := by omega
    have q5 : (i : Int) + 2 ≤ c := by omega
    have q6 : 0 ≤ (i : Int) + 2 := by omega
    have d1 := (hbW.cell (p := ⟨fb, 1, none⟩) hlt).trans c1
    have d5 := (hbW.cell (p := ⟨fb, 5, none⟩) hlt).trans c5
    clear c1 c5
    have HC := hide (cells2 W ad i (.int .u8 (bs.getD i 0)) (.int .u8 (bs.getD (i + 1) 0)) ⟨cell_keep hbW H0.1, cell_keep hbW H0.2⟩)
    clear H0
    go_region_law ((refine step_copy_small rfl (.tmp 21) (.tmp 34) _ _ rfl 5 Try.underlying22 Try.usize5 _ _ _ _ _ _ rfl rfl hgW [.int .u8 (bs.getD i 0), .int .u8 (bs.getD (i + 1) 0)] rfl HC (Nat.le_of_ble_eq_true rfl) (by simp [Value.oneCell']) ((Below.refl (w.heap.size + 1) W).drew) (Nat.le_refl _) ?_; intro w1 hw1 hb1))
    all_goals
      have r0 : w1.cell? ⟨w.heap.size + 1, 0, none⟩ = some (.int .u8 (bs.getD i 0)) := hw1.cell 0
      have r1 : w1.cell? ⟨w.heap.size + 1, 1, none⟩ = some (.int .u8 (bs.getD (i + 1) 0)) := hw1.cell 1
      have r2 : w1.cell? ⟨w.heap.size + 1, 2, none⟩ = some (.int .u8 0) := hw1.cell 2
      have hgV1 := hgV.below hb1 (by omega)
      have s0 : w1.cell? ⟨w.heap.size, 0, none⟩ = some (.int .u8 0) := hgV1.cell 0
      have s1 : w1.cell? ⟨w.heap.size, 1, none⟩ = some (.int .u8 0) := hgV1.cell 1
      have s2 : w1.cell? ⟨w.heap.size, 2, none⟩ = some (.int .u8 0) := hgV1.cell 2
      have z0 : w1.frozen? ⟨w.heap.size, 0, none⟩ = false := hgV1.frozen 0
      have z1 : w1.frozen? ⟨w.heap.size, 1, none⟩ = false := hgV1.frozen 1
      have z2 : w1.frozen? ⟨w.heap.size, 2, none⟩ = false := hgV1.frozen 2
      have hb2 : Below w.heap.size w w1 := hbW.trans (hb1.mono (Nat.le_add_right _ _))
      clear HC hgW hgV hgV1 hw1 d1 d5 q1 q2 q3 q4 q5 q6
      go_wp2
      refine bodyPost_ret (v := .tuple #[.agg #[.int .u8 (bs[i]?.getD 0), .int .u8 (bs[i + 1]?.getD 0), .int .u8 0], .bool true]) (by simp [results, Try.results45, go_sem, s0, s1, s2]) rfl ⟨by simp [keyV, keyAt, nums], ?_⟩
      exact ((hb2.setCell (Nat.le_refl _) _).setCell (Nat.le_refl _) _).setCell (Nat.le_refl _) _
  · obtain ⟨ad, rfl, _, hcell⟩ := hb.ad (by omega)
    have e0 := hcell i (by omega)
    have e1 := hcell (i + 1) (by omega)
    have e2 := hcell (i + 2) (by omega)
    have H0 := hide (And.intro e0 (And.intro e1 e2))
    clear hcell hb e0 e1 e2 hl
    go_enter Try.func45, Try.ntmps45
    go_wp2_with fail
    go_quiet (fail)
    go_wp2_with fail
    generalize hW : (((w.alloc (Obj.cells #[Value.int IntKind.u8 0, Value.int IntKind.u8 0, Value.int IntKind.u8 0] 84)).alloc (Obj.cells #[Value.int IntKind.u8 0, Value.int IntKind.u8 0, Value.int IntKind.u8 0] 84)).drewN nq) = W
    have hbW : Below w.heap.size w W := by rw [← hW]; exact below_drewN (((Below.refl _ _).alloc (Nat.le_refl _) _).alloc (by simp) _) nq
    have hgW : Blk W (w.heap.size + 1) 84 #[.int .u8 0, .int .u8 0, .int .u8 0] := by rw [← hW]; have := Blk.new (w.alloc (Obj.cells #[Value.int IntKind.u8 0, Value.int IntKind.u8 0, Value.int IntKind.u8 0] 84)) 84 #[.int .u8 0, .int .u8 0, .int .u8 0]; simpa using this.drewN nq
    have hgV : Blk W w.heap.size 84 #[.int .u8 0, .int .u8 0, .int .u8 0] := by rw [← hW]; exact ((Blk.new w 84 #[.int .u8 0, .int .u8 0, .int .u8 0]).alloc _).drewN nq
    clear hW
    have q1 : IntKind.i64.wrap ((i : Int) + 3) = i + 3 := IntWalk.i64_in _ (by omega)
    have q2 : ((i : Int) + 3).toNat = i + 3 := by omega
    have q3 : i + 3 - i = 3 := by omega
    have q4 : ¬ c = i := by omega
    have q5 : (i : Int) + 3 ≤ c := by omega
    have q6 : 0 ≤ (i : Int) + 3 := by omega
    have d1 := (hbW.cell (p := ⟨fb, 1, none⟩) hlt).trans c1
    have d5 := (hbW.cell (p := ⟨fb, 5, none⟩) hlt).trans c5
    clear c1 c5
    have HC := hide (cells3 W ad i (.int .u8 (bs.getD i 0)) (.int .u8 (bs.getD (i + 1) 0)) (.int .u8 (bs.getD (i + 2) 0)) ⟨cell_keep hbW H0.1, cell_keep hbW H0.2.1, cell_keep hbW H0.2.2⟩)
    clear H0
    go_region_law ((refine step_copy_small rfl (.tmp 21) (.tmp 34) _ _ rfl 5 Try.underlying22 Try.usize5 _ _ _ _ _ _ rfl rfl hgW [.int .u8 (bs.getD i 0), .int .u8 (bs.getD (i + 1) 0), .int .u8 (bs.getD (i + 2) 0)] rfl HC (Nat.le_of_ble_eq_true rfl) (by simp [Value.oneCell']) ((Below.refl (w.heap.size + 1) W).drew) (Nat.le_refl _) ?_; intro w1 hw1 hb1))
    all_goals
      have r0 : w1.cell? ⟨w.heap.size + 1, 0, none⟩ = some (.int .u8 (bs.getD i 0)) := hw1.cell 0
      have r1 : w1.cell? ⟨w.heap.size + 1, 1, none⟩ = some (.int .u8 (bs.getD (i + 1) 0)) := hw1.cell 1
      have r2 : w1.cell? ⟨w.heap.size + 1, 2, none⟩ = some (.int .u8 (bs.getD (i + 2) 0)) := hw1.cell 2
      have hgV1 := hgV.below hb1 (by omega)
      have s0 : w1.cell? ⟨w.heap.size, 0, none⟩ = some (.int .u8 0) := hgV1.cell 0
      have s1 : w1.cell? ⟨w.heap.size, 1, none⟩ = some (.int .u8 0) := hgV1.cell 1
      have s2 : w1.cell? ⟨w.heap.size, 2, none⟩ = some (.int .u8 0) := hgV1.cell 2
      have z0 : w1.frozen? ⟨w.heap.size, 0, none⟩ = false := hgV1.frozen 0
      have z1 : w1.frozen? ⟨w.heap.size, 1, none⟩ = false := hgV1.frozen 1
      have z2 : w1.frozen? ⟨w.heap.size, 2, none⟩ = false := hgV1.frozen 2
      have hb2 : Below w.heap.size w w1 := hbW.trans (hb1.mono (Nat.le_add_right _ _))
      clear HC hgW hgV hgV1 hw1 d1 d5 q1 q2 q3 q4 q5 q6
      go_wp2
      refine bodyPost_ret (v := .tuple #[.agg #[.int .u8 (bs[i]?.getD 0), .int .u8 (bs[i + 1]?.getD 0), .int .u8 (bs[i + 2]?.getD 0)], .bool true]) (by simp [results, Try.results45, go_sem, s0, s1, s2]) rfl ⟨by simp [keyV, keyAt, nums], ?_⟩
      exact ((hb2.setCell (Nat.le_refl _) _).setCell (Nat.le_refl _) _).setCell (Nat.le_refl _) _
end Go.Proofs.Ytplkdjbcdeakaaa

