/- The finder's state behind so many places, and that 'enter' brings it there. -/
import Derived.Test.YtplkdjbcdeakaaaMap3
import Derived.StillTailTactics
namespace Go.Proofs.Ytplkdjbcdeakaaa
open Go.RowKit

/-- The last place below p with this key, and one more; 0: none. -/
def lastK (bs : List Int) (mn : Int) (ks : List Int) : Nat → Nat
  | 0 => 0
  | p + 1 => if (p : Int) + mn ≤ bs.length ∧ keyAt bs mn p = ks then p + 1 else lastK bs mn ks p
/-- The chain of each place below p. -/
def prevF (bs : List Int) (mn : Int) (p k : Nat) : Nat := if k < p ∧ (k : Int) + mn ≤ bs.length then lastK bs mn (keyAt bs mn k) k else 0
def prevL (bs : List Int) (mn : Int) (p : Nat) : List Int := (List.range bs.length).map fun k => (prevF bs mn p k : Int)
theorem prevL_len (bs : List Int) (mn : Int) (p : Nat) : (prevL bs mn p).length = bs.length := by simp [prevL]
theorem prevL_zero (bs : List Int) (mn : Int) : prevL bs mn 0 = List.replicate bs.length 0 := by
  apply List.ext_getElem
  · simp [prevL]
  · intro i h1 h2
    simp [prevL, prevF]
theorem prevL_at (bs : List Int) (mn : Int) (p k : Nat) (h : k < bs.length) : (prevL bs mn p).getD k 0 = prevF bs mn p k := by
  simp [prevL, h]
theorem prevL_set (bs : List Int) (mn : Int) (p : Nat) (hv : (p : Int) + mn ≤ bs.length) : (prevL bs mn p).set p (lastK bs mn (keyAt bs mn p) p : Nat) = prevL bs mn (p + 1) := by
  apply List.ext_getElem
  · simp [prevL]
  · intro i h1 h2
    have hi : i < bs.length := by simpa [prevL] using h2
    rw [List.getElem_set]
    simp only [prevL, List.getElem_map, List.getElem_range, prevF]
    by_cases e : p = i
    · subst e
      simp [hv]
    · rw [if_neg e]
      have : (i < p + 1) ↔ i < p := by omega
      simp [this]
theorem prevL_skip (bs : List Int) (mn : Int) (p : Nat) (hv : ¬ (p : Int) + mn ≤ bs.length) : prevL bs mn p = prevL bs mn (p + 1) := by
  unfold prevL
  congr 1
  funext k
  unfold prevF
  by_cases e : k = p
  · subst e; simp [hv]
  · have : (k < p + 1) ↔ k < p := by omega
    simp [this]
theorem lastK_le (bs : List Int) (mn : Int) (ks : List Int) (p : Nat) : lastK bs mn ks p ≤ p := by
  induction p with
  | zero => simp [lastK]
  | succ p ih => rw [lastK]; split <;> omega
theorem lastK_skip (bs : List Int) (mn : Int) (p : Nat) (hv : ¬ (p : Int) + mn ≤ bs.length) (ks : List Int) : lastK bs mn ks (p + 1) = lastK bs mn ks p := by
  rw [lastK, if_neg (fun h => hv h.1)]
theorem lastK_step (bs : List Int) (mn : Int) (p : Nat) (hv : (p : Int) + mn ≤ bs.length) : (fun ls => if ls = keyAt bs mn p then ((p : Int) + 1) else (lastK bs mn ls p : Int)) = fun ls => (lastK bs mn ls (p + 1) : Int) := by
  funext ls
  rw [lastK]
  by_cases e : ls = keyAt bs mn p
  · simp [e, hv]
  · have e' : ¬ keyAt bs mn p = ls := fun h => e h.symm
    simp [e, e']

theorem keyAt_bt {bs : List Int} (hb : ∀ x ∈ bs, 0 ≤ x ∧ x ≤ 255) (mn : Int) (i : Nat) : Bt3 (keyAt bs mn i) := by
  have hg : ∀ j, 0 ≤ bs.getD j 0 ∧ bs.getD j 0 ≤ 255 := by
    intro j
    rw [List.getD_eq_getElem?_getD]
    rcases h : bs[j]? with _ | x
    · simp
    · exact hb x (List.mem_of_getElem? h)
  refine ⟨_, _, _, rfl, hg _, hg _, ?_⟩
  split
  · exact hg _
  · omega

/-- The shape, the text, and where the finder keeps what it knows. -/
structure Fd where
  (fb mb pb : Nat) (win mn mx ch : Int) (lz : Bool) (A : Option Addr) (n c : Nat) (bs : List Int)

/-- The finder behind p places. -/
structure FSt (d : Fd) (w : World) (p : Nat) : Prop where
  blk : Blk w d.fb 78 (FCells d.win d.mn d.mx d.ch d.lz d.A d.n d.c d.mb (some ⟨d.pb, 0, none⟩) d.n d.n p)
  map : ∃ m, m ≤ p ∧ MapFn w d.mb m (fun ks => (lastK d.bs d.mn ks p : Int))
  prev : Blk w d.pb 3 (nums .i64 (prevL d.bs d.mn p)).toArray
/-- What stays. -/
structure FOk (d : Fd) (w : World) (B : Nat) : Prop where
  text : RN .u8 w B d.A d.n d.bs
  bytes : ∀ x ∈ d.bs, 0 ≤ x ∧ x ≤ 255
  cap : d.n ≤ d.c
  len : d.n ≤ 140737488351232
  min : d.mn = 2 ∨ d.mn = 3
  bf : B ≤ d.fb
  bm : B ≤ d.mb
  bp : B ≤ d.pb
  fl : d.fb < w.heap.size
  ml : d.mb < w.heap.size
  pl : d.pb < w.heap.size

theorem FOk.keep {d : Fd} {w w' : World} {B : Nat} (h : FOk d w B) (hc : Chg [d.fb, d.mb, d.pb] w w') : FOk d w' B := by
  have h1 := h.bf; have h2 := h.bm; have h3 := h.bp; have h4 := h.fl; have h5 := h.ml; have h6 := h.pl
  have hs : ∀ i, i ∈ [d.fb, d.mb, d.pb] → B ≤ i := by
    intro i hi
    simp at hi
    rcases hi with rfl | rfl | rfl <;> assumption
  have hz := hc.size
  exact ⟨hc.reads h.text (by omega) hs, h.bytes, h.cap, h.len, h.min, h1, h2, h3, by omega, by omega, by omega⟩

theorem blk_map_ne {w : World} {g b n : Nat} {t : TypeId} {cs : Array Value} {M : List Int → Int} (h : Blk w g t cs) (hm : MapFn w b n M) : g ≠ b := by
  rintro rfl
  obtain ⟨D, ⟨es, clock, hh, _⟩, _⟩ := hm
  unfold Blk at h
  rw [h] at hh
  injection hh with hh
  cases hh

theorem nums_set (k : IntKind) (l : List Int) (i : Nat) (x : Int) : (nums k l).toArray.setIfInBounds i (.int k x) = (nums k (l.set i x)).toArray := by
  simp [nums, List.map_set]

theorem FSt.put {d : Fd} {w : World} {k m : Nat} (hv : (k : Int) + d.mn ≤ d.n) (hl : d.bs.length = d.n) {x0 x1 x2 : Int} (hx : keyAt d.bs d.mn k = [x0, x1, x2]) (hm : m ≤ k)
    (hb : Blk w d.fb 78 (FCells d.win d.mn d.mx d.ch d.lz d.A d.n d.c d.mb (some ⟨d.pb, 0, none⟩) d.n d.n k))
    (hp : Blk w d.pb 3 ((nums .i64 (prevL d.bs d.mn k)).toArray.setIfInBounds k (.int .i64 (lastK d.bs d.mn [x0, x1, x2] k))))
    (hM : MapFn w d.mb (m + 1) (fun ls => if ls = [x0, x1, x2] then ((k : Int) + 1) else (lastK d.bs d.mn ls k : Int))) (h1 : d.pb ≠ d.fb) (h3 : d.fb ≠ d.mb) :
    FSt d (w.setCell ⟨d.fb, 8, none⟩ (.int .i64 ((k : Int) + 1))) (k + 1) := by
  rw [← hl] at hv
  refine ⟨?_, ⟨m + 1, by omega, ?_⟩, ?_⟩
  · exact hb.set_ 8 _
  · rw [← hx, lastK_step d.bs d.mn k hv] at hM
    exact hM.set_ (fun e => h3 e.symm) _
  · rw [nums_set, ← hx, prevL_set d.bs d.mn k hv] at hp
    exact hp.far h1 _

theorem FSt.skip {d : Fd} {w w' : World} {k : Nat} (hv : ¬ (k : Int) + d.mn ≤ d.n) (hl : d.bs.length = d.n) (h : FSt d w k) (hb : Below w.heap.size w w') (hml : d.mb < w.heap.size) :
    FSt d (w'.setCell ⟨d.fb, 8, none⟩ (.int .i64 ((k : Int) + 1))) (k + 1) := by
  rw [← hl] at hv
  obtain ⟨hblk, ⟨m, hm, hmap⟩, hprev⟩ := h
  have h1 : d.pb ≠ d.fb := hprev.ne_ hblk (by decide)
  have h3 : d.fb ≠ d.mb := blk_map_ne hblk hmap
  have b1 := hblk.below hb hblk.lt
  have b2 := hmap.below hb hml
  have b3 := hprev.below hb hprev.lt
  refine ⟨b1.set_ 8 _, ⟨m, by omega, ?_⟩, ?_⟩
  · have e : (fun ks => (lastK d.bs d.mn ks (k + 1) : Int)) = fun ks => (lastK d.bs d.mn ks k : Int) := by funext ks; rw [lastK_skip _ _ _ hv]
    rw [e]
    exact b2.set_ (fun e => h3 e.symm) _
  · rw [← prevL_skip _ _ _ hv]
    exact b3.far h1 _

theorem FSt.alloc {d : Fd} {w : World} {k : Nat} (h : FSt d w k) (o : Obj) : FSt d (w.alloc o) k := by
  obtain ⟨hblk, ⟨m, hm, hmap⟩, hprev⟩ := h
  exact ⟨hblk.alloc o, ⟨m, hm, hmap.kept (World.grownBy_alloc w o none) (by simp)⟩, hprev.alloc o⟩

theorem key_yes' (w : World) (fb : Nat) (win mn mx ch : Int) (lz : Bool) (A : Option Addr) (n c mb : Nat) (PA : Option Addr) (pn pc : Nat) (put : Int) (bs : List Int) (B : Nat) (i : Nat)
    (hF : Blk w fb 78 (FCells win mn mx ch lz A n c mb PA pn pc put)) (hb : RN .u8 w B A n bs) (hc : n ≤ c) (hn : n ≤ 140737488351232) (hm : mn = 2 ∨ mn = 3) (h : i + mn ≤ n) :
    Calls Try.prog 45 #[.pointer (some ⟨fb, 0, none⟩), .int .i64 i] w fun e w' => ∃ x0 x1 x2 : Int, Hid (keyAt bs mn i = [x0, x1, x2]) ∧ e = .returned (.tuple #[.agg #[.int .u8 x0, .int .u8 x1, .int .u8 x2], .bool true]) ∧ Below w.heap.size w w' :=
  (key_yes w fb win mn mx ch lz A n c mb PA pn pc put bs B i hF hb hc hn hm h).mono fun _ _ ⟨he, hb⟩ => ⟨_, _, _, hide rfl, he, hb⟩

set_option maxHeartbeats 1000000 in
theorem enter_any (d : Fd) (w : World) (B p i : Nat) (hS : FSt d w p) (hO : FOk d w B) (hpi : p ≤ i) (hi : i ≤ d.n) :
    Calls Try.prog 44 #[.pointer (some ⟨d.fb, 0, none⟩), .int .i64 i] w fun e w' => e = .returned (.tuple #[]) ∧ FSt d w' i ∧ Chg [d.fb, d.mb, d.pb] w w' := by
  obtain ⟨fb, mb, pb, win, mn, mx, ch, lz, A, n, c, bs⟩ := d
  have hlen := hO.len
  simp only at hlen hi ⊢
  go_enter Try.func44, Try.ntmps44
  go_wp2_with fail
  go_loopw [6] (fun _ wr => ∃ k : Nat, p ≤ k ∧ k ≤ i ∧ FSt ⟨fb, mb, pb, win, mn, mx, ch, lz, A, n, c, bs⟩ wr k ∧ Chg [fb, mb, pb] w wr) (fun _ wr => match wr.cell? ⟨fb, 8, none⟩ with | some (.int _ k) => i - k.toNat | _ => 0)
  case atStart => exact ⟨p, by omega, hpi, hS, Chg.refl _ _⟩
  case round =>
    obtain ⟨k, hk, hki, hSk, hC⟩ := hrel
    have hOk := hO.keep hC
    have c8 : wr.cell? ⟨fb, 8, none⟩ = some (.int .i64 k) := hSk.blk.cell 8
    by_cases hlt : k < i
    · by_cases hv : (k : Int) + mn ≤ n
      · go_wp2_with ((go_at_call 45; refine (key_yes' wr fb win mn mx ch lz A n c mb _ n n k bs B k hSk.blk hOk.text hOk.cap hlen hOk.min hv).mono ?_; rintro e w2 ⟨x0, x1, x2, hx, rfl, hb2⟩))
        have hkb : Bt3 [x0, x1, x2] := hx ▸ keyAt_bt hO.bytes mn k
        have hCB : Chg [fb, mb, pb] wr w2 := Chg.of_below hb2 _
        generalize hW : w2.alloc (Obj.cells #[Value.int IntKind.u8 x0, Value.int IntKind.u8 x1, Value.int IntKind.u8 x2] 84) = W
        have hbW : Below wr.heap.size wr W := by rw [← hW]; exact hb2.alloc hb2.size _
        have hK : Blk W w2.heap.size 84 #[.int .u8 x0, .int .u8 x1, .int .u8 x2] := by rw [← hW]; exact Blk.new _ _ _
        have hz : wr.heap.size ≤ w2.heap.size := hb2.size
        clear hW hb2 c8
        obtain ⟨hblk, ⟨m, hm, hmap⟩, hprev⟩ := hSk
        have fblk := hblk.below hbW hOk.fl
        have fmap := hmap.below hbW hOk.ml
        have fprev := hprev.below hbW hOk.pl
        have c6 : W.cell? ⟨fb, 6, none⟩ = some (.map (some mb)) := fblk.cell 6
        have c7 : W.cell? ⟨fb, 7, none⟩ = some (.slice (some ⟨pb, 0, none⟩) n n) := fblk.cell 7
        have c8 : W.cell? ⟨fb, 8, none⟩ = some (.int .i64 k) := fblk.cell 8
        have k0 : W.cell? ⟨w2.heap.size, 0, none⟩ = some (.int .u8 x0) := hK.cell 0
        have k1 : W.cell? ⟨w2.heap.size, 1, none⟩ = some (.int .u8 x1) := hK.cell 1
        have k2 : W.cell? ⟨w2.heap.size, 2, none⟩ = some (.int .u8 x2) := hK.cell 2
        obtain ⟨pv, hpv⟩ : ∃ pv, W.cell? ⟨pb, k, none⟩ = some pv := by
          refine ⟨(nums .i64 (prevL bs mn k)).toArray[k]'(by have := hOk.text.len; simp [nums, prevL]; simp at this; omega), ?_⟩
          rw [fprev.cell]; exact Array.getElem?_eq_getElem _
        have pz : W.frozen? ⟨pb, k, none⟩ = false := fprev.frozen k
        have hrun := (show MapFn W.drew mb m _ from fmap).look hkb
        simp only [keyV, nums, List.map_cons, List.map_nil] at hrun
        have q1 : (k : Int) < n := by omega
        go_still_tail 15, (by kernel_rfl)
        change wpList _ _ _ _ _ W.drew
        go_wp2_with fail
        have hne1 : pb ≠ fb := (fprev.ne_ fblk (by decide))
        have hne2 : mb ≠ pb := fun e => blk_map_ne fprev fmap e.symm
        have hne3 : fb ≠ mb := blk_map_ne fblk fmap
        have hpz : pb < wr.heap.size := hOk.pl
        have hfz : fb < wr.heap.size := hOk.fl
        have hmz : mb < wr.heap.size := hOk.ml
        clear hrun pz hpv c6 c7 c8 k0 k1 k2
        generalize hW2 : (W.setCell ⟨pb, k, none⟩ (Value.int IntKind.i64 ↑(lastK bs mn [x0, x1, x2] k))).drew = W2
        have gblk := (show Blk (W.setCell ⟨pb, k, none⟩ (Value.int .i64 ↑(lastK bs mn [x0, x1, x2] k))).drew fb _ _ from fblk.far (fun e => hne1 e.symm) _)
        have gK := (show Blk (W.setCell ⟨pb, k, none⟩ (Value.int .i64 ↑(lastK bs mn [x0, x1, x2] k))).drew w2.heap.size _ _ from hK.far (by simp; omega) _)
        have gmap := (show MapFn (W.setCell ⟨pb, k, none⟩ (Value.int .i64 ↑(lastK bs mn [x0, x1, x2] k))).drew mb m _ from fmap.set_ hne2 _)
        have gprev := (show Blk (W.setCell ⟨pb, k, none⟩ (Value.int .i64 ↑(lastK bs mn [x0, x1, x2] k))).drew pb _ _ from fprev.set_ k _)
        have hC2 : Chg [fb, mb, pb] wr _ := ((Chg.of_below hbW [fb, mb, pb]).setCell (p := ⟨pb, k, none⟩) (.inl (by simp)) (Value.int .i64 ↑(lastK bs mn [x0, x1, x2] k))).drew
        rw [hW2] at gblk gK gmap gprev hC2
        clear hW2
        have c6 : W2.cell? ⟨fb, 6, none⟩ = some (.map (some mb)) := gblk.cell 6
        have c8 : W2.cell? ⟨fb, 8, none⟩ = some (.int .i64 k) := gblk.cell 8
        have k0 : W2.cell? ⟨w2.heap.size, 0, none⟩ = some (.int .u8 x0) := gK.cell 0
        have k1 : W2.cell? ⟨w2.heap.size, 1, none⟩ = some (.int .u8 x1) := gK.cell 1
        have k2 : W2.cell? ⟨w2.heap.size, 2, none⟩ = some (.int .u8 x2) := gK.cell 2
        obtain ⟨w3, hrun, hmap3, hg3⟩ := (show MapFn W2.drew mb m _ from gmap).put hkb (by unfold maxLen; omega) (x := (k : Int) + 1) (WalkArith.wf_i64 (by omega))
        simp only [keyV, nums, List.map_cons, List.map_nil] at hrun
        have hC3 : Chg [fb, mb, pb] wr w3 := hC2.drew.grown hg3 (fun g e => .inl (by cases e; simp))
        have iblk := (show Blk W2.drew fb _ _ from gblk).grown hg3 (fun e => hne3 (by injection e))
        have iprev := (show Blk W2.drew pb _ _ from gprev).grown hg3 (fun e => hne2 (by injection e with e; exact e.symm))
        have d8 : w3.cell? ⟨fb, 8, none⟩ = some (.int .i64 k) := iblk.cell 8
        have z8 : w3.frozen? ⟨fb, 8, none⟩ = false := iblk.frozen 8
        have q2 : IntKind.i64.wrap ((k : Int) + 1) = k + 1 := IntWalk.i64_in _ (by omega)
        go_still_tail 10, (by kernel_rfl)
        change wpList _ _ _ _ _ W2.drew
        go_wp2_with fail
        have hst := FSt.put (d := ⟨fb, mb, pb, win, mn, mx, ch, lz, A, n, c, bs⟩) hv (by have := hOk.text.len; simpa using this) hx.out hm iblk iprev hmap3 hne1 hne3
        refine ⟨⟨k + 1, by omega, by omega, hst, hC.trans (hC3.setCell (.inl (by simp)) _)⟩, ?_⟩
        have e8 : (w3.setCell ⟨fb, 8, none⟩ (Value.int .i64 ((k : Int) + 1))).cell? ⟨fb, 8, none⟩ = some (.int .i64 ((k : Int) + 1)) := (iblk.set_ 8 _).cell 8
        have e9 : wr.cell? ⟨fb, 8, none⟩ = some (.int .i64 k) := hblk.cell 8
        rw [e8, e9]
        simp only
        omega
      · have hOb := hOk.bf
        have hOf := hOk.fl
        have hmn := hOk.min
        simp only at hOb hOf hmn
        go_wp2_with ((go_at_call 45; refine (key_no wr fb win mn mx ch lz A n c mb _ n n k k hSk.blk hlen (by omega) (by omega) (by omega) (by omega)).mono ?_; rintro e w2 ⟨rfl, hb2⟩; have hz : fb < w2.heap.size := Nat.lt_of_lt_of_le hOf hb2.size; have d8 : w2.cell? ⟨fb, 8, none⟩ = some (.int .i64 k) := (hSk.blk.below hb2 hOf).cell 8; have z8 : w2.frozen? ⟨fb, 8, none⟩ = false := (hSk.blk.below hb2 hOf).frozen 8))
        have hst := (FSt.skip (d := ⟨fb, mb, pb, win, mn, mx, ch, lz, A, n, c, bs⟩) (by simp only; omega) (by have := hOk.text.len; simpa using this) hSk hb2 hOk.ml).alloc (Obj.cells #[Value.int IntKind.u8 0, Value.int IntKind.u8 0, Value.int IntKind.u8 0] 84)
        refine ⟨⟨k + 1, by omega, by omega, hst, hC.trans (((Chg.of_below hb2 _).setCell (.inl (by simp)) _).alloc _)⟩, ?_⟩
        have e8 := hst.blk.cell 8
        simp only at e8
        rw [e8, c8]
        simp [FCells]
        omega
    · obtain rfl : k = i := by omega
      go_wp2_with fail
      go_end0
      exact ⟨rfl, hSk, hC⟩
end Go.Proofs.Ytplkdjbcdeakaaa

