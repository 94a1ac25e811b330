/- The program's output and the document's, over the plain machine: what is told, byte by byte. No condition. -/
import Derived.Test.YtdmemmpkkibckaaVec
import Derived.Test.YtdmemmpkkibckaaGxx
import Derived.IntWalk
namespace Go.Proofs.Ytdmemmpkkibckaa.Gx
open Go
set_option linter.unusedVariables false
variable {R : Nat}
/-- an output: its window, how much it may hold, noughts, and what it holds -/
def outCells (size : Int) (s : Sl) : List Value := [.int .i64 65536, .int .i64 size, .bool true, .slice s.a s.n s.c]
structure Out (h : GH) (g : Nat) (size : Int) (s : Sl) (bs : List Int) : Prop where
  hd : h.look g = some (.row ⟨outCells size s, 0, false⟩)
  buf : Buf h s bs
def ownO (g : Nat) (s : Sl) : List Nat := g :: rowsOf s
theorem Out.lt {h : GH} {g : Nat} {size : Int} {s : Sl} {bs : List Int} (o : Out h g size s bs) : ∀ k ∈ ownO g s, k < h.next := fun k hk => by
  rcases List.mem_cons.1 hk with rfl | hk
  · exact look_lt o.hd
  · exact o.buf.lt k hk
theorem Out.keep {h h' : GH} {g : Nat} {size : Int} {s : Sl} {bs : List Int} {own : List Nat} (o : Out h g size s bs) (k : Keep h h' own) (hd : ∀ x ∈ ownO g s, x ∉ own) : Out h' g size s bs :=
  ⟨k.look o.hd (hd g (by simp [ownO])), o.buf.keep k fun x hx => hd x (by simp [ownO, hx])⟩
theorem Out.ne {h : GH} {g : Nat} {size : Int} {s : Sl} {bs : List Int} (o : Out h g size s bs) : g ∉ rowsOf s := fun hm => by
  rcases o.buf.at_ with ⟨h1, _⟩ | ⟨r, h1, h2⟩
  · simp [rowsOf, h1] at hm
  · simp [rowsOf, h1] at hm
    subst hm
    have := o.hd.symm.trans h2
    simp at this
/-- the slice of an output put anew -/
theorem Out.put {h h1 : GH} {g : Nat} {size : Int} {s s1 : Sl} {bs bs1 : List Int} (o : Out h g size s bs) (b : Buf h1 s1 bs1) (k : Keep h h1 (rowsOf s)) (hn : ∀ k ∈ rowsOf s1, k ∈ rowsOf s ∨ h.next ≤ k) :
    ∃ h2, (∀ (β : Type) (K : GH → Option β), gput g (0 + 3) [Value.slice s1.a s1.n s1.c] h1 K = K h2) ∧ Out h2 g size s1 bs1 ∧ Keep h h2 (ownO g s) ∧ ∀ k ∈ ownO g s1, k ∈ ownO g s ∨ h.next ≤ k := by
  have hl : h1.look g = some (.row ⟨outCells size s, 0, false⟩) := k.look o.hd o.ne
  have hg1 : g ∉ rowsOf s1 := fun hm => by rcases hn g hm with h | h; exact o.ne h; have := look_lt o.hd; omega
  refine ⟨h1.put g (some (.row ⟨outCells size s1, 0, false⟩)), fun β K => ?_, ⟨look_put_same (look_lt hl), ?_⟩, ?_, ?_⟩
  · rw [gput_eq hl rfl (by simp [outCells])]; rfl
  · exact b.keep (keep_put h1 g _) fun x hx hm => hg1 (List.mem_singleton.1 hm ▸ hx)
  · exact (k.mono (o1 := ownO g s) fun x hx => by simp [ownO, hx]).trans (keep_put h1 g _) fun x hx => .inl (by simp [ownO] at hx ⊢; exact .inl hx)
  · intro x hx
    rcases List.mem_cons.1 hx with rfl | hx
    · exact .inl (by simp [ownO])
    · exact (hn x hx).imp (fun h => by simp [ownO, h]) id
/-- news that stand in a row of their own, appended -/
theorem app_row {h : GH} {s : Sl} {bs : List Int} (b : Buf h s bs) {x : Sl} {g o : Nat} {cs : List Value} {e : Nat} {r : Bool} (ns : List Int) (ha : x.a = some ⟨g, o, none⟩) (hl : h.look g = some (.row ⟨cs, e, r⟩)) (hle : o + x.n ≤ cs.length)
    (hcs : (cs.drop o).take x.n = u8s ns) (hm : (bs.length + ns.length) * 2 ≤ most) :
    ∃ h' s', (∀ (β : Type) (K : Sl → GH → Option β), gappS 1 1 s x h K = K s' h') ∧ Buf h' s' (bs ++ ns) ∧ Keep h h' (rowsOf s) ∧ ∀ k ∈ rowsOf s', k ∈ rowsOf s ∨ h.next ≤ k := by
  obtain ⟨h', s', e1, b1, k1, n1⟩ := gapp_buf b ns hm
  refine ⟨h', s', fun β K => ?_, b1, k1, n1⟩
  have hn : x.n = ns.length := by
    have := congrArg List.length hcs
    rw [u8s_length] at this
    simp at this; omega
  rw [gappS, slCells_row ha hl hle, hcs, hn, e1]
/-- a byte put behind -/
theorem app_one {h : GH} {g : Nat} {size : Int} {s : Sl} {bs : List Int} (o : Out h g size s bs) (c : Int) (hm : bs.length < 274877906944) :
    ∃ h' s', (∀ (β : Type) (K : GH → Option β), (gnew [Value.int .u8 c] 1 h fun g14 h15 => gappS 1 1 s ⟨(some ⟨g14, 0, none⟩), 1, 1⟩ h15 fun s16 h17 => gput g (0 + 3) [Value.slice s16.a s16.n s16.c] h17 fun h20 => K h20) = K h') ∧ Out h' g size s' (bs ++ [c]) ∧ Keep h h' (ownO g s) ∧ ∀ k ∈ ownO g s', k ∈ ownO g s ∨ h.next ≤ k := by
  have k0 := keep_push h (.row ⟨[Value.int .u8 c], 1, false⟩) []
  have o0 := o.keep k0 (fun _ _ => by simp)
  obtain ⟨h1, s1, e1, b1, k1, n1⟩ := app_row o0.buf [c] (x := ⟨(some ⟨h.next, 0, none⟩), 1, 1⟩) rfl look_push_new (by simp) rfl (by simp [most]; omega)
  obtain ⟨h2, e2, o2, k2, n2⟩ := o0.put b1 k1 n1
  refine ⟨h2, s1, fun β K => ?_, o2, (k0.mono (by simp)).trans k2 fun x hx => .inl hx, fun x hx => (n2 x hx).imp id fun h => ?_⟩
  · rw [gnew_eq rfl, e1, e2]
  · have := k0.1; omega
section
variable {β : Type}
theorem Out.c0 {h : GH} {g : Nat} {size : Int} {s : Sl} {bs : List Int} (o : Out h g size s bs) : h.cell ⟨g, 0 + 0, none⟩ = some (.int .i64 65536) := by rw [cell_of o.hd]; rfl
theorem Out.c1 {h : GH} {g : Nat} {size : Int} {s : Sl} {bs : List Int} (o : Out h g size s bs) : h.cell ⟨g, 0 + 1, none⟩ = some (.int .i64 size) := by rw [cell_of o.hd]; rfl
theorem Out.c2 {h : GH} {g : Nat} {size : Int} {s : Sl} {bs : List Int} (o : Out h g size s bs) : h.cell ⟨g, 0 + 2, none⟩ = some (.bool true) := by rw [cell_of o.hd]; rfl
theorem Out.c3 {h : GH} {g : Nat} {size : Int} {s : Sl} {bs : List Int} (o : Out h g size s bs) : h.cell ⟨g, 0 + 3, none⟩ = some (.slice s.a s.n s.c) := by rw [cell_of o.hd]; rfl
theorem hist_Out_ok_out {h : GH} {g : Nat} {size : Int} {s : Sl} {bs : List Int} (o : Out h g size s bs) (K : Bool → GH → Option β) : (F_hist_Out_ok R) (some ⟨g, 0, none⟩) h K = K true h := by
  unfold F_hist_Out_ok; rw [F_hist_Out_ok_gen]
  simp only [Option.isNone, Bool.not_false, cond_true, exA, o.c0, exI, decide_true]
  rfl
theorem hist_Out_Full_out {h : GH} {g : Nat} {size : Int} {s : Sl} {bs : List Int} (o : Out h g size s bs) (K : Bool → GH → Option β) : (F_hist_Out_Full R) (some ⟨g, 0, none⟩) h K = K ((bs.length : Int) == size) h := by
  unfold F_hist_Out_Full; rw [F_hist_Out_Full_gen, hist_Out_ok_out o]
  simp only [cond_true, exA, o.c3, exS, o.c1, exI, decide_true, o.buf.n]
/-- a byte told, or no room -/
def litR (size : Int) (bs : List Int) (c : Int) : Int × List Int := if (bs.length : Int) = size then (9, bs) else (0, bs ++ [c])
theorem lit_out {h : GH} {g : Nat} {size : Int} {s : Sl} {bs : List Int} (o : Out h g size s bs) (c : Int) (hle : (bs.length : Int) ≤ size) (hm : bs.length < 274877906944) :
    ∃ h' s', (∀ (β : Type) (K : Int → GH → Option β), (F_hist_Out_Lit R) (some ⟨g, 0, none⟩) c h K = K (litR size bs c).1 h' ∧ (F_ref07_Out_Lit R) (some ⟨g, 0, none⟩) c h K = K (litR size bs c).1 h') ∧ Out h' g size s' (litR size bs c).2 ∧ Keep h h' (ownO g s) ∧ ∀ k ∈ ownO g s', k ∈ ownO g s ∨ h.next ≤ k := by
  by_cases hf : (bs.length : Int) = size
  · refine ⟨h, s, fun β K => ⟨?_, ?_⟩, by simpa [litR, hf] using o, .refl _ _, fun k hk => .inl hk⟩
    · unfold F_hist_Out_Lit; rw [F_hist_Out_Lit_gen, hist_Out_ok_out o]
      simp [exA, o.c3, exS, o.c1, exI, o.buf.n, hf, litR]
    · unfold F_ref07_Out_Lit; rw [F_ref07_Out_Lit_gen]
      simp [exA, o.c3, exS, o.c1, exI, o.buf.n, hf, litR]
  · obtain ⟨h', s', e, o', k', n'⟩ := app_one o c hm
    refine ⟨h', s', fun β K => ⟨?_, ?_⟩, by simpa [litR, hf] using o', k', n'⟩
    · unfold F_hist_Out_Lit; rw [F_hist_Out_Lit_gen, hist_Out_ok_out o]
      have q : (((s.n : Nat) : Int) == size) = false := by rw [o.buf.n]; exact beq_eq_false_iff_ne.2 hf
      simp only [exA, o.c3, exS, o.c1, exI, litR, hf, if_false, Bool.not_true, cond_false, decide_true, cond_true, q]
      exact e β _
    · unfold F_ref07_Out_Lit; rw [F_ref07_Out_Lit_gen]
      have : decide (((s.n : Nat) : Int) ≥ size) = false := decide_eq_false (by rw [o.buf.n]; omega)
      simp only [exA, o.c3, exS, o.c1, exI, litR, hf, if_false, cond_false, decide_true, cond_true, this]
      exact e β _
end
end Go.Proofs.Ytdmemmpkkibckaa.Gx

