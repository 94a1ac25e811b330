/- The plain machine: functions that have no text (the model's own entries). No condition. -/
import Derived.Test.YtephmpbccajaaaaGxX
import Derived.Lib.BytesEntry
namespace Go.Proofs.Ytephmpbccajaaaa.Gx
open Go Go.RowKit
set_option linter.unusedVariables false
set_option linter.unusedSimpArgs false
variable {P : Program} {β : Type} {r : β}
/-- where a byte stands first, or less 1 -/
def gIdx : List Int → Int → Int → Int
  | [], _, _ => -1
  | x :: r, c, i => bif Nat.beq (x.toNat % 256) (c.toNat % 256) then i else gIdx r c (i + 1)
theorem gIdx_lib : ∀ (xs : List Int) (c i : Int), gIdx xs c i = (if Lib.indexByte (Lib.bytesOf xs) c.toNat.toUInt8 = -1 then -1 else Lib.indexByte (Lib.bytesOf xs) c.toNat.toUInt8 + i)
  | [], c, i => by simp [gIdx, Lib.indexByte, Lib.bytesOf]
  | x :: r, c, i => by
    have ih := gIdx_lib r c (i + 1)
    have hge := Lib.indexByte_ge (Lib.bytesOf r) c.toNat.toUInt8
    have hb : (UInt8.ofNat x.toNat == c.toNat.toUInt8) = Nat.beq (x.toNat % 256) (c.toNat % 256) := by
      rw [Bool.eq_iff_iff]
      simp only [beq_iff_eq, Nat.beq_eq]
      constructor
      · intro h; have := congrArg UInt8.toNat h; simpa using this
      · intro h; apply UInt8.toNat_inj.1; simpa using h
    show (bif Nat.beq (x.toNat % 256) (c.toNat % 256) then i else gIdx r c (i + 1)) = _
    have hl : Lib.indexByte (Lib.bytesOf (x :: r)) c.toNat.toUInt8 = if Nat.beq (x.toNat % 256) (c.toNat % 256) = true then 0 else if Lib.indexByte (Lib.bytesOf r) c.toNat.toUInt8 == -1 then -1 else Lib.indexByte (Lib.bytesOf r) c.toNat.toUInt8 + 1 := by
      rw [← hb]; rfl
    rw [hl, ih]
    cases hq : Nat.beq (x.toNat % 256) (c.toNat % 256) with
    | true => simp
    | false =>
      by_cases h1 : Lib.indexByte (Lib.bytesOf r) c.toNat.toUInt8 = -1
      · simp [h1]
      · have h2 : (Lib.indexByte (Lib.bytesOf r) c.toNat.toUInt8 == -1) = false := by simpa using h1
        rw [h2]
        simp only [cond_false, Bool.false_eq_true, if_false, if_neg h1]
        rw [if_neg (by omega)]
        omega
/-- the model's entry, at a row of bytes anywhere -/
theorem run_indexByteAt (w : World) (a : Addr) (c : Nat) (xs : List Int) (hc : ∀ j x, xs[j]? = some x → w.cell? (a.add j) = some (.int .u8 x)) (cv : Int) :
    (Extern.BytealgIndexByte.indexByte #[.slice (some a) xs.length c, .int .u8 cv]).run P w = .ok (.int .i64 (Lib.indexByte (Lib.bytesOf xs) cv.toNat.toUInt8)) w := by
  have hl := Lib.run_loadBytesX (P := P) w xs a .empty hc
  have hs := Lib.run_indexByteString (P := P) ⟨(Lib.bytesOf xs).toArray⟩ cv w
  have he : (⟨ByteArray.empty.data ++ (Lib.bytesOf xs).toArray⟩ : ByteArray) = ⟨(Lib.bytesOf xs).toArray⟩ := by
    apply ByteArray.ext
    show (#[] : Array UInt8) ++ (Lib.bytesOf xs).toArray = (Lib.bytesOf xs).toArray
    simp
  rw [he] at hl
  change Sem.run P (do
    let b ← Extern.Bytes.bytesOf (.slice (some a) xs.length c)
    let c ← Extern.Bytes.asByte (.int .u8 cv)
    match (List.range b.size).find? fun i => b[i]! == c with
    | some i => pure (goInt i)
    | none => pure (goInt (-1))) w = _
  change Sem.run P (do
    let b ← Extern.Bytes.bytesOf (.string ⟨(Lib.bytesOf xs).toArray⟩)
    let c ← Extern.Bytes.asByte (.int .u8 cv)
    match (List.range b.size).find? fun i => b[i]! == c with
    | some i => pure (goInt i)
    | none => pure (goInt (-1))) w = _ at hs
  simp only [Extern.Bytes.bytesOf, Sem.run_bind, Sem.run_pure, hl, Result.andThen] at hs ⊢
  exact hs
/-- the entry internal/bytealg.IndexByte -/
def xIndexByte (args : List Value) (h : GH) (K : Value → GH → Option β) : Option β := match args with
  | [.slice a n c, .int .u8 cv] => slCells ⟨a, n, c⟩ 1 h fun vs => exBs vs fun xs => K (.int .i64 (gIdx xs cv 0)) h
  | _ => none
theorem xIndexByte_sim {f : FuncId} {fn : Func} (hf : P.funcs[f]? = some fn) (hname : (fn.name == "runtime.NumGoroutine") = false) (hb : fn.body.isNone = true) (hn : Extern.findNext fn = none) (he : Extern.find fn = some Extern.BytealgIndexByte.indexByte)
    {args : List Value} {h : GH} {K : Value → GH → Option β} (hc : xIndexByte args h K = some r) : ∃ v h', K v h' = some r ∧ ExtSim P f args h v h' := by
  unfold xIndexByte at hc
  split at hc
  · rename_i a n c cv
    obtain ⟨vs, hc, hvs⟩ := slCells_some hc
    obtain ⟨xs, hx, hc'⟩ := exBs_some hc
    subst hx
    refine ⟨_, h, hc', Nat.le_refl _, fun ι w rargs gd ha => ?_⟩
    cases ha with
    | cons h1 h2 => cases h2 with
      | cons h2 h3 =>
        cases h3
        obtain ⟨q, c', hq, hqa⟩ := h1.slice
        subst hq
        rw [h2.int]
        obtain ⟨rs, a1, a2, a3, a4⟩ := slRun gd.hr Nat.one_pos hvs h1
        simp only [Nat.mul_one] at a2
        have hrs : rs = xs.map (.int .u8) := by
          clear a2 a3 a4 hvs hc hc'
          generalize he : xs.map (Value.int .u8) = vs at a1
          induction a1 generalizing xs with
          | nil => cases xs with | nil => rfl | cons _ _ => cases he
          | cons h t ih => cases xs with
            | nil => cases he
            | cons x xs => simp only [List.map_cons, List.cons.injEq] at he ⊢; obtain ⟨rfl, he⟩ := he; rw [h.int, ih xs he]; exact ⟨rfl, rfl⟩
        subst hrs
        have hidx : gIdx xs cv 0 = Lib.indexByte (Lib.bytesOf xs) cv.toNat.toUInt8 := by
          rw [gIdx_lib]; split
          · rename_i h; rw [h]
          · omega
        refine ⟨_, ι, w, ?_, .refl gd.hr, .same _ rfl⟩
        rw [run_callFunc_extern hf hname hb hn he]
        have hlen : xs.length = n := by simpa using a2
        cases q with
        | none =>
          have h0 := a4 rfl
          subst h0
          have : xs = [] := List.length_eq_zero_iff.1 hlen
          subst this
          have := Lib.run_indexByteNil (P := P) w 0 c' cv
          rw [show (#[Value.slice none 0 c', Value.int .u8 cv] : Array Value) = [Value.slice none 0 c', Value.int .u8 cv].toArray from rfl] at this
          simp only [this, Result.andThen]
          rfl
        | some qa =>
          have := run_indexByteAt (P := P) w qa c' xs (fun j x hj => a3 qa rfl j _ (by rw [List.getElem?_map, hj]; rfl)) cv
          rw [hlen] at this
          rw [show (#[Value.slice (some qa) n c', Value.int .u8 cv] : Array Value) = [Value.slice (some qa) n c', Value.int .u8 cv].toArray from rfl] at this
          simp only [this, Result.andThen]
          rw [hidx]
  · cases hc
/-- a function with a text is none of the model's own entries -/
theorem ext_no {f : FuncId} {fn : Func} {h' : GH} {v : Value} (s : ExtSim P f [] GH.empty v h') (hf : P.funcs[f]? = some fn) (hb : (fn.name == "runtime.NumGoroutine" || fn.body.isNone) = false) : False := by
  obtain ⟨rv, ι', w', hr, _⟩ := s.2 noneBorn default [] (good_empty _ _) .nil
  simp only [Bool.or_eq_false_iff] at hb
  simp only [callFunc, Sem.run_bind, run_program, Result.andThen_ok, hf, hb.1, hb.2, Bool.false_eq_true, if_false, Sem.run_pure] at hr
  cases hr
end Go.Proofs.Ytephmpbccajaaaa.Gx

