/- The plain machine and the model: the operations that look at no memory. No condition. -/
import Derived.Test.YtephmpbccajaaaaGxD
import Derived.Laws.Cover3
import Derived.Laws.Pointers
import Derived.Laws.Small
import Derived.Laws.Slices
namespace Go.Proofs.Ytephmpbccajaaaa.Gx
open Go Go.RowKit
set_option linter.unusedVariables false
set_option linter.unusedSimpArgs false
variable {P : Program} {β : Type} {r : β}

theorem cond_none {b : Bool} {x : Option β} (h : (bif b then x else none) = some r) : b = true ∧ x = some r := by cases b; cases h; exact ⟨rfl, h⟩
theorem cond_none' {b : Bool} {x : Option β} (h : (bif b then none else x) = some r) : b = false ∧ x = some r := by cases b; exact ⟨rfl, h⟩; cases h

theorem gbin_sim {op : BinOp} {x y : Value} {K : Value → Option β} (h : gbin op x y K = some r) (t : TypeId) (hok : eqOk P op t x = true) :
    ∃ v, K v = some r ∧ ∀ ι rx ry, VR ι x rx → VR ι y ry → ∃ rv, VR ι v rv ∧ ∀ ox oy w, (do eqGuard op t ox oy rx ry; binOp op t rx ry : Sem Value).run P w = .ok rv w := by
  unfold gbin at h
  split at h
  · rename_i k a k' b
    cases op
    all_goals simp only [] at h
    case shl =>
      obtain ⟨hb, h⟩ := cond_none' h
      have hb' : ¬ b < 0 := by simpa using hb
      exact ⟨_, h, fun ι rx ry hx hy => ⟨_, .same _ rfl, fun ox oy w => by rw [hx.int, hy.int]; simp [eqGuard_at_int, binOp_shl, Op.shift, shlI, if_neg hb']⟩⟩
    case shr =>
      obtain ⟨hb, h⟩ := cond_none' h
      have hb' : ¬ b < 0 := by simpa using hb
      exact ⟨_, h, fun ι rx ry hx hy => ⟨_, .same _ rfl, fun ox oy w => by rw [hx.int, hy.int]; simp [eqGuard_at_int, binOp_shr, Op.shift, shrI, if_neg hb']⟩⟩
    all_goals
      have h2 := cond_none h
      clear h
      have hk' : k = k' := by simpa using h2.1
      subst hk'
      have h := h2.2
      clear h2
    case quo =>
      obtain ⟨hb, h⟩ := cond_none' h
      have hb' : ¬ b = 0 := by simpa using hb
      exact ⟨_, h, fun ι rx ry hx hy => ⟨_, .same _ rfl, fun ox oy w => by rw [hx.int, hy.int]; simp [eqGuard_at_int, binOp_quo, Op.intDiv, hb']⟩⟩
    case rem =>
      obtain ⟨hb, h⟩ := cond_none' h
      have hb' : ¬ b = 0 := by simpa using hb
      exact ⟨_, h, fun ι rx ry hx hy => ⟨_, .same _ rfl, fun ox oy w => by rw [hx.int, hy.int]; simp [eqGuard_at_int, binOp_rem, Op.intDiv, hb']⟩⟩
    all_goals
      refine ⟨_, h, fun ι rx ry hx hy => ⟨_, .same _ rfl, fun ox oy w => ?_⟩⟩
      rw [hx.int, hy.int]
      simp only [eqGuard_at_int, binOp_add, binOp_sub, binOp_mul, binOp_and, binOp_or, binOp_xor, binOp_andNot, binOp_eql, binOp_neq, binOp_lss, binOp_leq, binOp_gtr, binOp_geq, bne]
      rfl
  · rename_i a b
    cases op <;> simp only [] at h <;> try cases h
    all_goals
      have hu : P.underlying t = some .bool := by
        unfold eqOk at hok; simp only [] at hok; split at hok <;> simp_all
      refine ⟨_, h, fun ι rx ry hx hy => ⟨_, .same _ rfl, fun ox oy w => ?_⟩⟩
      rw [hx.bool, hy.bool]
      simp [eqGuard_at_bool, binOp, run_equal_bool _ t _ _ hu]
  · rename_i a
    cases op <;> simp only [] at h <;> try cases h
    all_goals
      have hu : P.underlying t = some (.pointer (P.pointee t)) := by
        unfold eqOk at hok; simp only [] at hok; split at hok <;> simp_all [Program.pointee]
      refine ⟨_, h, fun ι rx ry hx hy => ?_⟩
      obtain ⟨q, hq, hn⟩ := hx.pointer
      refine ⟨_, .same _ rfl, fun ox oy w => ?_⟩
      rw [hq, hy.nilP]
      simp [eqGuard_at_pointer, binOp, run_equal_pointer_nil w t _ hu, hn]
  · rename_i a n c n' c'
    cases op <;> simp only [] at h <;> try cases h
    all_goals
      obtain ⟨e, hu⟩ : ∃ e, P.underlying t = some (.slice e) := by
        unfold eqOk at hok; simp only [] at hok; split at hok <;> simp_all
      refine ⟨_, h, fun ι rx ry hx hy => ?_⟩
      obtain ⟨q, cc, hq, hn⟩ := hx.slice
      refine ⟨_, .same _ rfl, fun ox oy w => ?_⟩
      rw [hq, hy.nilS]
      have he : ∀ d, (Op.equalIn (d + 1) t (.slice q n cc) (.slice none n' c')).run P w = .ok q.isNone w := fun d => by cases q <;> simp [Op.equalIn, run_underlying hu]
      have he' : (Op.equal t (.slice q n cc) (.slice none n' c')).run P w = .ok q.isNone w := he 9999
      simp [eqGuard_at_slice, binOp, he', hn]
  · cases h
theorem gun_sim {op : UnOp} {x : Value} {K : Value → Option β} (h : gun op x K = some r) :
    ∃ v, K v = some r ∧ ∀ ι rx, VR ι x rx → ∃ rv, VR ι v rv ∧ ∀ w, (Op.unary op rx).run P w = .ok rv w := by
  unfold gun at h
  split at h
  · exact ⟨_, h, fun ι rx hx => ⟨_, .same _ rfl, fun w => by rw [hx.int]; rfl⟩⟩
  · exact ⟨_, h, fun ι rx hx => ⟨_, .same _ rfl, fun w => by rw [hx.int]; rfl⟩⟩
  · exact ⟨_, h, fun ι rx hx => ⟨_, .same _ rfl, fun w => by rw [hx.bool]; rfl⟩⟩
  · cases h
theorem gconv_sim {s d : TypeId} {x : Value} {K : Value → Option β} (h : gconv P s d x K = some r) :
    ∃ v, K v = some r ∧ ∀ ι rx, VR ι x rx → ∃ rv, VR ι v rv ∧ ∀ w, (convert s d rx).run P w = .ok rv w := by
  unfold gconv at h
  split at h
  · rename_i k k' n hd
    split at h
    · rename_i u hs
      exact ⟨_, h, fun ι rx hx => ⟨_, .same _ rfl, fun w => by rw [hx.int]; simp [convert, run_underlying hs, run_underlying hd, Conv.intToInt]⟩⟩
    · cases h
  · rename_i sx hd
    split at h
    · rename_i hs
      exact ⟨_, h, fun ι rx hx => ⟨_, .same _ rfl, fun w => by rw [hx.str]; simp [convert, run_underlying hs, run_underlying hd]⟩⟩
    · cases h
  · cases h
theorem sizeOf_run {t : TypeId} {n : Nat} (h : sizeT P t = some n) (w : World) : (sizeOf t).run P w = .ok n w := by
  unfold sizeT at h
  cases hi : P.info? t with
  | none => simp [hi] at h
  | some i => simp [hi] at h; simp [sizeOf, typeInfo, hi, h]
theorem exA_some {p : Option Addr} {K : Nat → Nat → Option β} (h : exA p K = some r) : ∃ g o, p = some ⟨g, o, none⟩ ∧ K g o = some r := by
  unfold exA at h
  split at h
  · exact ⟨_, _, rfl, h⟩
  · cases h
theorem add_none (b o n : Nat) : (⟨b, o, none⟩ : Addr).add n = ⟨b, o + n, none⟩ := Addr.add_mid b o n
theorem gfieldAddr_sim {s : TypeId} {x : Value} {i : Nat} {K : Value → Option β} (h : gfieldAddr P s x i K = some r) :
    ∃ v, K v = some r ∧ ∀ ι rx, VR ι x rx → ∃ rv, VR ι v rv ∧ ∀ w, (Instr.fieldAt s rx i).run P w = .ok rv w := by
  unfold gfieldAddr at h
  split at h
  · rename_i fs p hs
    split at h
    · rename_i f hf
      split at h
      · rename_i n hn
        obtain ⟨hz, h⟩ := cond_none' h
        obtain ⟨g, o, rfl, h⟩ := exA_some h
        have hz' : ¬ n = 0 := fun e => by subst e; simp at hz
        have hf' : fs[i]? = some f := by rw [nth_eq] at hf; simpa using hf
        refine ⟨_, h, fun ι rx hx => ?_⟩
        rcases hx.someP with ⟨p, hp, rfl⟩ | ⟨hd, q, rfl⟩
        · refine ⟨_, .ptr g (o + f.offset) p hp, fun w => ?_⟩
          simp [Instr.fieldAt, run_underlying hs, hf', Instr.sureAddr, fieldPlace, sizeOf_run hn, hz', add_none, Nat.add_assoc]
        · refine ⟨_, .ptrD ⟨g, o + f.offset, none⟩ (q.add f.offset) hd, fun w => ?_⟩
          simp [Instr.fieldAt, run_underlying hs, hf', Instr.sureAddr, fieldPlace, sizeOf_run hn, hz']
      · cases h
    · cases h
  · cases h
theorem within_some {i : Int} {n : Nat} {K : Option β} (h : within i n K = some r) : 0 ≤ i ∧ i < n ∧ K = some r := by
  unfold within at h
  obtain ⟨h1, h⟩ := cond_none h
  obtain ⟨h2, h⟩ := cond_none h
  exact ⟨by simpa using h1, by simpa using h2, h⟩
theorem gindexAddr_sim {t : TypeId} {x i : Value} {K : Value → Option β} (h : gindexAddr P t x i K = some r) :
    ∃ v, K v = some r ∧ ∀ ι rx ri, VR ι x rx → VR ι i ri → ∃ rv, VR ι v rv ∧ ∀ w, (Instr.indexAt t rx ri).run P w = .ok rv w := by
  unfold gindexAddr at h
  split at h
  · rename_i e a n c k j ht
    split at h
    · rename_i z hz
      obtain ⟨g, o, rfl, h⟩ := exA_some h
      obtain ⟨h0, h1, h⟩ := within_some h
      refine ⟨_, h, fun ι rx ri hx hi => ?_⟩
      rw [hi.int]
      rcases hx.someS with ⟨p, c', hp, rfl, _⟩ | ⟨hd, q, c', rfl, _⟩ | ⟨hn, _⟩
      · refine ⟨_, .ptr g (o + j.toNat * z) p hp, fun w => ?_⟩
        simp [Instr.indexAt, run_underlying ht, asIntOf, h0, h1, sizeOf_run hz, add_none, Nat.add_assoc]
      · refine ⟨_, .ptrD ⟨g, o + j.toNat * z, none⟩ (q.add (j.toNat * z)) hd, fun w => ?_⟩
        simp [Instr.indexAt, run_underlying ht, asIntOf, h0, h1, sizeOf_run hz]
      · omega
    · cases h
  · rename_i n e a k j ht
    split at h
    · rename_i z hz
      obtain ⟨g, o, rfl, h⟩ := exA_some h
      obtain ⟨h0, h1, h⟩ := within_some h
      refine ⟨_, h, fun ι rx ri hx hi => ?_⟩
      rw [hi.int]
      rcases hx.someP with ⟨p, hp, rfl⟩ | ⟨hd, q, rfl⟩
      · refine ⟨_, .ptr g (o + j.toNat * z) p hp, fun w => ?_⟩
        simp [Instr.indexAt, run_underlying ht, asIntOf, h0, h1, sizeOf_run hz, add_none, Nat.add_assoc, Instr.sureAddr]
      · refine ⟨_, .ptrD ⟨g, o + j.toNat * z, none⟩ (q.add (j.toNat * z)) hd, fun w => ?_⟩
        simp [Instr.indexAt, run_underlying ht, asIntOf, h0, h1, sizeOf_run hz, Instr.sureAddr]
    · cases h
  · cases h
theorem gnilCheck_sim {x : Value} {K : Value → Option β} (h : gnilCheck x K = some r) :
    ∃ v, K v = some r ∧ ∀ ι rx, VR ι x rx → VR ι v rx ∧ ∃ q, rx = .pointer (some q) := by
  unfold gnilCheck at h
  split at h
  · obtain ⟨g, o, rfl, h⟩ := exA_some h
    refine ⟨_, h, fun ι rx hx => ?_⟩
    refine ⟨hx, ?_⟩
    rcases hx.someP with ⟨p, hp, rfl⟩ | ⟨hd, q, rfl⟩ <;> exact ⟨_, rfl⟩
  · cases h
theorem gpick_sim {c a b : Value} {K : Value → Option β} (h : gpick c a b K = some r) :
    ∃ v, K v = some r ∧ ∀ ι rc ra rb, VR ι c rc → VR ι a ra → VR ι b rb → ∃ rv, VR ι v rv ∧ ∀ w, (do pure (if ← asBool rc then ra else rb) : Sem Value).run P w = .ok rv w := by
  unfold gpick at h
  split at h
  · rename_i t
    cases t
    · exact ⟨_, h, fun ι rc ra rb hc ha hb => ⟨rb, hb, fun w => by rw [hc.bool]; simp [asBool]⟩⟩
    · exact ⟨_, h, fun ι rc ra rb hc ha hb => ⟨ra, ha, fun w => by rw [hc.bool]; simp [asBool]⟩⟩
  · cases h
theorem glen_sim {t ty : TypeId} {x : Value} {K : Value → Option β} (h : glen P t x K = some r) :
    ∃ v, K v = some r ∧ ∀ ι rx, VR ι x rx → ∃ rv, VR ι v rv ∧ ∀ w, (Builtin.len_ #[t] ty #[rx]).run P w = .ok rv w := by
  unfold glen at h
  split at h
  · rename_i s ht
    exact ⟨_, h, fun ι rx hx => ⟨_, .same _ rfl, fun w => by rw [hx.str]; simp [Builtin.len_, run_underlying ht, goInt]⟩⟩
  · rename_i e a n c ht
    refine ⟨_, h, fun ι rx hx => ?_⟩
    obtain ⟨q, c', rfl, _⟩ := hx.slice
    exact ⟨_, .same _ rfl, fun w => by simp [Builtin.len_, run_underlying ht, goInt]⟩
  · rename_i n e ht
    exact ⟨_, h, fun ι rx hx => ⟨_, .same _ rfl, fun w => by simp [Builtin.len_, run_underlying ht, goInt]⟩⟩
  · cases h
theorem gmx_sim {m : Bool} {x y : Value} {K : Value → Option β} (h : gmx m x y K = some r) :
    ∃ v, K v = some r ∧ ∀ ι rx ry, VR ι x rx → VR ι y ry → ∃ rv, VR ι v rv ∧ ∀ w, (if m then Builtin.max2 rx ry else Builtin.min2 rx ry).run P w = .ok rv w := by
  unfold gmx at h
  split at h
  · obtain ⟨hk, h⟩ := cond_none h
    refine ⟨_, h, fun ι rx ry hx hy => ⟨_, .same _ rfl, fun w => ?_⟩⟩
    rw [hx.int, hy.int]
    cases m <;> simp [Builtin.max2, Builtin.min2]
  · cases h
theorem gmxs_sim {m : Bool} {ys : List Value} : ∀ {x : Value} {K : Value → Option β}, gmxs m ys x K = some r →
    ∃ v, K v = some r ∧ ∀ ι rx rys, VR ι x rx → All2 (VR ι) ys rys → ∃ rv, VR ι v rv ∧ ∀ w, (rys.foldlM (if m then Builtin.max2 else Builtin.min2) rx).run P w = .ok rv w := by
  induction ys with
  | nil => exact fun h => ⟨_, h, fun ι rx rys hx hy => by cases hy; exact ⟨rx, hx, fun w => rfl⟩⟩
  | cons y ys ih =>
    intro x K h
    obtain ⟨v, h, hv⟩ := gmx_sim (P := P) h
    obtain ⟨u, h, hu⟩ := ih h
    refine ⟨u, h, fun ι rx rys hx hy => ?_⟩
    cases hy with
    | cons hy1 hys =>
      obtain ⟨rv, h1, h2⟩ := hv ι _ _ hx hy1
      obtain ⟨ru, h3, h4⟩ := hu ι _ _ h1 hys
      refine ⟨ru, h3, fun w => ?_⟩
      simp only [List.foldlM_cons, Sem.run_bind]
      have := h2 w
      cases m <;> simp_all
end Go.Proofs.Ytephmpbccajaaaa.Gx

