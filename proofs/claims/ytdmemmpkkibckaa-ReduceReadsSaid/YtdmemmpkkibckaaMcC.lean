/- The program's machine and the document's, over the plain machine: one byte fed. No condition. -/
import Derived.Test.YtdmemmpkkibckaaMcB
namespace Go.Proofs.Ytdmemmpkkibckaa.Gx
open Go
set_option linter.unusedVariables false
variable {R : Nat}
def machCells (f : Int) (g : Nat) (S V N : Int) : List Value := [.int .i64 f, .pointer (some ⟨g, 0, none⟩), .int .i64 S, .int .i64 V, .int .i64 N]
structure Mach (h : GH) (m g : Nat) (f size S V N : Int) (s : Sl) (bs : List Int) : Prop where
  hd : h.look m = some (.row ⟨machCells f g S V N, 0, false⟩)
  out : Out h g size s bs
def ownM (m g : Nat) (s : Sl) : List Nat := m :: ownO g s
variable {h : GH} {m g : Nat} {f size S V N : Int} {s : Sl} {bs : List Int}
theorem Mach.lt (M : Mach h m g f size S V N s bs) : ∀ k ∈ ownM m g s, k < h.next := fun k hk => by
  rcases List.mem_cons.1 hk with rfl | hk
  · exact look_lt M.hd
  · exact M.out.lt k hk
theorem Mach.keep {h' : GH} {own : List Nat} (M : Mach h m g f size S V N s bs) (k : Keep h h' own) (hd : ∀ x ∈ ownM m g s, x ∉ own) : Mach h' m g f size S V N s bs :=
  ⟨k.look M.hd (hd m (by simp [ownM])), M.out.keep k fun x hx => hd x (by simp [ownM, hx])⟩
theorem Mach.ne (M : Mach h m g f size S V N s bs) : m ∉ ownO g s := fun hm => by
  rcases List.mem_cons.1 hm with rfl | hm
  · have := M.hd.symm.trans M.out.hd
    simp [machCells, outCells] at this
  · rcases M.out.buf.at_ with ⟨h1, _⟩ | ⟨r, h1, h2⟩
    · simp [rowsOf, h1] at hm
    · simp [rowsOf, h1] at hm
      subst hm
      have := M.hd.symm.trans h2
      simp at this
theorem Mach.upd (M : Mach h m g f size S V N s bs) {S' V' N' : Int} (j : Nat) (v : Value) (hc : nlay (machCells f g S V N) (0 + j) [v] = machCells f g S' V' N') (hj : j < 5) (ha : allCells [v] = true) :
    ∃ h2, (∀ (β : Type) (K : GH → Option β), gput m (0 + j) [v] h K = K h2) ∧ Mach h2 m g f size S' V' N' s bs ∧ Keep h h2 (ownM m g s) := by
  refine ⟨h.put m (some (.row ⟨machCells f g S' V' N', 0, false⟩)), fun β K => ?_, ⟨look_put_same (look_lt M.hd), M.out.keep (keep_put h m _) fun x hx hm => M.ne (List.mem_singleton.1 hm ▸ hx)⟩, (keep_put h m _).mono fun k hk => by simp at hk; simp [ownM, hk]⟩
  rw [gput_eq M.hd ha (by simp [machCells]; omega), hc]
theorem Mach.setS (M : Mach h m g f size S V N s bs) (x : Int) : ∃ h2, (∀ (β : Type) (K : GH → Option β), gput m (0 + 2) [.int .i64 x] h K = K h2) ∧ Mach h2 m g f size x V N s bs ∧ Keep h h2 (ownM m g s) := M.upd 2 _ rfl (by omega) rfl
theorem Mach.setV (M : Mach h m g f size S V N s bs) (x : Int) : ∃ h2, (∀ (β : Type) (K : GH → Option β), gput m (0 + 3) [.int .i64 x] h K = K h2) ∧ Mach h2 m g f size S x N s bs ∧ Keep h h2 (ownM m g s) := M.upd 3 _ rfl (by omega) rfl
theorem Mach.setN (M : Mach h m g f size S V N s bs) (x : Int) : ∃ h2, (∀ (β : Type) (K : GH → Option β), gput m (0 + 4) [.int .i64 x] h K = K h2) ∧ Mach h2 m g f size S V x s bs ∧ Keep h h2 (ownM m g s) := M.upd 4 _ rfl (by omega) rfl
theorem Mach.withOut (M : Mach h m g f size S V N s bs) {h' : GH} {s' : Sl} {bs' : List Int} (o : Out h' g size s' bs') (k : Keep h h' (ownO g s)) (n : ∀ k ∈ ownO g s', k ∈ ownO g s ∨ h.next ≤ k) :
    Mach h' m g f size S V N s' bs' ∧ Keep h h' (ownM m g s) ∧ ∀ k ∈ ownM m g s', k ∈ ownM m g s ∨ h.next ≤ k := by
  refine ⟨⟨k.look M.hd M.ne, o⟩, k.mono fun x hx => by simp [ownM, hx], fun x hx => ?_⟩
  rcases List.mem_cons.1 hx with rfl | hx
  · exact .inl (by simp [ownM])
  · exact (n x hx).imp (fun h => by simp [ownM, h]) id
section
variable {β : Type}
theorem Mach.c0 (M : Mach h m g f size S V N s bs) : h.cell ⟨m, 0 + 0, none⟩ = some (.int .i64 f) := by rw [cell_of M.hd]; rfl
theorem Mach.c1 (M : Mach h m g f size S V N s bs) : h.cell ⟨m, 0 + 1, none⟩ = some (.pointer (some ⟨g, 0, none⟩)) := by rw [cell_of M.hd]; rfl
theorem Mach.c2 (M : Mach h m g f size S V N s bs) : h.cell ⟨m, 0 + 2, none⟩ = some (.int .i64 S) := by rw [cell_of M.hd]; rfl
theorem Mach.c3 (M : Mach h m g f size S V N s bs) : h.cell ⟨m, 0 + 3, none⟩ = some (.int .i64 V) := by rw [cell_of M.hd]; rfl
theorem Mach.c4 (M : Mach h m g f size S V N s bs) : h.cell ⟨m, 0 + 4, none⟩ = some (.int .i64 N) := by rw [cell_of M.hd]; rfl
def fullB (S size : Int) (bs : List Int) : Bool := S == 0 && (bs.length : Int) == size
theorem dle_Machine_ok_mach (M : Mach h m g f size S V N s bs) (K : Bool → GH → Option β) : (F_dle_Machine_ok R) (some ⟨m, 0, none⟩) h K = K true h := by
  unfold F_dle_Machine_ok; rw [F_dle_Machine_ok_gen]
  simp only [isNone_s, notF, condT, exA_s, M.c1, exP_s]
theorem dle_Machine_Rest_mach (M : Mach h m g f size S V N s bs) (K : Bool → GH → Option β) : (F_dle_Machine_Rest R) (some ⟨m, 0, none⟩) h K = K (S == 0) h := by
  unfold F_dle_Machine_Rest; rw [F_dle_Machine_Rest_gen, dle_Machine_ok_mach M]
  simp only [condT, exA_s, M.c2, exI_s]
theorem dle_Machine_Full_mach (M : Mach h m g f size S V N s bs) (K : Bool → GH → Option β) : (F_dle_Machine_Full R) (some ⟨m, 0, none⟩) h K = K (fullB S size bs) h := by
  unfold F_dle_Machine_Full; rw [F_dle_Machine_Full_gen, dle_Machine_Rest_mach M]
  unfold fullB
  cases hS : S == 0
  · simp only [condF, Bool.false_and]
  · simp only [condT, exA_s, M.c1, exP_s, Bool.true_and]
    rw [hist_Out_Full_out M.out]
theorem ref13_Machine_Full_mach (M : Mach h m g f size S V N s bs) (K : Bool → GH → Option β) : (F_ref13_Machine_Full R) (some ⟨m, 0, none⟩) h K = K (fullB S size bs) h := by
  unfold F_ref13_Machine_Full; rw [F_ref13_Machine_Full_gen]
  unfold fullB
  simp only [exA_s, M.c2, exI_s]
  cases hS : S == 0
  · simp only [condF, Bool.false_and]
  · simp only [condT, exA_s, M.c1, exP_s, Bool.true_and, M.out.c3, exS_s, M.out.c1, exI_s]
    rw [M.out.buf.n]
theorem bytes_Clone_buf (b : Buf h s bs) (hm : bs.length < 274877906944) : ∃ h' r, (∀ (β : Type) (K : Sl → GH → Option β), (F_bytes_Clone R) s h K = K r h') ∧ Buf h' r bs ∧ Keep h h' [] := by
  rcases b.at_ with ⟨h1, h2⟩ | ⟨r, h1, h2⟩
  · refine ⟨h, ⟨none, 0, 0⟩, fun β K => ?_, ⟨by simp [h2], by simp [h2], .inl ⟨rfl, h2⟩⟩, .refl _ _⟩
    unfold F_bytes_Clone; rw [F_bytes_Clone_gen, h1]; rfl
  · have b0 : Buf (h.push (.row ⟨[], 1, false⟩)) ⟨some ⟨h.next, 0, none⟩, 0, 0⟩ [] := ⟨rfl, rfl, .inr ⟨_, rfl, look_push_new⟩⟩
    have k0 := keep_push h (.row ⟨[], 1, false⟩) []
    obtain ⟨h3, s3, e3, b3, k3, n3⟩ := app_row b0 bs h1 (k0.look h2 (by simp)) (by rw [b.n, u8s_length]; omega) (by rw [b.n]; simp [u8s, List.take_of_length_le]) (by simp [most]; omega)
    refine ⟨h3, s3, fun β K => ?_, by simpa using b3, k0.trans k3 fun k hk => .inr (by simp [rowsOf] at hk; omega)⟩
    unfold F_bytes_Clone; rw [F_bytes_Clone_gen, h1]
    rw [isNone_s, condF, gnew_eq rfl]
    exact e3 β _
theorem dle_Machine_Bytes_mach (M : Mach h m g f size S V N s bs) (hm : bs.length < 274877906944) : ∃ h' r, (∀ (β : Type) (K : Sl → GH → Option β), (F_dle_Machine_Bytes R) (some ⟨m, 0, none⟩) h K = K r h') ∧ Buf h' r bs ∧ Keep h h' [] := by
  obtain ⟨h', r, e, b, k⟩ := bytes_Clone_buf M.out.buf hm
  refine ⟨h', r, fun β K => ?_, b, k⟩
  unfold F_dle_Machine_Bytes; rw [F_dle_Machine_Bytes_gen, dle_Machine_ok_mach M]
  simp only [notT, condF, exA_s, M.c1, exP_s]
  unfold F_hist_Out_Bytes; rw [F_hist_Out_Bytes_gen, hist_Out_ok_out M.out]
  simp only [notT, condF, exA_s, M.out.c3, exS_s]
  rw [e]
theorem same_loop {a b : Sl} (ba : Buf h a bs) (bb : Buf h b bs) (hm : bs.length < 274877906944) (R : Nat) : ∀ (k n i : Nat), i + k = bs.length → k < n → ∀ (K0 : GH → Option β) (Kr : Bool → GH → Option β), F_ref01_Same_l0 R n a b (i : Nat) h K0 Kr = K0 h
  | 0, n, i, hi, hn, K0, Kr => by
    obtain ⟨n, rfl⟩ : ∃ k, n = k + 1 := ⟨n - 1, by omega⟩
    rw [F_ref01_Same_l0_succ, decide_eq_false (by rw [ba.n]; omega)]; rfl
  | k + 1, n, i, hi, hn, K0, Kr => by
    obtain ⟨n, rfl⟩ : ∃ k, n = k + 1 := ⟨n - 1, by omega⟩
    rw [F_ref01_Same_l0_succ, decide_eq_true (by rw [ba.n]; omega), cond_true, ba.read _ (by omega) (by omega), bb.read _ (by omega) (by omega)]
    rw [bne_self_eq_false, cond_false, show ((i : Nat) : Int) + 1 = ((i + 1 : Nat) : Int) by omega, IntWalk.i64_in _ (by omega)]
    exact same_loop ba bb hm R k n (i + 1) (by omega) (by omega) K0 Kr
theorem ref01_Same_buf {a b : Sl} (ba : Buf h a bs) (bb : Buf h b bs) (hm : bs.length < 274877906944) (hr : bs.length < R) (K : Bool → GH → Option β) : (F_ref01_Same R) a b h K = K true h := by
  unfold F_ref01_Same; rw [F_ref01_Same_gen, ba.n, bb.n, bne_self_eq_false, cond_false]
  exact same_loop ba bb hm R bs.length R 0 (by omega) hr _ _
end
/-! ### numbers -/
def lowR (f : Int) : Int := if f = 1 then 128 else if f = 2 then 64 else if f = 3 then 32 else 16
theorem tab : ∀ (c : Fin 256) (f : Fin 4),
    IntKind.wrap .i64 (BitVec.ofInt (IntKind.bits .i64) ((c.val : Nat) : Int) &&& BitVec.ofInt (IntKind.bits .i64) (lowR ((f.val : Nat) + 1 : Int) - 1)).toNat = ((c.val : Nat) : Int) % lowR ((f.val : Nat) + 1 : Int) ∧
    shlI .i64 (shrI .i64 ((c.val : Nat) : Int) (IntKind.wrap .i64 (8 - ((f.val : Nat) + 1 : Int)))) 8 = 256 * (((c.val : Nat) : Int) / lowR ((f.val : Nat) + 1 : Int)) ∧
    Int.tmod ((c.val : Nat) : Int) (lowR ((f.val : Nat) + 1 : Int)) = ((c.val : Nat) : Int) % lowR ((f.val : Nat) + 1 : Int) ∧
    Int.tdiv ((c.val : Nat) : Int) (lowR ((f.val : Nat) + 1 : Int)) = ((c.val : Nat) : Int) / lowR ((f.val : Nat) + 1 : Int) := by decide +kernel
theorem tabI {c f : Int} (hc : 0 ≤ c ∧ c ≤ 255) (hf : 1 ≤ f ∧ f ≤ 4) :
    IntKind.wrap .i64 (BitVec.ofInt (IntKind.bits .i64) c &&& BitVec.ofInt (IntKind.bits .i64) (lowR f - 1)).toNat = c % lowR f ∧
    shlI .i64 (shrI .i64 c (IntKind.wrap .i64 (8 - f))) 8 = 256 * (c / lowR f) ∧ Int.tmod c (lowR f) = c % lowR f ∧ Int.tdiv c (lowR f) = c / lowR f := by
  have := tab ⟨c.toNat, by omega⟩ ⟨(f - 1).toNat, by omega⟩
  have h1 : ((c.toNat : Nat) : Int) = c := by omega
  have h2 : (((f - 1).toNat : Nat) : Int) + 1 = f := by omega
  simp only [h1, h2] at this
  exact this
theorem lowR_in {f : Int} : lowR f = 128 ∨ lowR f = 64 ∨ lowR f = 32 ∨ lowR f = 16 := by unfold lowR; (repeat' split) <;> simp
section
variable {β : Type}
theorem dle_mask_f {f : Int} (hf : 1 ≤ f ∧ f ≤ 4) (h : GH) (K : Int → GH → Option β) : (F_dle_mask R) f h K = K (lowR f - 1) h := by
  unfold F_dle_mask; rw [F_dle_mask_gen, decide_eq_false (by rw [IntWalk.i64_in _ (by omega)]; omega), cond_false]
  have : f = 1 ∨ f = 2 ∨ f = 3 ∨ f = 4 := by omega
  rcases this with rfl | rfl | rfl | rfl <;> rfl
theorem two_f (R n : Nat) {f : Int} (hf : 1 ≤ f ∧ f ≤ 4) (h : GH) (K : Int → GH → Option β) : F_ref13_two_l0 R (n + 8) (IntKind.wrap .i64 (8 - f)) 1 0 h K = K (lowR f) h := by
  have : f = 1 ∨ f = 2 ∨ f = 3 ∨ f = 4 := by omega
  have w7 : IntKind.wrap .i64 (8 - 1) = 7 := by decide +kernel
  have w6 : IntKind.wrap .i64 (8 - 2) = 6 := by decide +kernel
  have w5 : IntKind.wrap .i64 (8 - 3) = 5 := by decide +kernel
  have w4 : IntKind.wrap .i64 (8 - 4) = 4 := by decide +kernel
  have step : ∀ (a b c : Int) (q : Nat), c < a → a ≤ 7 → 0 ≤ c → 0 ≤ b → b ≤ 128 → F_ref13_two_l0 R (q + 1) a b c h K = F_ref13_two_l0 R q a (b * 2) (c + 1) h K := fun a b c q h1 h2 h3 h4 h5 => by
    rw [F_ref13_two_l0_succ, decide_eq_true h1, cond_true, IntWalk.i64_in _ (by omega), IntWalk.i64_in _ (by omega)]
  have last : ∀ (a b c : Int) (q : Nat), ¬ c < a → F_ref13_two_l0 R (q + 1) a b c h K = K b h := fun a b c q h1 => by
    rw [F_ref13_two_l0_succ, decide_eq_false h1, cond_false]
  rcases this with rfl | rfl | rfl | rfl
  · rw [w7, step _ _ _ _ (by omega) (by omega) (by omega) (by omega) (by omega), step _ _ _ _ (by omega) (by omega) (by omega) (by omega) (by omega), step _ _ _ _ (by omega) (by omega) (by omega) (by omega) (by omega), step _ _ _ _ (by omega) (by omega) (by omega) (by omega) (by omega), step _ _ _ _ (by omega) (by omega) (by omega) (by omega) (by omega), step _ _ _ _ (by omega) (by omega) (by omega) (by omega) (by omega), step _ _ _ _ (by omega) (by omega) (by omega) (by omega) (by omega), last _ _ _ _ (by omega)]; rfl
  · rw [w6, step _ _ _ _ (by omega) (by omega) (by omega) (by omega) (by omega), step _ _ _ _ (by omega) (by omega) (by omega) (by omega) (by omega), step _ _ _ _ (by omega) (by omega) (by omega) (by omega) (by omega), step _ _ _ _ (by omega) (by omega) (by omega) (by omega) (by omega), step _ _ _ _ (by omega) (by omega) (by omega) (by omega) (by omega), step _ _ _ _ (by omega) (by omega) (by omega) (by omega) (by omega), last _ _ _ _ (by omega)]; rfl
  · rw [w5, step _ _ _ _ (by omega) (by omega) (by omega) (by omega) (by omega), step _ _ _ _ (by omega) (by omega) (by omega) (by omega) (by omega), step _ _ _ _ (by omega) (by omega) (by omega) (by omega) (by omega), step _ _ _ _ (by omega) (by omega) (by omega) (by omega) (by omega), step _ _ _ _ (by omega) (by omega) (by omega) (by omega) (by omega), last _ _ _ _ (by omega)]; rfl
  · rw [w4, step _ _ _ _ (by omega) (by omega) (by omega) (by omega) (by omega), step _ _ _ _ (by omega) (by omega) (by omega) (by omega) (by omega), step _ _ _ _ (by omega) (by omega) (by omega) (by omega) (by omega), step _ _ _ _ (by omega) (by omega) (by omega) (by omega) (by omega), last _ _ _ _ (by omega)]; rfl
theorem ref13_two_f {f : Int} (hf : 1 ≤ f ∧ f ≤ 4) (hR : 8 ≤ R) (h : GH) (K : Int → GH → Option β) : (F_ref13_two R) (IntKind.wrap .i64 (8 - f)) h K = K (lowR f) h := by
  unfold F_ref13_two; rw [F_ref13_two_gen]
  obtain ⟨q, hq⟩ : ∃ q, R = q + 8 := ⟨R - 8, by omega⟩
  have := two_f R q hf h K
  rw [← hq] at this
  exact this
end
end Go.Proofs.Ytdmemmpkkibckaa.Gx

