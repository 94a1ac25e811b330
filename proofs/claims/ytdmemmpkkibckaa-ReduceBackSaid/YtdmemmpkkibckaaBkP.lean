/- What is encoded is decoded as it was: plain lists. No condition. -/
import Derived.Test.YtdmemmpkkibckaaDec
import Derived.Test.YtdmemmpkkibckaaRdA
import Derived.Test.YtdmemmpkkibckaaMcH
namespace Go.Proofs.Ytdmemmpkkibckaa.Gx
open Go Go.RowKit Fd
set_option linter.unusedVariables false
set_option linter.unusedSimpArgs false
/-! ### numbers of bits read back -/
theorem fitW_app {a b : List (Nat × Nat)} : fitW (a ++ b) ↔ fitW a ∧ fitW b :=
  ⟨fun h => ⟨fun p hp => h p (by simp [hp]), fun p hp => h p (by simp [hp])⟩, fun h p hp => by rcases List.mem_append.1 hp with q | q; exact h.1 p q; exact h.2 p q⟩
theorem wv_lt : ∀ {l : List (Nat × Nat)}, fitW l → wv l < 2 ^ wl l
  | [], _ => by simp [wv, wl]
  | (x, k) :: r, h => by
    have h1 := (h (x, k) (by simp)).1
    have h2 := wv_lt (l := r) (fun p hp => h p (by simp [hp]))
    simp only at h1
    rw [wv, wl, Nat.pow_add]
    have : wv r * 2 ^ k + 2 ^ k ≤ 2 ^ wl r * 2 ^ k := by
      rw [← Nat.succ_mul]; exact Nat.mul_le_mul_right _ h2
    rw [Nat.mul_comm (2 ^ k)]; omega
/-- bytes that hold numbers of bits -/
def Holds (X : List Int) (l : List (Nat × Nat)) : Prop := numN X = wv l ∧ wl l ≤ 8 * X.length ∧ fitW l
theorem rd_at {X : List Int} {a r : List (Nat × Nat)} {x k : Nat} (H : Holds X (a ++ (x, k) :: r)) : rdV X (wl a) k = x ∧ wl a + k ≤ 8 * X.length := by
  obtain ⟨h1, h2, h3⟩ := H
  have ha := wv_lt (fitW_app.1 h3).1
  have hx := ((fitW_app.1 h3).2 (x, k) (by simp)).1
  simp only at hx
  constructor
  · rw [rdV, h1, wv_app, wv, Nat.add_mul_div_right _ _ (Nat.pow_pos (by omega)), Nat.div_eq_of_lt ha, Nat.zero_add, Nat.add_mul_mod_self_right, Nat.mod_eq_of_lt hx]
  · rw [wl_app, wl] at h2; omega
theorem bits_at {X : List Int} {a r : List (Nat × Nat)} {x k : Nat} (H : Holds X (a ++ (x, k) :: r)) : bitsV X (wl a) k 0 = x ∧ bitsP X (wl a) k 0 = wl (a ++ [(x, k)]) ∧ bitsE X (wl a) k 0 = 0 := by
  obtain ⟨h1, h2⟩ := rd_at H
  refine ⟨by rw [bitsV, if_pos ⟨rfl, h2⟩, h1], by rw [bitsP, if_pos ⟨rfl, h2⟩, wl_app]; simp [wl], by rw [bitsE, if_pos rfl, if_pos h2]⟩
theorem holds_assoc {X : List Int} {a b r : List (Nat × Nat)} (H : Holds X (a ++ (b ++ r))) : Holds X ((a ++ b) ++ r) := by rwa [List.append_assoc]
theorem rdB_at {X : List Int} : ∀ (cs : List Int) (a r : List (Nat × Nat)), B8 cs → Holds X (a ++ (bytes8 cs ++ r)) → rdB X cs.length (wl a) 0 = (cs, wl (a ++ bytes8 cs), 0)
  | [], a, r, hb, H => by simp [rdB, bytes8]
  | c :: cs, a, r, hb, H => by
    have hc := hb c (by simp)
    have H1 : Holds X (a ++ (c.toNat, 8) :: (bytes8 cs ++ r)) := H
    obtain ⟨q1, q2, q3⟩ := bits_at H1
    have H2 : Holds X ((a ++ [(c.toNat, 8)]) ++ (bytes8 cs ++ r)) := by simpa using H1
    have ih := rdB_at cs (a ++ [(c.toNat, 8)]) r (fun x hx => hb x (by simp [hx])) H2
    rw [List.length_cons, rdB, q1, q2, q3, ih]
    have : (a ++ [(c.toNat, 8)]) ++ bytes8 cs = a ++ bytes8 (c :: cs) := by simp [bytes8]
    rw [this]
    simp; omega
theorem getS_at {X : List Int} {L' : Nat → List Int} (hL : ∀ c, c < 256 → B8 (L' c)) : ∀ (m : Nat) (a r : List (Nat × Nat)) (L : Nat → List Int), m ≤ 256 → Holds X (a ++ (setsL L' m ++ r)) → getS X m (wl a) 0 L = ⟨fun x => if x < m then (L' x).take 32 else L x, 0, wl (a ++ setsL L' m), 0⟩
  | 0, a, r, L, hm, H => by simp [getS, setsL]
  | c + 1, a, r, L, hm, H => by
    have hb : B8 ((L' c).take 32) := fun x hx => hL c (by omega) x (List.mem_of_mem_take hx)
    have h32 : ((L' c).take 32).length ≤ 32 := by simp; omega
    generalize hF : (L' c).take 32 = F at *
    have H0 : Holds X (a ++ (F.length, 6) :: (bytes8 F ++ (setsL L' c ++ r))) := by
      have : a ++ (setsL L' (c + 1) ++ r) = a ++ (F.length, 6) :: (bytes8 F ++ (setsL L' c ++ r)) := by rw [setsL, hF, oneL]; simp
      rwa [this] at H
    obtain ⟨q1, q2, q3⟩ := bits_at H0
    have H1 : Holds X ((a ++ [(F.length, 6)]) ++ (bytes8 F ++ (setsL L' c ++ r))) := by simpa using H0
    have qb := rdB_at F (a ++ [(F.length, 6)]) _ hb H1
    have H2 : Holds X (((a ++ [(F.length, 6)]) ++ bytes8 F) ++ (setsL L' c ++ r)) := by simpa using H1
    have ih := getS_at hL c ((a ++ [(F.length, 6)]) ++ bytes8 F) r (fun x => if x = c then F else L x) (by omega) H2
    rw [getS, q1, if_neg (by omega), q2, q3, qb]
    simp only
    rw [if_neg (by simp), ih]
    have e1 : ((a ++ [(F.length, 6)]) ++ bytes8 F) ++ setsL L' c = a ++ setsL L' (c + 1) := by rw [setsL, hF, oneL]; simp
    rw [e1]
    congr 1
    funext x
    by_cases h1 : x < c
    · rw [if_pos h1, if_pos (by omega)]
    · rw [if_neg h1]
      by_cases h2 : x = c
      · subst h2; rw [if_pos rfl, if_pos (by omega), hF]
      · rw [if_neg h2, if_neg (by omega)]
theorem idxF_get : ∀ (l : List Int) (c : Int) (i : Nat), 0 ≤ idxF l c i → l.getD ((idxF l c i).toNat - i) 0 = c ∧ (i : Int) ≤ idxF l c i
  | [], c, i, h => by simp [idxF] at h
  | x :: l, c, i, h => by
    rw [idxF] at h ⊢
    by_cases e : x = c
    · rw [if_pos e, Int.toNat_natCast, Nat.sub_self]; exact ⟨by simpa using e, Int.le_refl _⟩
    · rw [if_neg e] at h ⊢
      obtain ⟨h1, h2⟩ := idxF_get l c (i + 1) h
      refine ⟨?_, by omega⟩
      rw [show (idxF l c (i + 1)).toNat - i = ((idxF l c (i + 1)).toNat - (i + 1)) + 1 by omega]
      simpa using h1
theorem getG_at {X F : List Int} {c : Int} (hc : 0 ≤ c ∧ c ≤ 255) {a r : List (Nat × Nat)} (H : Holds X (a ++ (fputL F c ++ r))) : getG X F (wl a) 0 = ⟨c, 0, wl (a ++ fputL F c), 0⟩ := by
  unfold fputL at H ⊢
  by_cases c1 : F.length = 0
  · rw [if_pos c1] at H ⊢
    obtain ⟨q1, q2, q3⟩ := bits_at (r := r) H
    rw [getG, if_pos c1, q1, q2, q3]
    simp; omega
  · rw [if_neg c1] at H ⊢
    by_cases c2 : 0 ≤ idxF F c 0
    · rw [if_pos c2] at H ⊢
      have H1 : Holds X (a ++ (0, 1) :: ((idxF F c 0).toNat, Wd F.length) :: r) := H
      obtain ⟨q1, q2, q3⟩ := bits_at H1
      have H2 : Holds X ((a ++ [(0, 1)]) ++ ((idxF F c 0).toNat, Wd F.length) :: r) := by simpa using H1
      obtain ⟨p1, p2, p3⟩ := bits_at H2
      have hi := idxF_mem F c 0
      have hg := (idxF_get F c 0 c2).1
      rw [Nat.sub_zero] at hg
      rw [getG, if_neg c1, q1, if_neg (by omega), q2, q3, p3, if_neg (by simp), p1, if_neg (by omega), p2, hg]
      simp
    · rw [if_neg c2] at H ⊢
      have H1 : Holds X (a ++ (1, 1) :: (c.toNat, 8) :: r) := H
      obtain ⟨q1, q2, q3⟩ := bits_at H1
      have H2 : Holds X ((a ++ [(1, 1)]) ++ (c.toNat, 8) :: r) := by simpa using H1
      obtain ⟨p1, p2, p3⟩ := bits_at H2
      rw [getG, if_neg c1, q1, if_pos rfl, q2, q3, p1, p2, p3]
      simp; omega
theorem fputL_pos (F : List Int) (c : Int) : 1 ≤ wl (fputL F c) := by
  unfold fputL
  (repeat' split) <;> simp [wl] <;> omega
theorem putL_len (L : Nat → List Int) : ∀ (cs : List Int) (last : Nat), cs.length ≤ wl (putL L cs last)
  | [], last => Nat.zero_le _
  | c :: cs, last => by
    have h1 := fputL_pos ((L last).take 32) c
    have h2 := putL_len L cs c.toNat
    rw [putL, wl_app, List.length_cons]; omega
theorem decL_at {X : List Int} {f size : Int} {L : Nat → List Int} {V' N' : Int} {bs : List Int} (hfin : fullB 0 size bs = true) : ∀ (cs : List Int) (fu steps last : Nat) (a : List (Nat × Nat)) (S V N : Int) (told : List Int), B8 cs → cs.length < fu → Holds X (a ++ putL L cs last) → 8 * X.length < wl (a ++ putL L cs last) + 8 → runF f size cs S V N told = some (0, V', N', bs) →
    decL X f size L fu steps last (wl a) 0 S V N told = ⟨0, steps + cs.length, bs⟩
  | [], fu, steps, last, a, S, V, N, told, hb, hfu, H, hw, hrun => by
    obtain ⟨fu, rfl⟩ : ∃ k, fu = k + 1 := ⟨fu - 1, by omega⟩
    simp only [runF, Option.some.injEq, Prod.mk.injEq] at hrun
    obtain ⟨rfl, rfl, rfl, rfl⟩ := hrun
    rw [putL, List.append_nil] at hw
    rw [decL, if_pos hfin, if_neg (by omega)]
    rfl
  | c :: cs, fu, steps, last, a, S, V, N, told, hb, hfu, H, hw, hrun => by
    obtain ⟨fu, rfl⟩ : ∃ k, fu = k + 1 := ⟨fu - 1, by omega⟩
    have hc := hb c (by simp)
    rw [putL] at H hw
    have hG := getG_at hc H
    rw [runF] at hrun
    have hfull : fullB S size told = false := by
      cases hq : fullB S size told with
      | false => rfl
      | true => rw [hq, if_pos rfl] at hrun; cases hrun
    rw [hfull, if_neg (by decide)] at hrun
    have he : (feedR f size S V N told c).e = 0 := by
      by_cases hq : (feedR f size S V N told c).e = 0
      · exact hq
      · rw [if_neg hq] at hrun; cases hrun
    rw [if_pos he] at hrun
    rw [decL, hfull, if_neg (by decide), hG]
    simp only
    rw [if_neg (by simp), if_neg (by simpa using he)]
    rw [decL_at hfin cs fu (steps + 1) c.toNat (a ++ fputL ((L last).take 32) c) _ _ _ _ (fun x hx => hb x (by simp [hx])) (by simp only [List.length_cons] at hfu; omega) (by rw [List.append_assoc]; exact H) (by rw [List.append_assoc]; exact hw) hrun]
    rw [List.length_cons]
    congr 1; omega
theorem bytes8_fit {l : List Int} (hb : B8 l) : fitW (bytes8 l) := by
  intro p hp
  obtain ⟨c, hc, rfl⟩ := List.mem_map.1 hp
  have := hb c hc
  exact ⟨by show c.toNat < 2 ^ 8; rw [show (2 : Nat) ^ 8 = 256 by decide]; omega, by show 8 ≤ 32; omega⟩
theorem setsL_fit {L : Nat → List Int} (hL : ∀ c, c < 256 → B8 (L c)) : ∀ m, m ≤ 256 → fitW (setsL L m)
  | 0, _ => by intro p hp; cases hp
  | m + 1, hm => by
    rw [setsL, oneL]
    refine fitW_app.2 ⟨fun p hp => ?_, setsL_fit hL m (by omega)⟩
    rcases List.mem_cons.1 hp with e | e
    · rw [e]
      exact ⟨by show ((L m).take 32).length < 2 ^ 6; rw [show (2 : Nat) ^ 6 = 64 by decide]; simp; omega, by show 6 ≤ 32; omega⟩
    · exact bytes8_fit (fun x hx => hL m (by omega) x (List.mem_of_mem_take hx)) p e
theorem putL_fit (L : Nat → List Int) : ∀ (cs : List Int) (last : Nat), B8 cs → fitW (putL L cs last)
  | [], _, _ => by intro p hp; cases hp
  | c :: cs, last, hb => by
    rw [putL]
    exact fitW_app.2 ⟨(fputL_fit (by simp; omega) (hb c (by simp))).1, putL_fit L cs _ (fun x hx => hb x (by simp [hx]))⟩
theorem putL_congr {L L' : Nat → List Int} (h : ∀ c, c < 256 → (L c).take 32 = (L' c).take 32) : ∀ (cs : List Int) (last : Nat), B8 cs → last < 256 → putL L cs last = putL L' cs last
  | [], _, _, _ => rfl
  | c :: cs, last, hb, hl => by
    have := hb c (by simp)
    rw [putL, putL, h last hl, putL_congr h cs c.toNat (fun x hx => hb x (by simp [hx])) (by omega)]
theorem bestC_b8 (cs : List Int) (c : Nat) : B8 (bestC cs c) := fun x hx => by
  have := (bestP_sub (behL cs cs.length ((c : Nat) : Int))).2.1 x hx; omega
theorem redE_holds {cs : List Int} (hb : B8 cs) (h0 : cs.length ≠ 0) : Holds (redE cs) (rencL cs) ∧ 8 * (redE cs).length < wl (rencL cs) + 8 := by
  have hfit : fitW (rencL cs) := fitW_app.2 ⟨setsL_fit (fun c _ => bestC_b8 cs c) 256 (Nat.le_refl _), putL_fit _ _ _ hb⟩
  have hv := wv_lt hfit
  have he : redE cs = bytesN ((wl (rencL cs) + 7) / 8) (wv (rencL cs)) := by rw [redE, if_neg h0]
  have hl : (redE cs).length = (wl (rencL cs) + 7) / 8 := by rw [he, bytesN_length]
  refine ⟨⟨?_, by omega, hfit⟩, by omega⟩
  rw [he, numN_bytesN, Nat.mod_eq_of_lt (Nat.lt_of_lt_of_le hv (Nat.pow_le_pow_right (by omega) (by omega)))]
/-- what is encoded is decoded as it was -/
theorem dec_back {f : Int} {low : Nat} (hf : FL f low) {bs : List Int} (hb : B8 bs) : dec (redE (encL low bs (toks f low bs) 0)) f bs.length = ⟨0, (encL low bs (toks f low bs) 0).length, bs⟩ := by
  have h256 := shl_256 hf
  have f14 : 1 ≤ f ∧ f ≤ 4 := by rcases hf with ⟨rfl, rfl⟩ | ⟨rfl, rfl⟩ | ⟨rfl, rfl⟩ | ⟨rfl, rfl⟩ <;> decide
  have htil : Til bs 3 ((low - 1 + 258 : Nat) : Int) (256 * 2 ^ f.toNat) (toks f low bs) 0 := findSpec_til (.inr rfl) (by omega)
  have hlen := encL_len2 bs low (toks f low bs) 0 htil
  have hz8 := encL_b8 hf hb (toks f low bs) 0 htil
  obtain ⟨V', N', hrun⟩ := enc_run hf bs (toks f low bs) 0 0 0 htil
  rw [List.take_zero] at hrun
  generalize encL low bs (toks f low bs) 0 = cs at *
  have hnew : newR f bs.length = true := decide_eq_true ⟨f14.1, f14.2, by omega⟩
  by_cases h0 : bs.length = 0
  · have hc0 : cs.length = 0 := by omega
    have hb0 : bs = [] := List.length_eq_zero_iff.1 h0
    have hcs0 : cs = [] := List.length_eq_zero_iff.1 hc0
    subst hb0; subst hcs0
    have hr : redE [] = [] := by rw [redE, if_pos (show ([] : List Int).length = 0 from rfl)]
    rw [dec, hnew, if_neg (by decide), if_pos (by simp), hr, if_neg (by simp)]
    rfl
  · have hc0 : cs.length ≠ 0 := fun q => by
      rw [List.length_eq_zero_iff.1 q] at hrun
      simp only [runF, Option.some.injEq, Prod.mk.injEq] at hrun
      exact h0 (by rw [← hrun.2.2.2]; rfl)
    obtain ⟨H, hw⟩ := redE_holds hz8 hc0
    unfold rencL at H hw
    have H' : Holds (redE cs) ([] ++ (setsL (bestC cs) 256 ++ putL (bestC cs) cs 0)) := by rw [List.nil_append]; exact H
    have hS := getS_at (X := redE cs) (L' := bestC cs) (fun c _ => bestC_b8 cs c) 256 [] (putL (bestC cs) cs 0) (fun _ => []) (Nat.le_refl _) H'
    rw [List.nil_append, show wl [] = 0 from rfl] at hS
    have hS' : gotS (redE cs) = ⟨fun x => if x < 256 then (bestC cs x).take 32 else [], 0, wl (setsL (bestC cs) 256), 0⟩ := by unfold gotS; exact hS
    rw [dec, hnew, if_neg (by decide), if_neg (by omega), hS']
    simp only
    rw [if_neg (by simp)]
    have hput : putL (fun x => if x < 256 then (bestC cs x).take 32 else []) cs 0 = putL (bestC cs) cs 0 := putL_congr (fun c hc => by simp only [hc, if_true, List.take_take, Nat.min_self]) cs 0 hz8 (by omega)
    have hpl := putL_len (bestC cs) cs 0
    have hwl := H.2.1
    rw [wl_app] at hwl
    have := decL_at (X := redE cs) (f := f) (size := (bs.length : Nat)) (L := fun x => if x < 256 then (bestC cs x).take 32 else []) (V' := V') (N' := N') (bs := bs) (by simp [fullB]) cs (8 * (redE cs).length + 1) 0 0 (setsL (bestC cs) 256) 0 0 0 [] hz8 (by omega) (by rw [hput]; exact H) (by rw [hput]; exact hw) hrun
    rw [this, Nat.zero_add]
theorem redE_b8 (cs : List Int) : B8 (redE cs) := by
  unfold redE
  split
  · intro x hx; cases hx
  · exact bytesN_b8 _ _
theorem redE_len {cs : List Int} (hb : B8 cs) : (redE cs).length ≤ 8385 + 9 * cs.length := by
  have h1 := wl_setsL (bestC cs) 256
  have h2 := wl_putL (bestC cs) cs 0 hb
  unfold redE
  split
  · simp
  · rw [bytesN_length, rencL, wl_app]; omega
end Go.Proofs.Ytdmemmpkkibckaa.Gx

