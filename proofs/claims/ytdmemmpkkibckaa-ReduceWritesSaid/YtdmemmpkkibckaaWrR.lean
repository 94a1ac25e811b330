/- The document's writer of bits: Put, Bytes. No condition. -/
import Derived.Test.YtdmemmpkkibckaaPut
namespace Go.Proofs.Ytdmemmpkkibckaa.Gx
open Go Go.RowKit
set_option linter.unusedVariables false
set_option linter.unusedSimpArgs false
/-- the bits of a number, the lowest first -/
def bitsN : Nat → Nat → List Int
  | 0, v => []
  | k + 1, v => ((v % 2 : Nat) : Int) :: bitsN k (v / 2)
theorem bitsN_length : ∀ k v, (bitsN k v).length = k
  | 0, v => rfl
  | k + 1, v => by rw [bitsN, List.length_cons, bitsN_length]
theorem bitsN_get : ∀ (k v i : Nat), i < k → (bitsN k v).getD i 0 = ((v / 2 ^ i % 2 : Nat) : Int)
  | 0, v, i, h => by omega
  | k + 1, v, 0, h => by simp [bitsN]
  | k + 1, v, i + 1, h => by
    rw [bitsN, List.getD_cons_succ, bitsN_get k (v / 2) i (by omega), Nat.div_div_eq_div_mul, Nat.pow_succ, Nat.mul_comm]
theorem bitsN_app : ∀ (n v k x : Nat), v < 2 ^ n → bitsN (n + k) (v + x * 2 ^ n) = bitsN n v ++ bitsN k x
  | 0, v, k, x, h => by
    have : v = 0 := by rw [Nat.pow_zero] at h; omega
    subst this
    rw [Nat.zero_add, Nat.zero_add, Nat.pow_zero, Nat.mul_one]; rfl
  | n + 1, v, k, x, h => by
    have hp : 2 ^ (n + 1) = 2 * 2 ^ n := by rw [Nat.pow_succ, Nat.mul_comm]
    have e : x * 2 ^ (n + 1) = 2 * (x * 2 ^ n) := by rw [hp, Nat.mul_left_comm]
    rw [show n + 1 + k = (n + k) + 1 by omega, bitsN, bitsN, List.cons_append, e, show (v + 2 * (x * 2 ^ n)) % 2 = v % 2 by omega, show (v + 2 * (x * 2 ^ n)) / 2 = v / 2 + x * 2 ^ n by omega, bitsN_app n (v / 2) k x (by omega)]
theorem wv_ltR : ∀ {l : List (Nat × Nat)}, fitW l → wv l < 2 ^ wl l
  | [], h => by simp [wv, wl]
  | (x, k) :: r, h => by
    have h1 := wv_ltR (l := r) (fun p hp => h p (by simp [hp]))
    have h2 := (h (x, k) (by simp)).1
    simp only at h2
    rw [wv, wl, Nat.pow_add]
    have h3 : (wv r + 1) * 2 ^ k ≤ 2 ^ wl r * 2 ^ k := Nat.mul_le_mul_right _ h1
    rw [Nat.add_mul, Nat.one_mul] at h3
    rw [Nat.mul_comm (2 ^ k)]
    omega
/-- a writer of the document that has written numbers of bits -/
structure WrR (h : GH) (g : Nat) (wb : Sl) (l : List (Nat × Nat)) : Prop where
  look : h.look g = some (.row ⟨[.slice wb.a wb.n wb.c], 0, false⟩)
  vec : Bv h wb (bitsN (wl l) (wv l))
  sep : g ∉ rowsOf wb
  fit : fitW l
theorem WrR.keep {h h' : GH} {g : Nat} {wb : Sl} {l : List (Nat × Nat)} {own : List Nat} (w : WrR h g wb l) (k : Keep h h' own) (h1 : g ∉ own) (h2 : ∀ x ∈ rowsOf wb, x ∉ own) : WrR h' g wb l := ⟨k.look w.look h1, w.vec.keep k h2, w.sep, w.fit⟩
theorem WrR.lt {h : GH} {g : Nat} {wb : Sl} {l : List (Nat × Nat)} (w : WrR h g wb l) : ∀ x ∈ rowsOf wb, x < h.next := w.vec.lt
theorem WrR.gl {h : GH} {g : Nat} {wb : Sl} {l : List (Nat × Nat)} (w : WrR h g wb l) : g < h.next := look_lt w.look
theorem app_bit {h : GH} {s : Sl} {bs : List Int} (v : Bv h s bs) (x : Int) (hm : bs.length ≤ 27487790694) :
    ∃ h' s', (∀ (β : Type) (K : Sl → GH → Option β), (gnew [Value.int .u8 x] 1 h fun g h1 => gappS 1 1 s ⟨(some ⟨g, 0, none⟩), 1, 1⟩ h1 K) = K s' h') ∧ Bv h' s' (bs ++ [x]) ∧ Keep h h' (rowsOf s) ∧ (∀ k ∈ rowsOf s', k ∈ rowsOf s ∨ h.next ≤ k) := by
  have hn := v.n
  obtain ⟨h2, s2, e2, v2, k2, n2, _⟩ := app_one' (by_ := 1) v [Value.int .u8 x] rfl Nat.one_pos rfl (by rw [hn]; simp only [most]; omega)
  exact ⟨h2, s2, fun β K => e2 β K, by unfold Bv; rw [u8s_app]; exact v2, k2, n2⟩
theorem rput_bits {g : Nat} {k : Nat} (hk : k ≤ 32) (R : Nat) : ∀ (d i n x : Nat) (h : GH) (s : Sl) (B : List Int), i + d = k → d < n → x < 4294967296 → B.length + d ≤ 2000000000 → h.look g = some (.row ⟨[.slice s.a s.n s.c], 0, false⟩) → Bv h s B → g ∉ rowsOf s →
    ∃ h' s', h'.look g = some (.row ⟨[.slice s'.a s'.n s'.c], 0, false⟩) ∧ Bv h' s' (B ++ bitsN d x) ∧ g ∉ rowsOf s' ∧ Keep h h' (g :: rowsOf s) ∧ (∀ y ∈ rowsOf s', y ∈ rowsOf s ∨ h.next ≤ y) ∧ ∀ (β : Type) (K : GH → Option β), F_ref01_Writer_Put_l0 R n (some ⟨g, 0, none⟩) (x : Nat) (k : Nat) (i : Nat) h K = K h'
  | 0, i, n, x, h, s, B, hi, hn, hx, hB, hl, v, hg => by
    obtain ⟨n, rfl⟩ : ∃ n', n = n' + 1 := ⟨n - 1, by omega⟩
    refine ⟨h, s, hl, by rw [bitsN, List.append_nil]; exact v, hg, .refl _ _, fun y hy => .inl hy, fun β K => ?_⟩
    rw [F_ref01_Writer_Put_l0_succ, decF (by omega), condF]
  | d + 1, i, n, x, h, s, B, hi, hn, hx, hB, hl, v, hg => by
    obtain ⟨n, rfl⟩ : ∃ n', n = n' + 1 := ⟨n - 1, by omega⟩
    obtain ⟨h1, s1, e1, v1, k1, n1⟩ := app_bit v ((x % 2 : Nat) : Int) (by omega)
    have hgl := look_lt hl
    have l1 := k1.look hl hg
    have hg1 : g ∉ rowsOf s1 := fun hy => by rcases n1 g hy with q | q; exact hg q; omega
    have k2 := keep_put h1 g (some (.row ⟨[.slice s1.a s1.n s1.c], 0, false⟩))
    obtain ⟨h3, s3, l3, v3, g3, k3, n3, e3⟩ := rput_bits hk R d (i + 1) n (x / 2) (h1.put g (some (.row ⟨[.slice s1.a s1.n s1.c], 0, false⟩))) s1 (B ++ [((x % 2 : Nat) : Int)]) (by omega) (by omega) (by omega) (by simp; omega) (look_put_same (look_lt l1)) (v1.keep k2 (fun y hy hm => by simp at hm; subst hm; exact hg1 hy)) hg1
    have b1 := k1.1
    refine ⟨h3, s3, l3, by rw [bitsN]; simpa using v3, g3, ((k1.mono (o1 := g :: rowsOf s) (fun y hy => by simp [hy])).trans k2 (fun y hy => .inl (by simp at hy; simp [hy]))).trans k3 (fun y hy => ?_), fun y hy => ?_, fun β K => ?_⟩
    · rcases List.mem_cons.1 hy with q | q
      · exact .inl (by simp [q])
      · exact (n1 y q).imp (fun q => by simp [q]) id
    · rcases n3 y hy with q | q
      · exact n1 y q
      · exact .inr (by rw [next_put] at q; omega)
    · have c0 : h.cell ⟨g, 0 + 0, none⟩ = some (.slice s.a s.n s.c) := by rw [cell_of hl]; rfl
      rw [F_ref01_Writer_Put_l0_succ, decT (by omega), condT, decT (by omega), condT, exA_s, c0, exS_s', show Int.tmod ((x : Nat) : Int) 2 = ((x % 2 : Nat) : Int) from rfl, IntWalk.u8_in _ (by omega), show Int.tdiv ((x : Nat) : Int) 2 = ((x / 2 : Nat) : Int) from rfl]
      refine (e1 β _).trans ?_
      rw [exA_s, gput_eq l1 rfl (by simp), u32w (by omega), i64w (by omega)]
      exact e3 β K
theorem rput_one {h : GH} {g : Nat} {wb : Sl} {l : List (Nat × Nat)} (w : WrR h g wb l) {x k : Nat} (hx : x < 2 ^ k) (hk : k ≤ 32) (hl : wl l ≤ 800000000) {R : Nat} (hR : 4000000 < R) :
    ∃ h' wb', WrR h' g wb' (l ++ [(x, k)]) ∧ Keep h h' (g :: rowsOf wb) ∧ (∀ y ∈ rowsOf wb', y ∈ rowsOf wb ∨ h.next ≤ y) ∧ ∀ (β : Type) (K : GH → Option β), F_ref01_Writer_Put R (some ⟨g, 0, none⟩) ((x : Nat) : Int) ((k : Nat) : Int) h K = K h' := by
  have hp : 2 ^ k ≤ 2 ^ 32 := Nat.pow_le_pow_right (by omega) hk
  rw [show (2 : Nat) ^ 32 = 4294967296 by decide] at hp
  obtain ⟨h1, s1, l1, v1, g1, k1, n1, e1⟩ := rput_bits (g := g) hk R k 0 R x h wb _ (by omega) (by omega) (by omega) (by rw [bitsN_length]; omega) w.look w.vec w.sep
  refine ⟨h1, s1, ⟨l1, ?_, g1, fun p hp => ?_⟩, k1, n1, fun β K => ?_⟩
  · rw [wl_app, wv_app]
    simp only [wl, wv, Nat.zero_mul, Nat.add_zero]
    rw [bitsN_app _ _ _ _ (wv_ltR w.fit)]
    exact v1
  · rcases List.mem_append.1 hp with q | q
    · exact w.fit p q
    · simp at q; subst q; exact ⟨hx, hk⟩
  · unfold F_ref01_Writer_Put
    rw [F_ref01_Writer_Put_gen]
    have := e1 β (fun h18 => K h18)
    rw [show ((0 : Nat) : Int) = 0 from rfl] at this
    exact this
/-! ### all bytes -/
theorem halfB (v p n : Nat) : v / 2 ^ p % 2 ^ (n + 1) = v / 2 ^ p % 2 + 2 * (v / 2 ^ (p + 1) % 2 ^ n) := by
  rw [Nat.pow_succ 2 p, ← Nat.div_div_eq_div_mul, Nat.pow_succ 2 n, Nat.mul_comm (2 ^ n) 2, Nat.mod_mul]
section
variable {h : GH} {g : Nat} {wb : Sl} {l : List (Nat × Nat)} (w : WrR h g wb l) (hwl : wl l ≤ 30000000)
include w hwl
omit hwl in
theorem rb_inner (R : Nat) (out : Sl) (i : Nat) (hi : i ≤ 30000000) {β : Type} (K2 : Option Addr → Sl → Int → Int → GH → Option β) : ∀ (k n : Nat), k ≤ 8 → k < n → F_ref01_Writer_Bytes_l1 R n (some ⟨g, 0, none⟩) out (i : Nat) ((wv l / 2 ^ (i + k) % 2 ^ (8 - k) : Nat) : Int) (((k : Nat) : Int) - 1) h K2 = K2 (some ⟨g, 0, none⟩) out (i : Nat) ((wv l / 2 ^ i % 256 : Nat) : Int) h
  | 0, n, h1, h2 => by
    obtain ⟨n, rfl⟩ : ∃ n', n = n' + 1 := ⟨n - 1, by omega⟩
    rw [F_ref01_Writer_Bytes_l1_succ, decF (by omega), condF]
    rfl
  | k + 1, n, h1, h2 => by
    obtain ⟨n, rfl⟩ : ∃ n', n = n' + 1 := ⟨n - 1, by omega⟩
    have c0 : h.cell ⟨g, 0 + 0, none⟩ = some (.slice wb.a wb.n wb.c) := by rw [cell_of w.look]; rfl
    have hlen := bitsN_length (wl l) (wv l)
    have hn := w.vec.n
    rw [hlen] at hn
    have ih := rb_inner R out i hi K2 k n (by omega) (by omega)
    have hx : ((k + 1 : Nat) : Int) - 1 = ((k : Nat) : Int) := by omega
    have hp : 2 ^ (8 - (k + 1)) ≤ 2 ^ 7 := Nat.pow_le_pow_right (by omega) (by omega)
    rw [show (2 : Nat) ^ 7 = 128 by decide] at hp
    have hlt : wv l / 2 ^ (i + (k + 1)) % 2 ^ (8 - (k + 1)) < 2 ^ (8 - (k + 1)) := Nat.mod_lt _ (Nat.pow_pos (by omega))
    have hh := halfB (wv l) (i + k) (8 - (k + 1))
    rw [show 8 - (k + 1) + 1 = 8 - k by omega, show i + k + 1 = i + (k + 1) by omega] at hh
    have w1 : IntKind.wrap .i64 (((i : Nat) : Int) + ((k : Nat) : Int)) = ((i + k : Nat) : Int) := by rw [i64w (by omega)]; omega
    have w2 : IntKind.wrap .i64 (((k : Nat) : Int) - 1) = ((k : Nat) : Int) - 1 := i64w (by omega)
    generalize hC : wv l / 2 ^ (i + (k + 1)) % 2 ^ (8 - (k + 1)) = C at *
    have w3 : IntKind.wrap .u8 (((C : Nat) : Int) * 2) = ((2 * C : Nat) : Int) := by rw [IntWalk.u8_in _ (by omega)]; omega
    have hb2 : wv l / 2 ^ (i + k) % 2 < 2 := Nat.mod_lt _ (by omega)
    rw [F_ref01_Writer_Bytes_l1_succ, hx, decT (by omega), condT, exA_s, c0, exS_s', w1, w2, w3, hn]
    by_cases c : i + k < wl l
    · have hby := w.vec.row.byte (β := β) (i := ((i + k : Nat) : Int)) (by omega) (by rw [hlen]; omega)
      rw [hn] at hby
      rw [decT (by omega), condT, exA_s, c0, exS_s', hn]
      refine (hby _).trans ?_
      rw [Int.toNat_natCast, bitsN_get _ _ _ c, IntWalk.u8_in _ (by omega), show ((2 * C : Nat) : Int) + ((wv l / 2 ^ (i + k) % 2 : Nat) : Int) = ((wv l / 2 ^ (i + k) % 2 ^ (8 - k) : Nat) : Int) by rw [hh]; omega]
      exact ih
    · have hz : wv l / 2 ^ (i + k) = 0 := Nat.div_eq_of_lt (Nat.lt_of_lt_of_le (wv_ltR w.fit) (Nat.pow_le_pow_right (by omega) (by omega)))
      rw [decF (by omega), condF, show 2 * C = wv l / 2 ^ (i + k) % 2 ^ (8 - k) by rw [hh, hz]; omega]
      exact ih
omit w hwl in
theorem rb_outer (hwl : wl l ≤ 30000000) {R : Nat} (hR : 4000000 < R) : ∀ (d j n : Nat) (h : GH) (out : Sl) (os : List Int), WrR h g wb l → j + d = (wl l + 7) / 8 → d < n → Bv h out os → os.length + d ≤ 100000000 → g ∉ rowsOf out → (∀ x ∈ rowsOf wb, x ∉ rowsOf out) →
    ∃ h' out', Bv h' out' (os ++ bytesN d (wv l / 2 ^ (8 * j))) ∧ Keep h h' (rowsOf out) ∧ (∀ x ∈ rowsOf out', x ∈ rowsOf out ∨ h.next ≤ x) ∧ ∀ (β : Type) (K : Sl → GH → Option β), F_ref01_Writer_Bytes_l0 R n (some ⟨g, 0, none⟩) out ((8 * j : Nat) : Int) h K = K out' h'
  | 0, j, n, h, out, os, w, hj, hn, v, hm, hg, hs => by
    obtain ⟨n, rfl⟩ : ∃ n', n = n' + 1 := ⟨n - 1, by omega⟩
    have c0 : h.cell ⟨g, 0 + 0, none⟩ = some (.slice wb.a wb.n wb.c) := by rw [cell_of w.look]; rfl
    have hn := w.vec.n
    rw [bitsN_length] at hn
    refine ⟨h, out, by rw [bytesN, List.append_nil]; exact v, .refl _ _, fun x hx => .inl hx, fun β K => ?_⟩
    rw [F_ref01_Writer_Bytes_l0_succ, exA_s, c0, exS_s', hn, decF (by omega), condF]
  | d + 1, j, n, h, out, os, w, hj, hn, v, hm, hg, hs => by
    obtain ⟨n, rfl⟩ : ∃ n', n = n' + 1 := ⟨n - 1, by omega⟩
    have c0 : h.cell ⟨g, 0 + 0, none⟩ = some (.slice wb.a wb.n wb.c) := by rw [cell_of w.look]; rfl
    have hwn := w.vec.n
    rw [bitsN_length] at hwn
    have hgl := w.gl
    have hwlt := w.lt
    obtain ⟨h1, o1, e1, v1, k1, n1⟩ := app_bit v ((wv l / 2 ^ (8 * j) % 256 : Nat) : Int) (by omega)
    obtain ⟨h2, o2, v2, k2, n2, e2⟩ := rb_outer hwl hR d (j + 1) n h1 o1 _ (w.keep k1 hg hs) (by omega) (by omega) v1 (by simp; omega) (fun hx => by rcases n1 g hx with q | q; exact hg q; omega) (fun x hx hy => by
      rcases n1 x hy with q | q
      · exact hs x hx q
      · have := hwlt x hx; omega)
    refine ⟨h2, o2, ?_, k1.trans k2 (fun x hx => n1 x hx), fun x hx => ?_, fun β K => ?_⟩
    · rw [bytesN, Nat.div_div_eq_div_mul, show 2 ^ (8 * j) * 256 = 2 ^ (8 * (j + 1)) by rw [show 8 * (j + 1) = 8 * j + 8 by omega, Nat.pow_add]]
      simpa using v2
    · rcases n2 x hx with q | q
      · exact n1 x q
      · exact .inr (by have := k1.1; omega)
    · have hin := rb_inner w R out (8 * j) (by omega) (β := β) (fun w27 w28 w29 w30 h31 => gnew [Value.int .u8 w30] 1 h31 fun g32 h33 => gappS 1 1 w28 ⟨(some ⟨g32, 0, none⟩), 1, 1⟩ h33 fun s34 h35 => F_ref01_Writer_Bytes_l0 R n w27 s34 (IntKind.wrap .i64 (w29 + 8)) h35 K) 8 R (Nat.le_refl _) (by omega)
      rw [show 8 - 8 = 0 from rfl, Nat.pow_zero, Nat.mod_one, show ((8 : Nat) : Int) - 1 = 7 from rfl, show ((0 : Nat) : Int) = 0 from rfl] at hin
      rw [F_ref01_Writer_Bytes_l0_succ, exA_s, c0, exS_s', hwn, decT (by omega), condT]
      refine hin.trans ?_
      refine (e1 β _).trans ?_
      rw [i64w (by omega), show ((8 * j : Nat) : Int) + 8 = ((8 * (j + 1) : Nat) : Int) by omega]
      exact e2 β K
theorem rbytes_eq {R : Nat} (hR : 4000000 < R) : ∃ h' out, Bv h' out (bytesN ((wl l + 7) / 8) (wv l)) ∧ Keep h h' [] ∧ (∀ x ∈ rowsOf out, h.next ≤ x) ∧ ∀ (β : Type) (K : Sl → GH → Option β), F_ref01_Writer_Bytes R (some ⟨g, 0, none⟩) h K = K out h' := by
  obtain ⟨h1, o1, v1, k1, n1, e1⟩ := rb_outer hwl hR ((wl l + 7) / 8) 0 R h ⟨none, 0, 0⟩ [] w (by omega) (by omega) Vec.nil (by simp; omega) (by simp [rowsOf]) (by simp [rowsOf])
  rw [Nat.mul_zero, Nat.pow_zero, Nat.div_one, List.nil_append] at v1
  refine ⟨h1, o1, v1, by simpa [rowsOf] using k1, fun x hx => by simpa [rowsOf] using n1 x hx, fun β K => ?_⟩
  unfold F_ref01_Writer_Bytes
  rw [F_ref01_Writer_Bytes_gen]
  exact e1 β _
end
end Go.Proofs.Ytdmemmpkkibckaa.Gx

