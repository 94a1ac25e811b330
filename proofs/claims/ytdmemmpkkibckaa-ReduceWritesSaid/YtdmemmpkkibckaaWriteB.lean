/- What a writer has written, as bytes. No condition. -/
import Derived.Test.YtdmemmpkkibckaaWrite
namespace Go.Proofs.Ytdmemmpkkibckaa.Gx
open Go Go.RowKit
set_option linter.unusedVariables false
set_option linter.unusedSimpArgs false
theorem bclone {h : GH} {s : Sl} {bs : List Int} (r : Rd h s bs) (hm : bs.length ≤ 100000000) (R : Nat) : ∃ h' s', Bv h' s' bs ∧ Keep h h' [] ∧ (∀ k ∈ rowsOf s', h.next ≤ k) ∧ ∀ (β : Type) (K : Sl → GH → Option β), F_bytes_Clone R s h K = K s' h' := by
  cases hs : s.a with
  | none =>
    have hbs : bs = [] := by
      rcases r.at_ with ⟨_, q, _⟩ | ⟨g, o, b, q, _⟩
      · exact List.length_eq_zero_iff.1 (by have := r.n; omega)
      · rw [hs] at q; cases q
    refine ⟨h, ⟨none, 0, 0⟩, by rw [hbs]; exact Vec.nil, .refl _ _, by simp [rowsOf], fun β K => ?_⟩
    unfold F_bytes_Clone; rw [F_bytes_Clone_gen, hs]; rfl
  | some x =>
    have k0 := keep_push h (.row ⟨[], 1, false⟩) []
    have v0 : Bv (h.push (.row ⟨u8s [], 1, false⟩)) ⟨some ⟨h.next, 0, none⟩, 0, 0⟩ [] := Vec.new rfl rfl
    obtain ⟨h', s', e, v', k, n⟩ := app_bytes v0 (r.keep k0 (by simp)) (by simp; omega)
    refine ⟨h', s', by simpa using v', k0.trans k (fun q hq => by simp [rowsOf] at hq; exact .inr (by omega)), fun q hq => ?_, fun β K => ?_⟩
    · rcases n q hq with q1 | q1
      · simp [rowsOf] at q1; omega
      · simp [next_push] at q1; omega
    · unfold F_bytes_Clone; rw [F_bytes_Clone_gen, hs, isNone_s, condF, gnew_eq rfl]
      exact e β K
theorem wbytes_eq {h : GH} {g : Nat} {wb : Sl} {v len : Nat} (w : Wtr h g wb v len) (hl : len ≤ 800000000 - 8) (R : Nat) : ∃ h' s, Bv h' s (bytesN ((len + 7) / 8) v) ∧ Keep h h' [] ∧ (∀ k ∈ rowsOf s, h.next ≤ k) ∧ ∀ (β : Type) (K : Sl → GH → Option β), F_bitio_Writer_Bytes R (some ⟨g, 0, none⟩) h K = K s h' := by
  have hv := w.vec.n
  rw [bytesN_length] at hv
  have hrd : Rd h ⟨wb.a, wb.n, wb.c⟩ (bytesN (len / 8) v) := w.vec.row
  obtain ⟨h1, s1, v1, k1, n1, e1⟩ := bclone hrd (by rw [bytesN_length]; omega) R
  have l1 := k1.look w.look (by simp)
  have c0 : h.cell ⟨g, 0 + 0, none⟩ = some (.slice wb.a wb.n wb.c) := by rw [cell_of w.look]; rfl
  have c2 : h1.cell ⟨g, 0 + 2, none⟩ = some (.int .i64 (len % 8 : Nat)) := by rw [cell_of l1]; rfl
  have c1 : h1.cell ⟨g, 0 + 1, none⟩ = some (.int .u64 (v / 2 ^ (8 * (len / 8)) : Nat)) := by rw [cell_of l1]; rfl
  by_cases c : len % 8 = 0
  · refine ⟨h1, s1, by rw [show (len + 7) / 8 = len / 8 by omega]; exact v1, k1, n1, fun β K => ?_⟩
    unfold F_bitio_Writer_Bytes
    rw [F_bitio_Writer_Bytes_gen, isNone_s, condF, exA_s, c0, exS_s', e1, exA_s, c2, exI_s, decF (by omega), condF]
  · have hs1 := v1.n
    rw [bytesN_length] at hs1
    obtain ⟨h3, s3, e3, v3, k3, n3, l3⟩ := app_one' (by_ := 1) v1 [Value.int .u8 ((v / 2 ^ (8 * (len / 8)) % 256 : Nat) : Int)] rfl Nat.one_pos rfl (by rw [hs1]; simp [most]; omega)
    refine ⟨h3, s3, ?_, k1.trans k3 (fun x hx => .inr (n1 x hx)), fun x hx => ?_, fun β K => ?_⟩
    · rw [show (len + 7) / 8 = len / 8 + 1 by omega, bytesN_push]
      unfold Bv; rw [u8s_app]; exact v3
    · rcases n3 x hx with q1 | q1
      · exact n1 x q1
      · have := k1.1; omega
    · unfold F_bitio_Writer_Bytes
      rw [F_bitio_Writer_Bytes_gen, isNone_s, condF, exA_s, c0, exS_s', e1, exA_s, c2, exI_s, decT (by omega), condT, exA_s, c1, exI_s, u8_mod]
      exact e3 β _
end Go.Proofs.Ytdmemmpkkibckaa.Gx

