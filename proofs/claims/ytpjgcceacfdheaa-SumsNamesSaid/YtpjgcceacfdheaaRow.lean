/-
  From what a row's opening tells of a slice of bytes that came in to 'RdB'.
-/
import Derived.Test.YtpjgcceacfdheaaBase
import Derived.OpenShut
namespace Go.Proofs.Ytpjgcceacfdheaa
open Go.RowKit
set_option linter.unusedVariables false
set_option linter.unusedSimpArgs false

theorem wf_u8 {n : Int} (h : (Lit.int .u8 n).wf = true) : 0 ≤ n ∧ n ≤ 255 := by
  have := bounds_u8 h
  omega
theorem row_bytes {w : World} {a : Option Addr} {len cap : Nat} {zs : List Int}
    (h : (a = none ∧ len = 0 ∧ cap = 0 ∧ zs = []) ∨
      ∃ x, a = some x ∧ len ≤ cap ∧ cap ≤ maxLen ∧ zs.length = cap ∧ (∀ i, i < zs.length → w.cell? (x.add i) = some (.int .u8 (zs.getD i 0))) ∧ ∀ n ∈ zs, (Lit.int .u8 n).wf = true) :
    ∃ l : List UInt8, l.length = len ∧ RdB w a l ∧ l.length ≤ maxLen := by
  rcases h with ⟨rfl, rfl, rfl, rfl⟩ | ⟨x, rfl, hl, hm, hz, hc, hw⟩
  · exact ⟨[], rfl, fun h => by simp at h, by simp⟩
  · refine ⟨(zs.take len).map fun n => UInt8.ofNat n.toNat, by simp; omega, fun _ => ⟨x, rfl, fun k hk => ?_⟩, by simp; omega⟩
    simp at hk
    have hk1 : k < zs.length := by omega
    rw [hc k hk1]
    have hb := wf_u8 (hw (zs[k]) (List.getElem_mem hk1))
    have e1 : zs.getD k 0 = zs[k] := getD_eq _ _ _ hk1
    have e2 : ((zs.take len).map fun n => UInt8.ofNat n.toNat).getD k 0 = UInt8.ofNat (zs[k]).toNat := by
      rw [getD_eq _ _ _ (by simp; omega)]
      simp
    rw [e1, e2]
    have : (UInt8.ofNat (zs[k]).toNat).toNat = (zs[k]).toNat := by
      have : (UInt8.ofNat (zs[k]).toNat).toNat = (zs[k]).toNat % 256 := by simp
      omega
    rw [this]
    congr 2
    omega
end Go.Proofs.Ytpjgcceacfdheaa
