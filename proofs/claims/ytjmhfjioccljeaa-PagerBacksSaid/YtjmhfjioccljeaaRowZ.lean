/-
  Slices of numbers that came in: what a law's walk is told.
-/
import Derived.Test.YtjmhfjioccljeaaRec
import Derived.SizedLaws
namespace Go.Proofs.Ytjmhfjioccljeaa
open Go.RowKit Go.ChangeShapes Go.WideShapes Go.Deep
set_option linter.unusedVariables false
set_option linter.unusedSimpArgs false

theorem bytesInt : Try.prog.bytesOf 3 = 8 := by kernel_rfl
/-- what a law's walk is told of a slice of numbers that came in -/
def IsZ (w : World) (a : Option Addr) (len cap : Nat) (l : List Int) : Prop := l.length = len ∧ RdZ w a l ∧ len ≤ cap ∧ cap ≤ maxLen ∧ (∀ x ∈ l, inI64 x) ∧ len ≤ 17592186044416
section
variable {H : Type} {enc : TypeId × Value → H} {base : Nat} {spare : Nat → Bool} {held : Bool}
theorem ints_row {W : World} {a : Option Addr} {len cap fuel : Nat} {x : DataW H × List MemPlace} (h : DataW.trod enc Try.prog W base spare held fuel 47 (Value.slice a len cap).cells.toList = some x)
    (hsz : ∀ es sp, x.1 = .slice es sp → (es.length + sp.length) * 8 ≤ reachBytes) : ∃ zs, IsZ W a len cap zs := by
  have hcs : (Value.slice a len cap).cells.toList = [.slice a len cap] := by simp [Value.cells]
  rw [hcs] at h
  rcases open_ints Try.underlying47 Try.underlying3 (by kernel_rfl) h with ⟨h0, _⟩ | ⟨ad, l, c, zs, h0, _, hl, hm, hz, hx, hcell, hwz⟩
  · simp only [List.cons.injEq, Value.slice.injEq, and_true] at h0
    obtain ⟨rfl, rfl, rfl⟩ := h0
    exact ⟨[], rfl, RdZ.nil _ _, Nat.le_refl _, Nat.zero_le _, by simp, by omega⟩
  · simp only [List.cons.injEq, Value.slice.injEq, and_true] at h0
    obtain ⟨rfl, rfl, rfl⟩ := h0
    have hzl : len ≤ zs.length := by rw [hz]; split <;> omega
    have hll : (zs.take len).length = len := by rw [List.length_take]; omega
    have hs := hsz _ _ (congrArg Prod.fst hx)
    have h1 : (lits .i64 (zs.take len) : List (DataW H)).length = len := by simp [lits]; omega
    rw [h1] at hs
    unfold reachBytes at hs
    refine ⟨zs.take len, hll, fun _ => ⟨ad, rfl, fun k hk => ?_⟩, hl, hm, fun y hy => bounds_i64 (hwz y (List.mem_of_mem_take hy)), by omega⟩
    rw [hll] at hk
    rw [hcell k (by omega)]
    simp [List.getD, hk]
end
end Go.Proofs.Ytjmhfjioccljeaa
