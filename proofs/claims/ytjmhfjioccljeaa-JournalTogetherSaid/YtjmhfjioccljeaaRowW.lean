/-
  Slices of texts and of truths that came in: what a law's walk is told.
-/
import Derived.Test.YtjmhfjioccljeaaTxt
import Derived.OpenShut
import Derived.SliceStrings
import Derived.Deep.Slices
namespace Go.Proofs.Ytjmhfjioccljeaa
open Go.RowKit Go.ChangeShapes Go.WideShapes Go.Deep
set_option linter.unusedVariables false
set_option linter.unusedSimpArgs false

/-- reads as truths -/
def RdT (w : World) (A : Option Addr) (l : List Bool) : Prop := ∀ k, k < l.length → ∃ ad, A = some ad ∧ w.cell? (ad.add k) = some (.bool (l.getD k false))
theorem RdT.below {w w' : World} {A : Option Addr} {l : List Bool} (h : RdT w A l) (hb : Below w.heap.size w w') : RdT w' A l := fun k hk => by
  obtain ⟨ad, e, hc⟩ := h k hk
  exact ⟨ad, e, (hb.cell (World.block_lt_of_cell? _ _ hc)).trans hc⟩
/-- what a law's walk is told of a slice of texts that came in -/
def IsW (w : World) (a : Option Addr) (len cap : Nat) (l : List (List UInt8)) : Prop := l.length = len ∧ RdW w a l ∧ len ≤ maxLen ∧ len ≤ cap ∧ ∀ s ∈ l, s.length ≤ maxLen
/-- .. of a slice of truths -/
def IsT (w : World) (a : Option Addr) (len cap : Nat) (l : List Bool) : Prop := l.length = len ∧ RdT w a l ∧ len ≤ maxLen ∧ len ≤ cap
section
variable {H : Type} {enc : TypeId × Value → H} {base : Nat} {spare : Nat → Bool} {held : Bool}
theorem texts_row {W : World} {a : Option Addr} {len cap fuel : Nat} {x : DataW H × List MemPlace} (h : DataW.trod enc Try.prog W base spare held fuel 22 (Value.slice a len cap).cells.toList = some x) : ∃ zs, IsW W a len cap zs := by
  have hcs : (Value.slice a len cap).cells.toList = [.slice a len cap] := by simp [Value.cells]
  rw [hcs] at h
  rcases open_strings Try.underlying22 Try.underlying9 (by kernel_rfl) h with ⟨h0, _⟩ | ⟨ad, l, c, ss, h0, _, hl, hm, hz, hx, hcell, hwz⟩
  · simp only [List.cons.injEq, Value.slice.injEq, and_true] at h0
    obtain ⟨rfl, rfl, rfl⟩ := h0
    exact ⟨[], rfl, RdW.nil _ _, Nat.zero_le _, Nat.le_refl _, by simp⟩
  · simp only [List.cons.injEq, Value.slice.injEq, and_true] at h0
    obtain ⟨rfl, rfl, rfl⟩ := h0
    have hzl : len ≤ ss.length := by rw [hz]; split <;> omega
    have hll : ((ss.take len).map fun s => s.data.toList).length = len := by rw [List.length_map, List.length_take]; omega
    refine ⟨(ss.take len).map fun s => s.data.toList, hll, fun _ => ⟨ad, rfl, fun k hk => ?_⟩, by omega, hl, fun y hy => ?_⟩
    · rw [hll] at hk
      rw [hcell k (by omega), getD_eq ss k _ (by omega), getD_eq (((ss.take len).map fun s => s.data.toList)) k _ (by rw [hll]; exact hk), List.getElem_map, List.getElem_take, bs_data]
    · obtain ⟨s, hs, rfl⟩ := List.mem_map.1 hy
      rw [str_len]
      exact hwz s (List.mem_of_mem_take hs)
theorem truths_row {W : World} {a : Option Addr} {len cap fuel : Nat} {x : DataW H × List MemPlace} (h : DataW.trod enc Try.prog W base spare held fuel 23 (Value.slice a len cap).cells.toList = some x) : ∃ zs, IsT W a len cap zs := by
  have hcs : (Value.slice a len cap).cells.toList = [.slice a len cap] := by simp [Value.cells]
  rw [hcs] at h
  rcases open_slice1 Try.underlying23 (by kernel_rfl) h with ⟨h0, _⟩ | ⟨ad, l, c, m, n, V, D, Pl, h0, _, hl, hm, hmm, _, hx⟩
  · simp only [List.cons.injEq, Value.slice.injEq, and_true] at h0
    obtain ⟨rfl, rfl, rfl⟩ := h0
    exact ⟨[], rfl, fun k hk => by simp at hk, Nat.zero_le _, Nat.le_refl _⟩
  · simp only [List.cons.injEq, Value.slice.injEq, and_true] at h0
    obtain ⟨rfl, rfl, rfl⟩ := h0
    have hlm : len ≤ m := by rw [hmm]; split <;> omega
    have hex : ∀ i, i < len → ∃ b : Bool, W.cell? (ad.add i) = some (.bool b) := fun i hi => by
      obtain ⟨h1, h2⟩ := hx i (by omega)
      obtain ⟨b, h3, _⟩ := DataW.trod_bool Try.underlying4 h2
      simp only [List.cons.injEq, and_true] at h3
      exact ⟨b, by rw [h1, h3]⟩
    let f : Nat → Bool := fun i => if h : i < len then Classical.choose (hex i h) else false
    have hf : ∀ i (h : i < len), f i = Classical.choose (hex i h) := fun i h => dif_pos h
    refine ⟨(List.range len).map f, by simp, fun k hk => ⟨ad, rfl, ?_⟩, by omega, hl⟩
    have hkl : k < len := by simpa using hk
    have : ((List.range len).map f).getD k false = f k := by simp [List.getD, hkl]
    rw [this, hf k hkl]
    exact Classical.choose_spec (hex k hkl)
end
end Go.Proofs.Ytjmhfjioccljeaa
