/-
  Slices of numbers that read as a list.
-/
import Derived.Test.YtjmhfjioccljeaaFr
namespace Go.Proofs.Ytjmhfjioccljeaa
open Go.RowKit
set_option linter.unusedVariables false
set_option linter.unusedSimpArgs false

/-- the numbers l lie where A points -/
def RdZ (w : World) (A : Option Addr) (l : List Int) : Prop :=
  0 < l.length → ∃ ad, A = some ad ∧ ∀ k, k < l.length → w.cell? (ad.add k) = some (.int .i64 (l.getD k 0))
section
variable {w w' : World} {A : Option Addr} {l : List Int} {F G : Nat → Prop}
theorem RdZ.nil (w : World) (A : Option Addr) : RdZ w A [] := fun h => by simp at h
theorem RdZ.at_ {k : Nat} (h : RdZ w A l) (hk : k < l.length) : ∃ ad, A = some ad ∧ w.cell? (ad.add k) = some (.int .i64 (l.getD k 0)) := by
  obtain ⟨ad, e, hc⟩ := h (by omega)
  exact ⟨ad, e, hc k hk⟩
theorem RdZ.below (h : RdZ w A l) (hb : Below w.heap.size w w') : RdZ w' A l := fun hl => by
  obtain ⟨ad, e, hc⟩ := h hl
  refine ⟨ad, e, fun k hk => ?_⟩
  have h1 := hc k hk
  have h2 := World.block_lt_of_cell? _ _ h1
  rw [hb.cell h2]; exact h1
theorem RdZ.drew (h : RdZ w A l) : RdZ w.drew A l := h
theorem RdZ.step (h : RdZ w A l) (hs : Step F G w w') (hd : ∀ ad, A = some ad → ¬ F ad.block) : RdZ w' A l := fun hl => by
  obtain ⟨ad, rfl, hc⟩ := h hl
  refine ⟨ad, rfl, fun k hk => ?_⟩
  have hlt : ad.block < w.heap.size := by have := World.block_lt_of_cell? _ _ (hc 0 hl); rwa [block_of_add] at this
  exact (World.cell?_of_block (w := w) (by rw [block_of_add]; exact hs.block _ hlt (hd ad rfl))).trans (hc k hk)
theorem RdZ.grown {row : Option Nat} (h : RdZ w A l) (hs : w.grownBy w' row) (hd : ∀ ad, A = some ad → some ad.block ≠ row) : RdZ w' A l := fun hl => by
  obtain ⟨ad, rfl, hc⟩ := h hl
  refine ⟨ad, rfl, fun k hk => ?_⟩
  have hlt : ad.block < w.heap.size := by have := World.block_lt_of_cell? _ _ (hc 0 hl); rwa [block_of_add] at this
  exact (World.cell?_of_block (w := w) (by rw [block_of_add]; exact hs.block _ hlt (hd ad rfl))).trans (hc k hk)
theorem RdZ.tail {ad : Addr} (h : RdZ w (some ad) l) (k : Nat) : RdZ w (some (ad.add k)) (l.drop k) := fun hl => by
  obtain ⟨ad', e, hc⟩ := h (by simp at hl; omega)
  cases e
  refine ⟨_, rfl, fun j hj => ?_⟩
  simp only [List.length_drop] at hj
  rw [add_of_add, hc (k + j) (by omega)]
  simp [List.getD]
end
def ic (l : List Int) : List Value := l.map (Value.int .i64)
theorem ic_length (l : List Int) : (ic l).length = l.length := by simp [ic]
theorem ic_get (l : List Int) (k : Nat) (h : k < l.length) : (ic l)[k]? = some (.int .i64 (l.getD k 0)) := by
  simp [ic, List.getD, h]
/-- numbers of the call's own -/
def OwnZ (w : World) (base : Nat) (A : Option Addr) (c : Nat) (l : List Int) : Prop := OwnR w base 3 1 A l.length c (ic l)
theorem OwnZ.rd {w : World} {base : Nat} {A : Option Addr} {c : Nat} {l : List Int} (h : OwnZ w base A c l) : RdZ w A l := fun hl => by
  obtain ⟨g, rfl⟩ := OwnR.some_ h hl
  refine ⟨_, rfl, fun k hk => ?_⟩
  obtain ⟨ad, e, hc⟩ := OwnR.cellAt h k _ (ic_get l k hk)
  cases e
  exact hc
theorem and_one (n : Int) (h : -9223372036854775808 ≤ n ∧ n ≤ 9223372036854775807) : bits .and .i64 n 1 = n % 2 := by
  show IntKind.i64.wrap ((BitVec.ofInt 64 n &&& BitVec.ofInt 64 1).toNat : Int) = _
  rw [BitVec.toNat_and, BitVec.toNat_ofInt]
  have e : (BitVec.ofInt 64 1).toNat = 1 := by decide
  rw [e, Nat.and_one_is_mod, IntKind.wrap_i64]
  omega
end Go.Proofs.Ytjmhfjioccljeaa
