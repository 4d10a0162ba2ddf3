/-
  Words for memory: append of noughts ('append(b, make([]byte, k)...)') onto bytes of the call's own.
-/
import Derived.Test.YtjmhfjioccljeaaOwnS
import Derived.Test.YtjmhfjioccljeaaDkC
import Derived.Lib.AppendZeros
namespace Go.Proofs.Ytjmhfjioccljeaa
open Go.RowKit
set_option linter.unusedVariables false
set_option linter.unusedSimpArgs false

theorem zeros_cells (k : Nat) : Builtin.zeroCells #[Value.int .u8 0] k = (zeroB k).toArray.map fun b => Value.int .u8 (b.toNat : Int) := by
  unfold Builtin.zeroCells zeroB
  apply Array.ext
  · simp
  · intro i h1 h2
    simp [Nat.mod_one]
theorem run_app_zeros_as (w : World) (ty : TypeId) (A : Option Addr) (n c k : Nat) (hlen : n + k ≤ 140737488355328) :
    (Builtin.append_ #[37, 3] ty #[.slice A n c, .int .i64 (k : Int)]).run Try.prog w = (Builtin.append_ #[37, 9] ty #[.slice A n c, .string ⟨(zeroB k).toArray⟩]).run Try.prog w := by
  obtain ⟨i, hi0, hz0, hz1, hz2⟩ := info_u8_parts
  have hw : IntKind.i64.wrap (k : Int) = k := by rw [IntKind.wrap_i64]; omega
  have hneg : ¬ ((k : Int) < 0) := by omega
  have h48i : ¬ (281474976710656 < (k : Int)) := by omega
  have h63' : ¬ (9223372036854775807 < ((n : Int) + (k : Int))) := by omega
  have hsz : (⟨(zeroB k).toArray⟩ : ByteArray).size = k := by rw [str_size, zeroB_length]
  have hzc := zeros_cells k
  have hfc : ∀ w : World, (Builtin.firstCells 1 k (.string ⟨(zeroB k).toArray⟩)).run Try.prog w = .ok (Builtin.zeroCells #[Value.int .u8 0] k) w := fun w => by
    have h := Lib.run_firstCells_string (P := Try.prog) (w := w) 1 ⟨(zeroB k).toArray⟩
    rw [hsz] at h
    rw [h, hzc, strCells_bc]
    simp [bc]
  have hcells : (Value.int .u8 0).cells = #[.int .u8 0] := rfl
  by_cases hk : k = 0
  · subst hk
    have hw0 : IntKind.i64.wrap 0 = 0 := by decide
    have h0 : Builtin.zeroCells #[Value.int .u8 0] 0 = #[] := by simp [Builtin.zeroCells]
    rw [h0] at hfc
    by_cases hr : n ≤ c
    · simp [Builtin.append_, run_underlying Try.underlying37, run_underlying Try.underlying3, run_underlying Try.underlying9, sizeOf, typeInfo, zeroValue, hi0, hz0, hz1, hz2, asInt, asIntOf, hw0, Builtin.lenOf, hsz, hr, hfc]
    · have hn : ¬ (281474976710656 < Builtin.nextslicecap n c) := by
        have := nextslicecap_le (need := n) (old := c) (by omega)
        omega
      have h63'' : ¬ (9223372036854775807 < (n : Int)) := by omega
      simp [Builtin.append_, run_underlying Try.underlying37, run_underlying Try.underlying3, run_underlying Try.underlying9, sizeOf, typeInfo, zeroValue, hi0, hz0, hz1, hz2, asInt, asIntOf, hw0, Builtin.lenOf, hsz, hr, hfc, hn, h63'']
  · by_cases hr : n + k ≤ c
    · simp [Builtin.append_, run_underlying Try.underlying37, run_underlying Try.underlying3, run_underlying Try.underlying9, sizeOf, typeInfo, zeroValue, hi0, hz0, hz1, hz2, asInt, asIntOf, hw, hneg, h48i, hk, Builtin.lenOf, hsz, hr, hfc, hcells]
    · have hn : ¬ (281474976710656 < Builtin.nextslicecap (n + k) c) := by
        have := nextslicecap_le (need := n + k) (old := c) (by omega)
        omega
      simp [Builtin.append_, run_underlying Try.underlying37, run_underlying Try.underlying3, run_underlying Try.underlying9, sizeOf, typeInfo, zeroValue, hi0, hz0, hz1, hz2, asInt, asIntOf, hw, hneg, h48i, h63', hk, Builtin.lenOf, hsz, hr, hn, hfc, hcells]
/-- append of k noughts -/
theorem wpList_appN {w : World} {ops : Array Oper} {rest : List Oper} {o : Oper} {a : Act} {Q : Exit → Act → World → Prop} (hgd : o.guard = none) (s x : Operand)
    (ho : o.op = .call { callee := .builtin .append, args := #[s, x], argTypes := #[37, 3] })
    (base : Nat) (A : Option Addr) (n c : Nat) (l : List UInt8) (hs : a.eval s = .slice A n c) (hn : n = l.length) (hown : OwnB w base A c l)
    (k : Nat) (hx : a.eval x = .int .i64 (k : Int)) (hlen : l.length + k ≤ 140737488355328) (hbase : base ≤ w.heap.size)
    (h : ∀ A' c' w', OwnB w' base A' c' (l ++ zeroB k) → w.grownBy w' (blk A) → wpList Try.prog ops Q rest (a.put o.dst (.slice A' (l.length + k) c')) w') :
    wpList Try.prog ops Q (o :: rest) a w := by
  subst hn
  have hz := zeroB_length k
  obtain ⟨A', c', w', hrun, h1, h2⟩ := run_appS w o.type base A c l hown (zeroB k) (by omega) hbase
  rw [← run_app_zeros_as w o.type A l.length c k hlen, hz] at hrun
  exact Lib.wpList_append_run w hgd s x _ _ ho _ _ hs hx _ _ hrun (h A' c' w' h1 h2)
end Go.Proofs.Ytjmhfjioccljeaa
