/-
  Words for memory: append of a string's bytes onto a row of bytes of the call's own; appends as steps of a region that draws its order.
-/
import Derived.Test.YtjmhfjioccljeaaOwn
import Derived.Lib.AppendStr
import Derived.Deep.RegionLaw
namespace Go.Proofs.Ytjmhfjioccljeaa
open Go.RowKit
set_option linter.unusedVariables false
set_option linter.unusedSimpArgs false

theorem info_u8_parts : ∃ i, Try.prog.info? 5 = some i ∧ i.zero = some (.int .u8 0) ∧ i.size = 1 ∧ i.bytes = 1 := by
  obtain ⟨i, h0, h1, h2, h3⟩ := info_parts info_u8
  exact ⟨i, h0, h1, h2, h3⟩
theorem strCells_bc (l : List UInt8) : Lib.strCells ⟨l.toArray⟩ = bc l := by simp [Lib.strCells, bc]
/-- append of a string's bytes onto bytes of the call's own -/
theorem run_appS (w : World) (ty : TypeId) (base : Nat) (A : Option Addr) (c : Nat) (l : List UInt8) (hown : OwnB w base A c l) (news : List UInt8)
    (hlen : l.length + news.length ≤ 140737488355328) (hbase : base ≤ w.heap.size) :
    ∃ A' c' w', (Builtin.append_ #[37, 9] ty #[.slice A l.length c, .string ⟨news.toArray⟩]).run Try.prog w = .ok (.slice A' (l.length + news.length) c') w' ∧ OwnB w' base A' c' (l ++ news) ∧ w.grownBy w' (blk A) := by
  obtain ⟨i, hi0, hz0, hz1, hz2⟩ := info_u8_parts
  obtain ⟨v', w', hrun, h2, h3, _⟩ := Lib.run_append_own_string (P := Try.prog) w base 37 9 ty 5 i Try.underlying37 Try.underlying9 hi0 hz0 hz1 hz2 _ l.length (bc l) hown ⟨news.toArray⟩ (by rw [str_size]; unfold maxLen; omega) (by rw [str_size]; omega) hbase
  rw [str_size] at h2
  obtain ⟨A', c', rfl, h6, h7⟩ := own_form h2
  rw [ownBlock_slice] at h3
  refine ⟨A', c', w', hrun, ?_, h3⟩
  unfold OwnB
  rw [bc_append, List.length_append]
  rw [strCells_bc] at h6
  exact h6
theorem wp_appS {w : World} {o : Oper} {a : Act} {K : Act → World → Prop} {Q : Exit → Act → World → Prop} (s x : Operand)
    (ho : o.op = .call { callee := .builtin .append, args := #[s, x], argTypes := #[37, 9] })
    (base : Nat) (A : Option Addr) (n c : Nat) (l : List UInt8) (hs : a.eval s = .slice A n c) (hn : n = l.length) (hown : OwnB w base A c l)
    (news : List UInt8) (hx : a.eval x = .string ⟨news.toArray⟩)
    (hlen : l.length + news.length ≤ 140737488355328) (hbase : base ≤ w.heap.size)
    (h : ∀ A' c' w', OwnB w' base A' c' (l ++ news) → w.grownBy w' (blk A) → K (a.put o.dst (.slice A' (l.length + news.length) c')) w') : o.wp Try.prog a w K Q := by
  subst hn
  obtain ⟨A', c', w', hrun, h1, h2⟩ := run_appS w o.type base A c l hown news hlen hbase
  unfold Oper.wp execOp
  simp only [ho, resolve, invoke, builtin, Sem.run_bind, Sem.run_pure, Result.andThen_ok, List.map_toArray, List.map_cons, List.map_nil, hs, hx, hrun]
  exact h A' c' w' h1 h2
theorem wp_appRd {w : World} {o : Oper} {a : Act} {K : Act → World → Prop} {Q : Exit → Act → World → Prop} (s x : Operand)
    (ho : o.op = .call { callee := .builtin .append, args := #[s, x], argTypes := #[37, 37] })
    (base : Nat) (A : Option Addr) (n c : Nat) (l : List UInt8) (hs : a.eval s = .slice A n c) (hn : n = l.length) (hown : OwnB w base A c l)
    (A1 : Option Addr) (m c1 : Nat) (news : List UInt8) (hx : a.eval x = .slice A1 m c1) (hm : m = news.length) (hr : RdB w A1 news)
    (hlen : l.length + news.length ≤ 140737488355328) (hbase : base ≤ w.heap.size)
    (h : ∀ A' c' w', OwnB w' base A' c' (l ++ news) → w.grownBy w' (blk A) → K (a.put o.dst (.slice A' (l.length + news.length) c')) w') : o.wp Try.prog a w K Q := by
  subst hn hm
  obtain ⟨A', c', w', hrun, h1, h2, h3⟩ := run_appRd w o.type base A c l hown A1 c1 news hr hlen hbase
  unfold Oper.wp execOp
  simp only [ho, resolve, invoke, builtin, Sem.run_bind, Sem.run_pure, Result.andThen_ok, List.map_toArray, List.map_cons, List.map_nil, hs, hx, hrun]
  exact h A' c' w' h1 h2
theorem step_appS {w : World} {ops : Array Oper} {o : Oper} {a : Act} {K : Act → World → Prop} {Q : Exit → Act → World → Prop} {E : Prop} (hgd : o.guard = none) (s x : Operand)
    (ho : o.op = .call { callee := .builtin .append, args := #[s, x], argTypes := #[37, 9] })
    (base : Nat) (A : Option Addr) (n c : Nat) (l : List UInt8) (hs : a.eval s = .slice A n c) (hn : n = l.length) (hown : OwnB w base A c l)
    (news : List UInt8) (hx : a.eval x = .string ⟨news.toArray⟩)
    (hlen : l.length + news.length ≤ 140737488355328) (hbase : base ≤ w.heap.size)
    (h : ∀ A' c' w', OwnB w' base A' c' (l ++ news) → w.grownBy w' (blk A) → K (a.put o.dst (.slice A' (l.length + news.length) c')) w') :
    if Region.wanted o (yielded ops a.tmps) = true then Oper.wp Try.prog o a w K Q else E := by
  have hw : Region.wanted o (yielded ops a.tmps) = true := by simp [Region.wanted, hgd]
  rw [if_pos hw]
  exact wp_appS s x ho base A n c l hs hn hown news hx hlen hbase h
theorem step_appRd {w : World} {ops : Array Oper} {o : Oper} {a : Act} {K : Act → World → Prop} {Q : Exit → Act → World → Prop} {E : Prop} (hgd : o.guard = none) (s x : Operand)
    (ho : o.op = .call { callee := .builtin .append, args := #[s, x], argTypes := #[37, 37] })
    (base : Nat) (A : Option Addr) (n c : Nat) (l : List UInt8) (hs : a.eval s = .slice A n c) (hn : n = l.length) (hown : OwnB w base A c l)
    (A1 : Option Addr) (m c1 : Nat) (news : List UInt8) (hx : a.eval x = .slice A1 m c1) (hm : m = news.length) (hr : RdB w A1 news)
    (hlen : l.length + news.length ≤ 140737488355328) (hbase : base ≤ w.heap.size)
    (h : ∀ A' c' w', OwnB w' base A' c' (l ++ news) → w.grownBy w' (blk A) → K (a.put o.dst (.slice A' (l.length + news.length) c')) w') :
    if Region.wanted o (yielded ops a.tmps) = true then Oper.wp Try.prog o a w K Q else E := by
  have hw : Region.wanted o (yielded ops a.tmps) = true := by simp [Region.wanted, hgd]
  rw [if_pos hw]
  exact wp_appRd s x ho base A n c l hs hn hown A1 m c1 news hx hm hr hlen hbase h
end Go.Proofs.Ytjmhfjioccljeaa
