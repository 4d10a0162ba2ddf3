/-
  Words for memory: append of noughts onto bytes of the call's own.
-/
import Derived.Test.YtpjgcceacfdheaaOwn
namespace Go.Proofs.Ytpjgcceacfdheaa
open Go.RowKit
set_option linter.unusedVariables false
set_option linter.unusedSimpArgs false

theorem zeroCells_u8 (m : Nat) : Builtin.zeroCells #[.int .u8 0] m = (bc (List.replicate m 0)).toArray := by
  apply Array.ext_getElem?
  intro j
  by_cases hj : j < m
  · simp [Builtin.zeroCells, bc, hj, Nat.mod_one]
  · simp [Builtin.zeroCells, bc, hj]
theorem asInt_run (P : Program) (w : World) (n : Int) : (asInt (.int .i64 n)).run P w = .ok n w := by simp [asInt, asIntOf]
theorem zeroCells_u8' (m : Nat) : Builtin.zeroCells (Value.int .u8 0).cells m = (bc (List.replicate m 0)).toArray := zeroCells_u8 m
/-- append of m noughts ('append(b, make([]byte, m)...)') onto bytes of the call's own -/
theorem run_appZ (w : World) (ty : TypeId) (base : Nat) (A : Option Addr) (c : Nat) (l : List UInt8) (hown : OwnB w base A c l) (m : Nat) (hlen : l.length + m ≤ 140737488355328) (hbase : base ≤ w.heap.size) :
    ∃ A' c' w', (Builtin.append_ #[22, 3] ty #[.slice A l.length c, .int .i64 (m : Int)]).run Try.prog w = .ok (.slice A' (l.length + m) c') w' ∧ OwnB w' base A' c' (l ++ List.replicate m 0) ∧ w.grownBy w' (blk A) ∧
      (blk A' = blk A ∨ blk A' = some w.heap.size) := by
  obtain ⟨i, hi, hz, hs, hb⟩ := info_parts info_u8
  have ht := Try.underlying22
  have hu := Try.underlying3
  have wm : IntKind.i64.wrap (m : Int) = (m : Int) := by rw [IntKind.wrap_i64]; omega
  have n1 : ¬ ((m : Int) < 0) := by omega
  have n2 : ¬ (281474976710656 < (m : Int)) := by omega
  have n3 : ¬ (9223372036854775807 < (l.length : Int) + (m : Int)) := by omega
  have hl1 : (bc l).length = l.length := bc_length l
  have hnl : (bc (List.replicate m 0)).length = m := by rw [bc_length]; simp
  have hfin : bc (l ++ List.replicate m 0) = bc l ++ bc (List.replicate m 0) := bc_append _ _
  have hlen2 : (l ++ List.replicate m (0 : UInt8)).length = l.length + m := by simp
  by_cases hm0 : m = 0
  · -- nothing is appended
    have hcap := OwnR.cap hown
    refine ⟨A, c, w, ?_, by subst hm0; simpa using hown, World.grownBy.refl w _, .inl rfl⟩
    have w0 : IntKind.i64.wrap 0 = 0 := by rfl
    rcases A with _ | ad <;> simp [w0, Builtin.append_, run_underlying ht, run_underlying hu, sizeOf, typeInfo, zeroValue, hi, hs, hb, hz, asInt_run, wm, n1, n2, n3, hm0, hcap, storeCells]
  have hown' := hown
  unfold OwnB OwnR at hown'
  by_cases hroom : l.length + m ≤ c
  · obtain ⟨g, cur, hA, hbg, hg, hcm, hcs, htake⟩ : ∃ g cur, A = some ⟨g, 0, none⟩ ∧ base ≤ g ∧ w.heap[g]? = some (.cells cur 5 (0, 0)) ∧ c ≤ maxLen ∧ cur.size = c * 1 ∧ cur.toList.take (l.length * 1) = bc l := by
      rcases hown'.2 with ⟨hv, h0⟩ | ⟨g, cap, cur, hv, hbg, hg, hnc, hcm, hcs, htake⟩
      · injection hv with hA hn hc; omega
      · injection hv with hA hn hc
        subst hc
        exact ⟨g, cur, hA, hbg, hg, hcm, hcs, htake⟩
    subst hA
    have hst := run_storeCells_at Try.prog g l.length 5 (bc (List.replicate m 0)) 0 cur w hg (by rw [hnl]; omega) (bc_one _)
    simp only [Nat.add_zero] at hst
    refine ⟨some ⟨g, 0, none⟩, c, w.setRow g (cur.toList.take l.length ++ bc (List.replicate m 0) ++ cur.toList.drop (l.length + (bc (List.replicate m 0)).length)).toArray, ?_, ?_, ⟨rfl, rfl, rfl, by simp, fun k _ hk => setRow_other w g k _ (fun e => hk (by simp [blk, e]))⟩, .inl rfl⟩
    · simp [Builtin.append_, run_underlying ht, run_underlying hu, sizeOf, typeInfo, zeroValue, hi, hs, hb, hz, asInt_run, wm, n1, n2, n3, hm0, hroom, zeroCells_u8', Addr.add_lit, hst]
    · unfold OwnB OwnR
      rw [hlen2]
      refine ⟨by rw [hfin, List.length_append, hl1, hnl, Nat.mul_one], .inr ⟨g, c, _, rfl, hbg, setRow_heap w g cur _ 5 _ hg, hroom, hcm, ?_, ?_⟩⟩
      · simp only [List.size_toArray, List.length_append, List.length_take, List.length_drop, Array.length_toList, hnl]
        omega
      · have ht2 : cur.toList.take l.length = bc l := by simpa using htake
        rw [ht2, hfin, Nat.mul_one]
        exact List.take_left' (by rw [List.length_append, hl1, hnl])
  · have n4 : ¬ (281474976710656 < Builtin.nextslicecap (l.length + m) c) := by
      have := growslice_fits (bytes := 1) (show c < l.length + m by omega) (by omega)
      omega
    have hge := grownCap_ge w (l.length + m) c 5
    have hcm : grownCap w (l.length + m) c 5 ≤ maxLen := grownCap_le_maxLen w (l.length + m) c 5 (by unfold maxLen; omega)
    have hfirst : (Builtin.firstCells 1 l.length (Value.slice A l.length c)).run Try.prog w.drew = .ok (bc l).toArray w.drew := by
      rcases A with _ | ad
      · have h0 := OwnR.zero hown
        have : l = [] := List.eq_nil_of_length_eq_zero h0
        subst this
        simp [Builtin.firstCells, bc]
      · have := run_firstCells_some (P := Try.prog) w.drew 1 l.length ad l.length c (bc l) (by rw [hl1, Nat.mul_one]) (fun j v hj => by
          obtain ⟨ad', e, hc⟩ := OwnR.cellAt hown j v hj
          cases e; simpa using hc)
        exact this
    refine ⟨some ⟨w.heap.size, 0, none⟩, grownCap w (l.length + m) c 5, w.drew.alloc (.cells ((bc l).toArray ++ ((bc (List.replicate m 0)).toArray ++ (bc (List.replicate (grownCap w (l.length + m) c 5 - (l.length + m)) 0)).toArray)) 5), ?_, ?_, ⟨rfl, rfl, rfl, by simp, fun k hk _ => Below.heap_alloc w.drew _ k hk⟩, .inr rfl⟩
    · simp [Builtin.append_, run_underlying ht, run_underlying hu, sizeOf, typeInfo, zeroValue, hi, hs, hb, hz, asInt_run, wm, n1, n2, n3, n4, hm0, hroom, Question.forced, newRow, hfirst, zeroCells_u8', grownCap]
    · unfold OwnB OwnR
      rw [hlen2]
      refine ⟨by rw [hfin, List.length_append, hl1, hnl, Nat.mul_one], .inr ⟨w.heap.size, _, _, rfl, hbase, heap_alloc_new w.drew _, hge, hcm, ?_, ?_⟩⟩
      · simp only [Array.size_append, List.size_toArray, hl1, bc_length, List.length_replicate]
        omega
      · simp only [Array.toList_append, Nat.mul_one]
        rw [hfin, ← List.append_assoc]
        exact List.take_left' (by rw [List.length_append, hl1, hnl])
theorem wpList_appZ {w : World} {ops : Array Oper} {rest : List Oper} {o : Oper} {a : Act} {Q : Exit → Act → World → Prop} (hgd : o.guard = none) (s x : Operand)
    (ho : o.op = .call { callee := .builtin .append, args := #[s, x], argTypes := #[22, 3] })
    (base : Nat) (A : Option Addr) (n c : Nat) (l : List UInt8) (hs : a.eval s = .slice A n c) (hn : n = l.length) (hown : OwnB w base A c l)
    (m : Nat) (hx : a.eval x = .int .i64 (m : Int)) (hlen : l.length + m ≤ 140737488355328) (hbase : base ≤ w.heap.size)
    (h : ∀ A' c' w', OwnB w' base A' c' (l ++ List.replicate m 0) → w.grownBy w' (blk A) → (blk A' = blk A ∨ blk A' = some w.heap.size) → wpList Try.prog ops Q rest (a.put o.dst (.slice A' (l.length + m) c')) w') :
    wpList Try.prog ops Q (o :: rest) a w := by
  subst hn
  obtain ⟨A', c', w', hrun, h1, h2, h3⟩ := run_appZ w o.type base A c l hown m hlen hbase
  refine wpList_plain hgd fun _ hK => ?_
  unfold Oper.wp execOp
  simp only [ho, resolve, invoke, builtin, Sem.run_bind, Sem.run_pure, Result.andThen_ok, List.map_toArray, List.map_cons, List.map_nil, hs, hx, hrun]
  exact hK _ _ (h A' c' w' h1 h2 h3)
/-- '[]byte{}' and an append onto it: what was there stays; where the new row lies -/
theorem empty_below {w w2 : World} (hg : (w.alloc (.cells #[] 5)).grownBy w2 (blk (some ⟨w.heap.size, 0, none⟩))) : Below w.heap.size w w2 :=
  ((Below.refl w.heap.size w).alloc (Nat.le_refl _) _).grown hg (by simp) (fun k hk => by simp [blk] at hk; omega)
theorem empty_at {w : World} {A : Option Addr} {o : Obj} (hat : blk A = blk (some ⟨w.heap.size, 0, none⟩) ∨ blk A = some (w.alloc o).heap.size) : ∀ k, blk A = some k → w.heap.size ≤ k := by
  intro k hk
  rcases hat with e | e <;> rw [hk] at e <;> simp [blk] at e <;> omega
theorem more_at {B : Nat} {w : World} {A A' : Option Addr} (h : ∀ k, blk A = some k → B ≤ k) (hB : B ≤ w.heap.size) (hat : blk A' = blk A ∨ blk A' = some w.heap.size) : ∀ k, blk A' = some k → B ≤ k := by
  intro k hk
  rcases hat with e | e
  · exact h k (by rw [← e]; exact hk)
  · rw [hk] at e; simp at e; omega
end Go.Proofs.Ytpjgcceacfdheaa
