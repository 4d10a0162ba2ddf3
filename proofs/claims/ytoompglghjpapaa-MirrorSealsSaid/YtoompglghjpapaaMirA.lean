/-
  Words for mirrors: rows of pointers to disks, the set of those seen; the functions of slices over them.
-/
import Derived.Test.YtoompglghjpapaaLaw1A
import Derived.LaidEqlPtr
namespace Go.Proofs.Ytoompglghjpapaa
open Go.RowKit
set_option linter.unusedVariables false
set_option linter.unusedSimpArgs false
attribute [local go_sem ↓] Go.wp_at_zero Go.wp_at_succ

/-- a disk, or none -/
def pv : Option Nat → Value
  | some d => ob d
  | none => .pointer none
/-- the pointers behind A are l -/
def RdP (w : World) (A : Option Addr) (l : List (Option Nat)) : Prop := 0 < l.length → ∃ ad, A = some ad ∧ ∀ k, k < l.length → w.cell? (ad.add k) = some (pv (l.getD k none))
theorem RdP.below {w w' : World} {A : Option Addr} {l : List (Option Nat)} (h : RdP w A l) (hb : Below w.heap.size w w') : RdP w' A l := fun hl => by
  obtain ⟨ad, rfl, hc⟩ := h hl
  refine ⟨ad, rfl, fun k hk => ?_⟩
  exact (hb.cell (World.block_lt_of_cell? _ _ (hc k hk))).trans (hc k hk)
theorem RdP.at_ {w : World} {A : Option Addr} {l : List (Option Nat)} {k : Nat} (h : RdP w A l) (hk : k < l.length) : ∃ ad, A = some ad ∧ w.cell? (ad.add k) = some (pv (l.getD k none)) := by
  obtain ⟨ad, e, hc⟩ := h (by omega)
  exact ⟨ad, e, hc k hk⟩
theorem eql_nil_l (w : World) (b : Option Addr) : (binOp .eql 42 (.pointer none) (.pointer b)).run Try.prog w = .ok (.bool b.isNone) w := by
  have h : ∀ d : Nat, (Op.equalIn (d + 1) 42 (.pointer none) (.pointer b)).run Try.prog w = .ok b.isNone w := fun d => by
    simp [Op.equalIn, run_underlying Try.underlying42]
  simp only [binOp]
  simp [Op.equal, Op.maxDepth, h 9999]
set_option maxRecDepth 100000 in
set_option maxHeartbeats 1000000 in
/-- slices.Index of nil -/
theorem index_nil (A : Option Addr) (l : List (Option Nat)) (n c : Nat) (w : World) (hn : l.length = n) (hm : n ≤ maxLen) (h : RdP w A l) :
    Calls Try.prog 81 #[.slice A n c, .pointer none] w fun e w' => ∃ i : Int, e = .returned (.int .i64 i) ∧ decide (0 ≤ i) = decide (none ∈ l) ∧ w = w' := by
  unfold maxLen at hm
  have HA := Lib.hid h
  have HN := Lib.hid hn
  clear h hn
  go_enter Try.func81, Try.ntmps81
  go_wp2_with fail
  go_loopw [5, 8] (fun _ i wr => ∃ k : Nat, i = .int .i64 (k : Int) ∧ k ≤ n ∧ Hid (∀ j, j < k → l.getD j none ≠ none) ∧ Hid (wr = w)) (fun _ i _ => n - (RowKit.intOf i).toNat)
  case atStart => exact ⟨0, rfl, Nat.zero_le _, Lib.hid fun k hk => by omega, Lib.hid rfl⟩
  case round =>
    obtain ⟨k, rfl, hk, HJ, HW⟩ := hrel
    obtain rfl := HW.out
    clear HW
    by_cases hlt : k < n
    · obtain ⟨ad, rfl, c1⟩ := HA.out.at_ (k := k) (by rw [HN.out]; exact hlt)
      have hkn : (k : Int) < (n : Int) := by omega
      obtain ⟨x, hx⟩ : ∃ x, l.getD k none = x := ⟨_, rfl⟩
      have HX : Hid (l.getD k none = x) := Lib.hid hx
      rw [hx] at c1
      clear hx
      rcases x with _ | d
      · have he := eql_nil_l wr none
        replace c1 : wr.cell? (ad.add k) = some (.pointer none) := c1
        rw [show (none : Option Addr).isNone = true from rfl] at he
        go_wp2_with fail
        go_ret
        refine ⟨_, rfl, ?_, rfl⟩
        have h1 : none ∈ l := by
          rw [← HX.out]
          have hkl : k < l.length := by rw [HN.out]; exact hlt
          rw [show l.getD k none = l[k] by simp [List.getD, hkl]]
          exact List.getElem_mem _
        rw [decide_eq_true h1, decide_eq_true (by omega)]
      · have he := eql_nil_l wr (some ⟨d, 0, none⟩)
        replace c1 : wr.cell? (ad.add k) = some (.pointer (some ⟨d, 0, none⟩)) := c1
        rw [show (some (⟨d, 0, none⟩ : Addr)).isNone = false from rfl] at he
        go_wp2_with fail
        refine ⟨⟨k + 1, int_eq (by omega), by omega, Lib.hid fun j hj => ?_, Lib.hid (by trivial)⟩, by simp [RowKit.intOf]; omega⟩
        by_cases hjk : j = k
        · subst hjk; rw [HX.out]; simp
        · exact HJ.out j (by omega)
    · go_wp2_with fail
      go_ret
      refine ⟨_, rfl, ?_, rfl⟩
      have hkn : k = n := by omega
      have h1 : ¬ none ∈ l := fun h1 => by
        obtain ⟨j, hj, e⟩ := List.getElem_of_mem h1
        exact HJ.out j (by rw [HN.out] at hj; omega) (by simp [List.getD, hj, e])
      rw [decide_eq_false h1]
      decide
/-- slices.Contains of nil -/
theorem contains_nil (A : Option Addr) (l : List (Option Nat)) (n c : Nat) (b : Bool) (w : World) (hn : l.length = n) (hm : n ≤ maxLen) (h : RdP w A l) (hb : decide (none ∈ l) = b) :
    Calls Try.prog 67 #[.slice A n c, .pointer none] w fun e w' => e = .returned (.bool b) ∧ w = w' := by
  go_enter Try.func67, Try.ntmps67
  go_wp2_with fail
  refine (index_nil A l n c w hn hm h).mono ?_
  rintro e _ ⟨i, rfl, hi, rfl⟩
  rw [hb] at hi
  go_wp2_with fail
  go_ret
  exact ⟨by rw [← hi]; simp, rfl⟩
/-- the set of the disks that were seen: a map in block b -/
def SeenAt (w : World) (b : Nat) (ds : List Nat) : Prop := ∃ es ck, w.heap[b]? = some (.map es ck) ∧ es.toList.map (fun e => (e.key, e.val)) = ds.map (fun d => (ob d, .bool true))
theorem eql_pp (w : World) {d e : Nat} (hd : ∃ t cs, Blk w d t cs) (he : ∃ t cs, Blk w e t cs) : (Op.equal 42 (ob d) (ob e)).run Try.prog w = .ok (decide (d = e)) w := by
  obtain ⟨j, hj, hjs⟩ : ∃ j, Try.prog.info? 123 = some j ∧ j.size ≠ 0 := by
    have h : (Try.prog.info? 123).map (fun i => decide (i.size ≠ 0)) = some true := by kernel_rfl
    cases hi : Try.prog.info? 123 with
    | none => rw [hi] at h; simp at h
    | some j => rw [hi] at h; exact ⟨j, rfl, by simpa using h⟩
  obtain ⟨t1, c1, h1⟩ := hd
  obtain ⟨t2, c2, h2⟩ := he
  by_cases hde : d = e
  · subst hde
    have h : ∀ n : Nat, (Op.equalIn (n + 1) 42 (.pointer (some ⟨d, 0, none⟩)) (.pointer (some ⟨d, 0, none⟩))).run Try.prog w = .ok true w := fun n => by
      simp [Op.equalIn, run_underlying Try.underlying42, sizeOf, typeInfo, hj, run_sameAddr_same]
    rw [decide_eq_true rfl]
    exact h 9999
  · have hne : (⟨d, 0, none⟩ : Addr) ≠ ⟨e, 0, none⟩ := fun e => hde (by injection e)
    have h : ∀ n : Nat, (Op.equalIn (n + 1) 42 (.pointer (some ⟨d, 0, none⟩)) (.pointer (some ⟨e, 0, none⟩))).run Try.prog w = .ok false w := fun n => by
      simp [Op.equalIn, run_underlying Try.underlying42, sizeOf, typeInfo, hj, hjs, run_sameAddr_other w hne h1 h2]
    rw [decide_eq_false hde]
    exact h 9999
open Instr in
theorem find_ask (w : World) {d : Nat} (hd : ∃ t cs, Blk w d t cs) : ∀ (es : List MapEntry) (ds : List Nat) (i : Nat), es.map (fun e => (e.key, e.val)) = ds.map (fun d => (ob d, .bool true)) → (∀ x ∈ ds, ∃ t cs, Blk w x t cs) →
    ∃ r, (findAsking 42 (ob d) es i).run Try.prog w = .ok r w ∧ (if d ∈ ds then ∃ j, r = some (j, .bool true) else r = none)
  | [], ds, i, h, _ => by
    cases ds with
    | nil => exact ⟨none, rfl, by simp⟩
    | cons x ds => simp at h
  | e :: es, ds, i, h, hb => by
    cases ds with
    | nil => simp at h
    | cons x ds =>
      simp only [List.map_cons, List.cons.injEq, Prod.mk.injEq] at h
      obtain ⟨⟨hk, hv⟩, ht⟩ := h
      have he := eql_pp w hd (hb x List.mem_cons_self)
      by_cases hdx : d = x
      · subst hdx
        rw [decide_eq_true rfl] at he
        refine ⟨some (i, .bool true), ?_, by simp⟩
        simp [findAsking, hk, hv, he]
      · rw [decide_eq_false hdx] at he
        obtain ⟨r, hr, hc⟩ := find_ask w hd es ds (i + 1) ht (fun y hy => hb y (List.mem_cons_of_mem _ hy))
        refine ⟨r, ?_, ?_⟩
        · simp [findAsking, hk, he, hr]
        · simpa [hdx] using hc
theorem seen_find (w : World) {d : Nat} (hd : ∃ t cs, Blk w d t cs) (es : Array MapEntry) (ds : List Nat) (h : es.toList.map (fun e => (e.key, e.val)) = ds.map (fun d => (ob d, .bool true))) (hb : ∀ x ∈ ds, ∃ t cs, Blk w x t cs) :
    ∃ r, (Instr.findKey 42 (ob d) es.toList).run Try.prog w = .ok r w ∧ (if d ∈ ds then ∃ j, r = some (j, .bool true) else r = none) := by
  obtain ⟨r, hr, hc⟩ := find_ask w hd es.toList ds 0 h hb
  refine ⟨r, ?_, hc⟩
  unfold Instr.findKey
  rw [show (Instr.findAsking 42 (ob d) es.toList) = Instr.findAsking 42 (ob d) es.toList 0 from rfl]
  simp only [Sem.run_bind, run_underlying Try.underlying42, Result.andThen_ok]
  cases hes : es.toList with
  | nil =>
    rw [hes] at hr
    simp [Instr.findNow]
    simpa [Instr.findAsking] using hr
  | cons e r' =>
    rw [hes] at hr
    simp [Instr.findNow, Instr.sameNow]
    exact hr
theorem check_ptr (w : World) (b : Bool) (d : Nat) : (Instr.checkKey b 10000 42 (ob d)).run Try.prog w = .ok () w := by
  have h : ∀ n : Nat, (Instr.checkKey b (n + 1) 42 (.pointer (some ⟨d, 0, none⟩))).run Try.prog w = .ok () w := fun n => by
    simp [Instr.checkKey, run_underlying Try.underlying42]
  exact h 9999
theorem seen_look {w : World} {b : Nat} {ds : List Nat} (h : SeenAt w b ds) {d : Nat} (hd : ∃ t cs, Blk w d t cs) (hb : ∀ x ∈ ds, ∃ t cs, Blk w x t cs) :
    (Instr.lookup 126 (.map (some b)) (ob d) false).run Try.prog w = .ok (.bool (decide (d ∈ ds))) w := by
  obtain ⟨es, ck, hh, he⟩ := h
  obtain ⟨r, hr, hc⟩ := seen_find w hd es ds he hb
  have hz : (zeroValue 4).run Try.prog w = .ok (.bool false) w := by
    have h : (Try.prog.info? 4).map (fun i => i.zero) = some (some (.bool false)) := by kernel_rfl
    cases hi : Try.prog.info? 4 with
    | none => rw [hi] at h; simp at h
    | some j => rw [hi] at h; simp at h; simp [zeroValue, typeInfo, hi, h]
  have hg : (getObj b).run Try.prog w = .ok (.map es ck) w := by simp [getObj, Sem.run, hh]
  unfold Instr.lookup
  by_cases hm : d ∈ ds
  · rw [if_pos hm] at hc
    obtain ⟨j, rfl⟩ := hc
    simp [run_underlying Try.underlying126, hg, check_ptr, hr, hm]
  · rw [if_neg hm] at hc
    subst hc
    simp [run_underlying Try.underlying126, hg, check_ptr, hr, hm, hz]
theorem seen_put {w : World} {b : Nat} {ds : List Nat} (h : SeenAt w b ds) {d : Nat} (hd : ∃ t cs, Blk w d t cs) (hb : ∀ x ∈ ds, ∃ t cs, Blk w x t cs) (hm : d ∉ ds) :
    ∃ w', (Instr.mapUpdate 126 (.map (some b)) (ob d) (.bool true)).run Try.prog w = .ok () w' ∧ SeenAt w' b (ds ++ [d]) ∧ ∀ B, B ≤ b → Below B w w' := by
  obtain ⟨es, ck, hh, he⟩ := h
  obtain ⟨r, hr, hc⟩ := seen_find w hd es ds he hb
  rw [if_neg hm] at hc
  subst hc
  refine ⟨Go.ChangeMaps.setBlock w b (.map (es.push ⟨ob d, .bool true, ck⟩) (ck + 1)), ?_, ⟨_, _, Go.ChangeMaps.heap_setBlock_same hh _, ?_⟩, fun B hB => ⟨rfl, rfl, rfl, by simp [Go.ChangeMaps.setBlock], fun i hi => Go.ChangeMaps.heap_setBlock_other hh _ (by omega)⟩⟩
  · have hg : (getObj b).run Try.prog w = .ok (.map es ck) w := by simp [getObj, Sem.run, hh]
    have hset : ∀ o : Obj, (setObj b o).run Try.prog w = .ok () (Go.ChangeMaps.setBlock w b o) := fun o => by simp [setObj, Sem.run, hh, Go.ChangeMaps.setBlock]
    unfold Instr.mapUpdate
    simp [run_underlying Try.underlying126, hg, check_ptr, hr, hset]
  · simp [he]
/-- a disk's block: cells that are read in place -/
def Dsk (w : World) (d : Nat) : Prop := ∃ t cs, Blk w d t cs
end Go.Proofs.Ytoompglghjpapaa
