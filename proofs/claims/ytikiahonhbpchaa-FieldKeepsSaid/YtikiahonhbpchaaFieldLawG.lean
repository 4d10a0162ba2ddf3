/-
  Walk: the law FieldKeeps: nothing that is handed in is changed, nor its spare room; what is answered is no other call's memory.
-/
import Derived.Test.YtikiahonhbpchaaFieldLawD
import Derived.Laws.OwnMore
namespace Go.Proofs.Ytikiahonhbpchaa
open Go.RowKit Fld
set_option linter.unusedVariables false
set_option linter.unusedSimpArgs false
attribute [local go_sem ↓] Go.wp_at_zero Go.wp_at_succ

def zi : Array Value := #[.int .i64 0, .int .i64 0, .string ⟨#[]⟩]
theorem madeI (m : Nat) : madeCells zi (m * 3) = (ic (List.replicate m none_)).toArray := by
  apply Array.ext_getElem?
  intro j
  have hl : (ic (List.replicate m none_)).length = m * 3 := by rw [ic_length]; simp
  by_cases h : j < m * 3
  · have hk : j / 3 < (List.replicate m none_).length := by simp; omega
    obtain ⟨q0, q1, q2⟩ := ic_get (List.replicate m none_) (j / 3) hk
    have hg : (List.replicate m none_).getD (j / 3) none_ = none_ := by
      rw [getD_eq _ _ _ hk]; simp
    rw [hg] at q0 q1 q2
    have hL : (madeCells zi (m * 3))[j]? = some (zi[j % 3]!) := by
      simp [madeCells, h, zi]
    rw [hL, List.getElem?_toArray]
    rcases (by omega : j % 3 = 0 ∨ j % 3 = 1 ∨ j % 3 = 2) with e | e | e
    · rw [e, show j = 3 * (j / 3) by omega, q0]; rfl
    · rw [e, show j = 3 * (j / 3) + 1 by omega, q1]; rfl
    · rw [e, show j = 3 * (j / 3) + 2 by omega, q2]; rfl
  · rw [Array.getElem?_eq_none (by rw [size_madeCells]; omega), List.getElem?_toArray, List.getElem?_eq_none (by rw [hl]; omega)]
theorem run_make_items (n : Nat) (hn : n ≤ 4398046511200) (w : World) :
    (Instr.makeSlice 24 (.int .i64 0) (.int .i64 (n : Int))).run Try.prog w = .ok (.slice (some ⟨w.heap.size, 0, none⟩) 0 n) (w.alloc (.cells (ic (List.replicate n none_)).toArray 30)) := by
  obtain ⟨i, hi0, hz0, hz1, hz2⟩ := info_parts info_item
  have hr := run_make (P := Try.prog) w 24 30 i _ Try.underlying24 hi0 hz0 .i64 .i64 0 n (by omega) (by omega) (by rw [hz2]; omega) (by omega)
  simp only [Int.toNat_natCast, hz1] at hr
  have e : madeCells (Value.agg #[.int .i64 0, .int .i64 0, .string ⟨#[]⟩]).cells (n * 3) = (ic (List.replicate n none_)).toArray := madeI n
  rw [e] at hr
  exact hr
/-- append into the room of a row of empty items -/
theorem wpList_appRoomI {w : World} {ops : Array Oper} {rest : List Oper} {o : Oper} {a : Act} {Q : Exit → Act → World → Prop} (hgd : o.guard = none) (s x : Operand)
    (ho : o.op = .call { callee := .builtin .append, args := #[s, x], argTypes := #[24, 24] })
    (g m : Nat) (hs : a.eval s = .slice (some ⟨g, 0, none⟩) 0 (m + 2)) (hg : Blk w g 30 (ic (List.replicate (m + 2) none_)).toArray) (hcm : m + 2 ≤ maxLen)
    (A1 : Option Addr) (n c1 : Nat) (l : List It) (hx : a.eval x = .slice A1 n c1) (hn : n = l.length) (hr : RdI w A1 l) (hm : m = l.length)
    (h : ∀ w', Blk w' g 30 (ic (l ++ [none_, none_])).toArray → w.grownBy w' (some g) → wpList Try.prog ops Q rest (a.put o.dst (.slice (some ⟨g, 0, none⟩) l.length (m + 2))) w') :
    wpList Try.prog ops Q (o :: rest) a w := by
  subst hn
  obtain ⟨i, hi0, hz0, hz1, hz2⟩ := info_parts info_item
  have hrun : ∃ w', (Builtin.append_ #[24, 24] o.type #[.slice (some ⟨g, 0, none⟩) 0 (m + 2), .slice A1 l.length c1]).run Try.prog w = .ok (.slice (some ⟨g, 0, none⟩) l.length (m + 2)) w' ∧ Blk w' g 30 (ic (l ++ [none_, none_])).toArray ∧ w.grownBy w' (some g) := by
    rcases A1 with _ | ad
    · have h0 : l = [] := by
        cases l with
        | nil => rfl
        | cons x l => obtain ⟨_, e, _⟩ := hr (by rw [ic_length]; simp); cases e
      subst h0
      have hm0 : m = 0 := hm
      subst hm0
      have hown : w.ownsRow 0 30 3 (.slice (some ⟨g, 0, none⟩) 0 (0 + 2)) 0 [] := ⟨rfl, .inr ⟨g, 0 + 2, _, rfl, Nat.zero_le _, hg, Nat.zero_le _, hcm, by simp [ic_length], by simp⟩⟩
      exact ⟨w, run_append_of_nil Try.prog w 0 24 o.type 30 i 3 Try.underlying24 hi0 _ 0 [] hown c1, hg, World.grownBy.refl w _⟩
    · have hcells : ∀ j u, (ic l)[j]? = some u → w.cell? (ad.add j) = some u := by
        intro j u hu
        obtain ⟨ad', e, hc⟩ := hr (by have := (List.getElem?_eq_some_iff.1 hu).1; omega)
        cases e
        exact hc j u hu
      have hrr := run_append_room (P := Try.prog) w 24 o.type 30 i Try.underlying24 hi0 g 0 (m + 2) _ hg ad l.length c1 (ic l) (by rw [ic_length, hz1]) hcells (ic_one _) (by omega) (by rw [hz1]; simp [ic_length]; omega)
      have he : ((ic (List.replicate (m + 2) none_)).toArray.toList.take (0 * i.size) ++ ic l ++ (ic (List.replicate (m + 2) none_)).toArray.toList.drop (0 * i.size + (ic l).length)).toArray = (ic (l ++ [none_, none_])).toArray := by
        have e1 : (ic l).length = 3 * m := by rw [ic_length]; omega
        have e2 : (List.replicate (m + 2) none_).drop m = [none_, none_] := by
          rw [List.drop_replicate]
          have : m + 2 - m = 2 := by omega
          rw [this]; rfl
        simp only [Nat.zero_mul, List.take_zero, List.nil_append, Nat.zero_add]
        rw [e1, ← ic_drop, e2, ← ic_append]
      rw [he, Nat.zero_add] at hrr
      exact ⟨_, hrr, setRow_heap w g _ _ 30 _ hg, ⟨rfl, rfl, rfl, by simp, fun k _ hk => setRow_other w g k _ (fun e => hk (by simp [e]))⟩⟩
  obtain ⟨w', hrun, h1, h2⟩ := hrun
  refine wpList_plain hgd fun _ hK => ?_
  unfold Oper.wp execOp
  simp only [ho, resolve, invoke, builtin, Sem.run_bind, Sem.run_pure, Result.andThen_ok, List.map_toArray, List.map_cons, List.map_nil, hs, hx, hrun]
  exact hK _ _ (h w' h1 h2)
theorem rdI_blk {w : World} {g : Nat} {l r : List It} (h : Blk w g 30 (ic (l ++ r)).toArray) : RdI w (some ⟨g, 0, none⟩) l := fun hl => by
  refine ⟨_, rfl, fun k u hu => ?_⟩
  have e : (⟨g, 0, none⟩ : Addr).add k = ⟨g, k, none⟩ := by unfold Addr.add; split <;> simp_all
  rw [e, h.cell k, ic_append]
  have hk := (List.getElem?_eq_some_iff.1 hu).1
  rw [List.getElem?_toArray, List.getElem?_append_left hk]
  exact hu
/-- the spare room's cells as the walk spells them *-/
theorem spare_cells {w : World} {g n j : Nat} {l : List It} (h : Blk w g 30 (ic (l ++ [none_, none_])).toArray) (hl : l.length = n) (hj : j < 2) :
    w.cell? ⟨g, n * 3 + j * 3, none⟩ = some (.int .i64 0) ∧ w.cell? ⟨g, n * 3 + j * 3 + 1, none⟩ = some (.int .i64 0) ∧ w.cell? ⟨g, n * 3 + j * 3 + 2, none⟩ = some (.string ⟨#[]⟩) := by
  have hk : n + j < (l ++ [none_, none_]).length := by simp; omega
  obtain ⟨q0, q1, q2⟩ := ic_get (l ++ [none_, none_]) (n + j) hk
  have hg : (l ++ [none_, none_]).getD (n + j) none_ = none_ := by
    rw [List.getD, List.getElem?_append_right (by omega)]
    have : n + j - l.length = j := by omega
    rw [this]
    rcases (by omega : j = 0 ∨ j = 1) with e | e <;> subst e <;> rfl
  rw [hg] at q0 q1 q2
  have e0 : n * 3 + j * 3 = 3 * (n + j) := by omega
  rw [h.cell, h.cell, h.cell, List.getElem?_toArray, List.getElem?_toArray, List.getElem?_toArray, e0]
  exact ⟨q0, q1, q2⟩
set_option maxRecDepth 100000 in
set_option maxHeartbeats 2000000 in
theorem FieldKeeps_walk (A : Option Addr) (l : List It) (cap : Nat) (w : World) (hm : l.length ≤ 4398046511104) (hcap : l.length ≤ cap) (hA : RdI w A l) (hl : ∀ i ∈ l, i.str.length ≤ maxLen ∧ Ranged i) :
    Calls Try.prog 7 #[.slice A l.length cap] w fun e w' => e = .returned (.bool true) ∧ Below w.heap.size w w' := by
  have HA := Lib.hid hA; clear hA
  have HL := Lib.hid hl; clear hl
  go_enter Try.func7, Try.ntmps7
  go_wp2_with fail
  refine (sound_any w).mono ?_
  rintro e w1 ⟨rfl, hb1⟩
  have HW1 := Lib.hid hb1
  have HA1 := Lib.hid (HA.out.below hb1)
  clear hb1
  obtain ⟨n, hn⟩ : ∃ n, l.length = n := ⟨_, rfl⟩
  have hmk := fun W => run_make_items (n + 2) (by omega) W
  have hcast : ((n + 2 : Nat) : Int) = (n : Int) + 2 := by omega
  rw [hcast] at hmk
  have hA2 := HA1.out.below ((Below.refl w1.heap.size w1).alloc (Nat.le_refl _) (.cells (ic (List.replicate (n + 2) none_)).toArray 30))
  have HA2 := Lib.hid hA2
  have HBK := Lib.hid (Blk.new w1 30 (ic (List.replicate (n + 2) none_)).toArray)
  have HLN : Hid (l.length = n) := Lib.hid hn
  have hn5 : n ≤ 4398046511104 := by omega
  rw [hn]
  clear hn hm hA2 hcast hcap
  go_wp2_with (at_builtin; refine wpList_appRoomI rfl (.tmp 22) (.tmp 23) rfl w1.heap.size n rfl HBK.out (by unfold maxLen; omega) A n cap l rfl HLN.out.symm HA2.out HLN.out.symm ?_; (intro w2 hbk2 hg2))
  rw [HLN.out]
  have HW2 := Lib.hid (show Below w1.heap.size w1 w2 from ((Below.refl w1.heap.size w1).alloc (Nat.le_refl _) _).grown hg2 (by simp) (fun k hk => by cases hk; exact Nat.le_refl _))
  have HK2 := Lib.hid hbk2
  clear hbk2 hg2 HA2 HBK hmk
  have HSZ : Hid (w1.heap.size < w2.heap.size) := Lib.hid HK2.out.lt
  have hrow := fun W (h : Blk W w1.heap.size 30 (ic (l ++ [none_, none_])).toArray) => row_any (some ⟨w1.heap.size, 0, none⟩) l (n + 2) W (by have := HLN.out; unfold maxLen; omega) (rdI_blk h) HL.out
  rw [HLN.out] at hrow
  have HROW := Lib.hid hrow
  clear hrow
  refine (HROW.out _ HK2.out).mono ?_
  rintro e w3 ⟨A3, c3, rfl, hown3, hb3⟩
  have HO3 := Lib.hid hown3
  have HK3 := Lib.hid (HK2.out.below hb3 HSZ.out)
  have HW3 := Lib.hid (HW2.out.trans (hb3.mono HW2.out.size))
  clear hown3 hb3
  go_wp2_with fail
  have e2 : n + 2 - n = 2 := by omega
  rw [e2]
  go_loop [7] (fun i => ∃ (j : Nat), i = .int .i64 (j : Int) ∧ j ≤ 2) (fun i => 2 - (intOf i).toNat)
  case atStart => exact ⟨0, rfl, by omega⟩
  case round =>
    obtain ⟨j, rfl, hj⟩ := hrel
    by_cases hlt : j < 2
    · obtain ⟨c0, c1, c2⟩ := spare_cells HK3.out HLN.out hlt
      have hq := fun W => run_neq_item none_ none_ W
      rw [eqI_refl] at hq
      have hgd := guard_item
      go_wp2_with fail
      exact ⟨⟨j + 1, int_eq (by omega), by omega⟩, by simp [intOf]; omega⟩
    · have hj2 : j = 2 := by omega
      subst hj2
      have hsm := fun W (h : Blk W w1.heap.size 30 (ic (l ++ [none_, none_])).toArray) (hA : RdI W A l) => same_r (some ⟨w1.heap.size, 0, none⟩) A l l (n + 2) cap W (by have := HLN.out; unfold maxLen; omega) (by have := HLN.out; unfold maxLen; omega) (rdI_blk h) hA true (by simp)
      rw [HLN.out] at hsm
      have HSM := Lib.hid hsm
      clear hsm e2 hlt hj
      have HA3 := Lib.hid (HA1.out.below HW3.out)
      go_wp2_with fail
      refine (HSM.out _ HK3.out HA3.out).mono ?_
      rintro e w4 ⟨rfl, nd, rfl⟩
      have HK4 := Lib.hid (HK3.out.drewN nd)
      have HW4 := Lib.hid (below_drewN HW3.out nd)
      have HO4 := Lib.hid (OwnB.drewN HO3.out nd)
      clear HK3 HW3 HO3 HA3
      generalize w3.drewN nd = w4 at *
      by_cases h0 : rowE l = 0
      · obtain ⟨hl4, hgd⟩ := rowE_zero h0
        have hrb : rowB l = encs l := by unfold rowB; rw [if_pos h0]
        have HGD : Hid (∀ i ∈ l, Fld.Good i ∧ Ranged i) := Lib.hid fun i hi => ⟨hgd i hi, (HL.out i hi).2⟩
        have hle := encs_le l HGD.out
        have hitm : itemsL (encs l) = l ∧ itemsE (encs l) = 0 := by
          have := items_enc l 0 HGD.out (by omega)
          unfold itemsL itemsE
          rw [this]; exact ⟨rfl, rfl⟩
        have HRE : Hid (rowB l = encs l ∧ rowE l = 0) := Lib.hid ⟨hrb, h0⟩
        rw [hrb] at HO4 ⊢
        rw [h0]
        have hn4 : n ≤ 4000 := by have := HLN.out; omega
        have hB : (encs l).length ≤ 200020000 := by omega
        have HIT := Lib.hid hitm
        clear hitm hgd hrb hl4 hle h0
        have hcp := OwnR.cap HO4.out
        have hst := run_str c3 (OwnB.rd HO4.out) rfl
        have HITM := Lib.hid (fun W (h : RdB W A3 (encs l)) => items_any A3 (encs l) c3 W (by unfold maxLen; omega) hcp h)
        generalize hSTR : (⟨(encs l).toArray⟩ : ByteArray) = STR at *
        go_wp2_with fail
        clear hst
        refine (HITM.out _ (OwnB.rd HO4.out)).mono ?_
        intro e w5 hi
        obtain ⟨A5, c5, rfl, hown5, hb5⟩ := items_form hi
        clear hi
        rw [HIT.out.1] at hown5 ⊢
        rw [HIT.out.2, HLN.out]
        have HO5 : Hid (OwnR w5 w4.heap.size 30 3 A5 n c5 (ic l)) := Lib.hid (by have := hown5; unfold OwnI at this; rw [HLN.out] at this; exact this)
        have HB5 := Lib.hid hb5
        clear hown5 hb5
        go_wp2_with fail
        go_loopw [11] (fun i wr => ∃ (j : Nat) (xs : List Value), i = .int .i64 (j : Int) ∧ j ≤ n ∧ Hid (OwnR wr w4.heap.size 30 3 A5 n c5 xs) ∧ Hid (Below w4.heap.size w4 wr)) (fun i _ => n - (intOf i).toNat)
        case atStart => exact ⟨0, ic l, rfl, Nat.zero_le _, HO5, HB5⟩
        case round =>
          clear HO5 HB5
          obtain ⟨j, xs, rfl, hj, HO, HB⟩ := hrel
          by_cases hlt : j < n
          · obtain ⟨g5, rfl⟩ := OwnR.some_ HO.out (by omega)
            have hlx := OwnR.length HO.out
            have hge := (OwnR.lt HO.out g5 rfl).1
            obtain ⟨x0, hx0⟩ : ∃ x, xs[j * 3]? = some x := ⟨_, List.getElem?_eq_getElem (by omega)⟩
            obtain ⟨x1, hx1⟩ : ∃ x, xs[j * 3 + 1]? = some x := ⟨_, List.getElem?_eq_getElem (by omega)⟩
            obtain ⟨x2, hx2⟩ : ∃ x, xs[j * 3 + 2]? = some x := ⟨_, List.getElem?_eq_getElem (by omega)⟩
            have c0 := (World.ownsRow.cellAt HO.out (j * 3) (by omega)).trans hx0
            have c1 := (World.ownsRow.cellAt HO.out (j * 3 + 1) (by omega)).trans hx1
            have c2 := (World.ownsRow.cellAt HO.out (j * 3 + 2) (by omega)).trans hx2
            have f0 := World.ownsRow.frozenAt HO.out (j * 3)
            have f1 := World.ownsRow.frozenAt HO.out (j * 3 + 1)
            have f2 := World.ownsRow.frozenAt HO.out (j * 3 + 2)
            have HON := Lib.hid (World.ownsRow.stored (World.ownsRow.stored (World.ownsRow.stored HO.out (j * 3) (.int .i64 7)).1 (j * 3 + 1) (.int .i64 0)).1 (j * 3 + 2) (.string ⟨#[]⟩)).1
            have HBN := Lib.hid (((HB.out.setCell (p := ⟨g5, j * 3, none⟩) hge (.int .i64 7)).setCell (p := ⟨g5, j * 3 + 1, none⟩) hge (.int .i64 0)).setCell (p := ⟨g5, j * 3 + 2, none⟩) hge (.string ⟨#[]⟩))
            clear hx0 hx1 hx2 HO HB hlx
            go_wp2_with fail
            exact ⟨⟨j + 1, _, int_eq (by omega), by omega, HON, HBN⟩, by simp [intOf]; omega⟩
          · have hjn : j = n := by omega
            subst hjn
            have HRB := Lib.hid (RdB.below (OwnB.rd HO4.out) HB.out)
            have HSZ4 : Hid (w1.heap.size < w4.heap.size) := Lib.hid HK4.out.lt
            have HKr := Lib.hid (HK4.out.below HB.out HSZ4.out)
            have HWr := Lib.hid (HW4.out.trans (HB.out.mono HW4.out.size))
            clear HO HB hlt hj HO4 HK4
            go_wp2_with fail
            refine (HITM.out _ HRB.out).mono ?_
            intro e w6 hi
            obtain ⟨A6, c6, rfl, hown6, hb6⟩ := items_form hi
            clear hi
            rw [HIT.out.1] at hown6 ⊢
            rw [HIT.out.2, HLN.out]
            have HO6 := Lib.hid hown6
            have HRB6 := Lib.hid (RdB.below HRB.out hb6)
            have HSZr : Hid (w1.heap.size < wr.heap.size) := Lib.hid HKr.out.lt
            have HK6 := Lib.hid (HKr.out.below hb6 HSZr.out)
            have HW6 := Lib.hid (HWr.out.trans (hb6.mono HWr.out.size))
            clear hown6 hb6 HRB HKr HWr HSZr
            go_wp2_with fail
            refine (HROW.out _ HK6.out).mono ?_
            rintro e w7 ⟨A7, c7, rfl, hown7, hb7⟩
            rw [HRE.out.1] at hown7 ⊢
            rw [HRE.out.2]
            have HO7 : Hid (OwnR w7 w6.heap.size 5 1 A7 (encs l).length c7 (bc (encs l))) := Lib.hid hown7
            have HB7 := Lib.hid hb7
            clear hown7 hb7
            generalize hEL : (encs l).length = m at *
            go_wp2_with fail
            go_loopw [16] (fun i w8 => ∃ (k : Nat) (xs : List Value), i = .int .i64 (k : Int) ∧ k ≤ m ∧ Hid (OwnR w8 w6.heap.size 5 1 A7 m c7 xs) ∧ Hid (Below w6.heap.size w6 w8)) (fun i _ => m - (intOf i).toNat)
            case atStart => exact ⟨0, bc (encs l), rfl, Nat.zero_le _, HO7, HB7⟩
            case round =>
              clear HO7 HB7
              obtain ⟨k, xs, rfl, hk, HO, HB⟩ := hrel
              by_cases hlt : k < m
              · obtain ⟨g7, rfl⟩ := OwnR.some_ HO.out (by omega)
                have hlx := OwnR.length HO.out
                have hge := (OwnR.lt HO.out g7 rfl).1
                obtain ⟨x0, hx0⟩ : ∃ x, xs[k]? = some x := ⟨_, List.getElem?_eq_getElem (by omega)⟩
                have c0 := (World.ownsRow.cellAt HO.out k (by omega)).trans hx0
                have f0 := World.ownsRow.frozenAt HO.out k
                have HON := Lib.hid (World.ownsRow.stored HO.out k (.int .u8 51)).1
                have HBN := Lib.hid (HB.out.setCell (p := ⟨g7, k, none⟩) hge (.int .u8 51))
                clear hx0 HO HB hlx
                go_wp2_with fail
                exact ⟨⟨k + 1, _, int_eq (by omega), by omega, HON, HBN⟩, by simp [intOf]; omega⟩
              · have hkm : k = m := by omega
                subst hkm
                have hst := run_str (n := k) c3 (RdB.below HRB6.out HB.out) hEL.symm
                rw [hSTR] at hst
                have hsm2 := same_r A6 A l l c6 cap wr (by have := HLN.out; unfold maxLen; omega) (by have := HLN.out; unfold maxLen; omega) (RdI.below (OwnI.rd HO6.out) HB.out) (RdI.below (HA1.out.below HW6.out) HB.out) true (by simp)
                rw [HLN.out] at hsm2
                have HS2 := Lib.hid hsm2
                have HWZ := Lib.hid (HW1.out.trans ((HW6.out.trans (HB.out.mono HW6.out.size)).mono HW1.out.size))
                clear hsm2 HO HB
                go_wp2_with fail
                refine HS2.out.mono ?_
                rintro e w9 ⟨rfl, nd9, rfl⟩
                go_wp2_with fail
                go_ret
                exact ⟨rfl, below_drewN HWZ.out _⟩
      · have h0' : (rowE l != 0) = true := by simpa using h0
        generalize rowE l = er at *
        have HA4 := Lib.hid (HA1.out.below HW4.out)
        go_wp2_with fail
        refine (HSM.out _ HK4.out HA4.out).mono ?_
        rintro e w5 ⟨rfl, nd2, rfl⟩
        go_wp2_with fail
        go_ret
        exact ⟨rfl, below_drewN (HW1.out.trans (HW4.out.mono HW1.out.size)) _⟩
end Go.Proofs.Ytikiahonhbpchaa
