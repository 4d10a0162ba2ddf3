/-
  Walk: the law FieldRows: of every list Row tells the bytes of the chapter's table, or its error; of each item alone Size tells their count.
-/
import Derived.Test.YtikiahonhbpchaaFieldLawF
namespace Go.Proofs.Ytikiahonhbpchaa
open Go.RowKit Fld
set_option linter.unusedVariables false
set_option linter.unusedSimpArgs false
attribute [local go_sem ↓] Go.wp_at_zero Go.wp_at_succ

/-- the bytes of the items that have some -/
def itB (l : List It) : List UInt8 := l.flatMap itemB
theorem itB_succ (l : List It) (j : Nat) (hj : j < l.length) : itB (l.take (j + 1)) = itB (l.take j) ++ itemB (l.getD j none_) := by
  rw [take_snoc l j hj, getD_eq l j none_ hj]
  unfold itB
  rw [List.flatMap_append]; simp
theorem itB_good (l : List It) (h : ∀ i ∈ l, check i = 0) : itB l = encs l := by
  induction l with
  | nil => rfl
  | cons i l ih =>
    have h1 := ih fun j hj => h j (by simp [hj])
    have h2 : itemB i = enc i := by unfold itemB; rw [if_pos (h i (by simp))]
    have e1 : itB (i :: l) = itemB i ++ itB l := by simp [itB]
    have e2 : encs (i :: l) = enc i ++ encs l := by simp [encs]
    rw [e1, e2, h1, h2]
theorem sizeP_item (i : It) : sizeP i = ((itemB i).length, check i) := by
  unfold sizeP itemB
  by_cases h : check i = 0
  · rw [if_pos h, if_pos h, h]
  · rw [if_neg h, if_neg h]; rfl
theorem itemB_le (i : It) (hr : Ranged i) : (itemB i).length ≤ 50005 := by
  unfold itemB
  by_cases h : check i = 0
  · rw [if_pos h]; exact enc_le i h hr
  · rw [if_neg h]; simp
theorem itB_le (l : List It) (h : ∀ i ∈ l, Ranged i) : (itB l).length ≤ 50005 * l.length := by
  induction l with
  | nil => simp [itB]
  | cons i l ih =>
    have h1 := ih fun j hj => h j (by simp [hj])
    have h2 := itemB_le i (h i (by simp))
    have : itB (i :: l) = itemB i ++ itB l := by simp [itB]
    rw [this, List.length_append, List.length_cons]; omega
theorem good_succ (l : List It) (j : Nat) (hj : j < l.length) : (∀ i ∈ l.take (j + 1), check i = 0) ↔ ((∀ i ∈ l.take j, check i = 0) ∧ check (l.getD j none_) = 0) := by
  rw [take_snoc l j hj, getD_eq l j none_ hj]
  constructor
  · intro h
    exact ⟨fun i hi => h i (List.mem_append.2 (.inl hi)), h _ (List.mem_append.2 (.inr (List.mem_singleton.2 rfl)))⟩
  · rintro ⟨h1, h2⟩ i hi
    rcases List.mem_append.1 hi with hi | hi
    · exact h1 i hi
    · rw [List.mem_singleton] at hi; subst hi; exact h2
set_option maxRecDepth 100000 in
set_option maxHeartbeats 2000000 in
theorem FieldRows_walk (A : Option Addr) (l : List It) (cap : Nat) (w : World) (hm : l.length ≤ maxLen) (hcap : l.length ≤ cap) (hA : RdI w A l) (hl : ∀ i ∈ l, i.str.length ≤ maxLen ∧ Ranged i) :
    Calls Try.prog 8 #[.slice A l.length cap] w fun e w' => e = .returned (.bool true) ∧ Below w.heap.size w w' := by
  have HM := Lib.hid hm
  unfold maxLen at hm
  have HA := Lib.hid hA; clear hA
  have HL := Lib.hid hl; clear hl
  go_enter Try.func8, Try.ntmps8
  go_wp2_with fail
  refine (sound_any w).mono ?_
  rintro e w1 ⟨rfl, hb1⟩
  have HW1 := Lib.hid hb1
  have HA1 := Lib.hid (HA.out.below hb1)
  clear hb1
  go_wp2_with fail
  refine (docrow_any A l cap w1 HM.out HA1.out HL.out).mono ?_
  rintro e w2 ⟨rfl, hb2⟩
  have HW2 := Lib.hid (HW1.out.trans (hb2.mono HW1.out.size))
  have HA2 := Lib.hid (HA1.out.below hb2)
  clear hb2 HW1 HA1
  unfold twoS
  go_wp2_with fail
  refine (row_any A l cap w2 HM.out HA2.out HL.out).mono ?_
  rintro e w3 ⟨A3, c3, rfl, hown3, hb3⟩
  have HO3 := Lib.hid hown3
  have HW3 := Lib.hid (HW2.out.trans (hb3.mono HW2.out.size))
  have HA3 := Lib.hid (HA2.out.below hb3)
  clear hown3 hb3 HW2 HA2
  have hst := run_str c3 (OwnB.rd HO3.out) rfl
  have hee : (rowE l != rowE l) = false := by simp
  have HRB : Hid (l.length ≤ 4000 → (∀ i ∈ l, check i = 0) → rowB l = itB l) := Lib.hid fun h1 h2 => by
    have hE : rowE l = 0 := by
      unfold rowE
      rw [if_neg (by omega)]
      exact (worst_zero l).2 h2
    unfold rowB
    rw [if_pos hE, itB_good l h2]
  generalize rowE l = er at *
  generalize hrbb : rowB l = rb at *
  generalize (⟨rb.toArray⟩ : ByteArray) = T at *
  go_wp2_with fail
  clear hst HO3
  by_cases h4 : l.length ≤ 4000
  · go_loopw [7, 8, 9] (fun s r i wr => ∃ (j : Nat) (rr : Bool), i = .int .i64 (j : Int) ∧ r = .bool rr ∧ s = .int .i64 (((itB (l.take j)).length : Nat) : Int) ∧ j ≤ l.length ∧ Hid (rr = true ↔ ∀ i ∈ l.take j, check i = 0) ∧ Hid (Below w.heap.size w wr)) (fun _ _ i _ => l.length - (intOf i).toNat)
    case atStart => exact ⟨0, true, rfl, rfl, rfl, Nat.zero_le _, Lib.hid (by simp), HW3⟩
    case round =>
      obtain ⟨j, rr, rfl, rfl, rfl, hj, HR, HW⟩ := hrel
      by_cases hlt : j < l.length
      · obtain ⟨ad, rfl⟩ := HA.out.some_ (by omega)
        obtain ⟨_, e, c0, c1, c2⟩ := (HA.out.below HW.out).cells hlt
        cases e
        have hmem : l.getD j none_ ∈ l := by rw [getD_eq _ _ _ hlt]; exact List.getElem_mem hlt
        have HI := Lib.hid (HL.out _ hmem)
        have HG := Lib.hid (good_succ l j hlt)
        have HS := Lib.hid (itB_succ l j hlt)
        have hbd := itB_le (l.take j) fun i hi => (HL.out i (List.mem_of_mem_take hi)).2
        have htl : (l.take j).length = j := by rw [List.length_take]; omega
        rw [htl] at hbd
        generalize itB (l.take j) = P at *
        generalize hit : l.getD j none_ = it at *
        clear hmem
        go_wp2_with fail
        refine (item_any it HI.out.1 HI.out.2 _).mono ?_
        rintro e w5 ⟨rfl, hb5⟩
        obtain ⟨_, e, d0, d1, d2⟩ := (HA.out.below (HW.out.trans (hb5.mono HW.out.size))).cells hlt
        cases e
        rw [hit] at d0 d1 d2
        have HW5 := Lib.hid (HW.out.trans (hb5.mono HW.out.size))
        clear hb5 HW c0 c1 c2
        unfold twoS
        go_wp2_with fail
        refine (size_any it HI.out.1 HI.out.2 _).mono ?_
        rintro e w6 ⟨rfl, hb6⟩
        have HW6 := Lib.hid (HW5.out.trans (hb6.mono HW5.out.size))
        clear hb6 HW5 d0 d1 d2
        rw [sizeP_item]
        unfold two
        have hce : (check it != check it) = false := by simp
        have hbl := str_size (itemB it)
        have hib := itemB_le it HI.out.2
        generalize itemB it = ib at *
        generalize (⟨ib.toArray⟩ : ByteArray) = IB at *
        by_cases hc : check it = 0
        · have hc' : (check it == 0) = true := by simpa using hc
          generalize check it = ck at *
          cases rr with
          | true =>
            have HNN : Hid (∀ i ∈ l.take (j + 1), check i = 0) := Lib.hid (HG.out.2 ⟨HR.out.1 rfl, hc⟩)
            clear HR HG hc
            go_wp2_with fail
            exact ⟨⟨j + 1, true, int_eq (by omega), rfl, int_eq (by rw [HS.out, List.length_append]; omega), by omega, Lib.hid ⟨fun _ => HNN.out, fun _ => rfl⟩, HW6⟩, by simp [intOf]; omega⟩
          | false =>
            have HN : Hid (false = true ↔ ∀ i ∈ l.take (j + 1), check i = 0) := Lib.hid ⟨(fun h => by cases h), fun h => (HR.out.2 (HG.out.1 h).1)⟩
            clear HR HG hc
            go_wp2_with fail
            exact ⟨⟨j + 1, false, int_eq (by omega), rfl, int_eq (by rw [HS.out, List.length_append]; omega), by omega, HN, HW6⟩, by simp [intOf]; omega⟩
        · have hc' : (check it == 0) = false := by simpa using hc
          have HN : Hid (false = true ↔ ∀ i ∈ l.take (j + 1), check i = 0) := Lib.hid ⟨(fun h => by cases h), fun h => (hc (HG.out.1 h).2).elim⟩
          generalize check it = ck at *
          cases rr with
          | true =>
            clear HR HG hc
            go_wp2_with fail
            exact ⟨⟨j + 1, false, int_eq (by omega), rfl, int_eq (by rw [HS.out, List.length_append]; omega), by omega, HN, HW6⟩, by simp [intOf]; omega⟩
          | false =>
            clear HR HG hc
            go_wp2_with fail
            exact ⟨⟨j + 1, false, int_eq (by omega), rfl, int_eq (by rw [HS.out, List.length_append]; omega), by omega, HN, HW6⟩, by simp [intOf]; omega⟩
      · have hjl : j = l.length := by omega
        subst hjl
        rw [List.take_length] at HR ⊢
        cases rr with
        | true =>
          have hrb := HRB.out h4 (HR.out.1 rfl)
          rw [← hrb]
          go_wp2_with fail
          go_ret
          exact ⟨rfl, HW.out⟩
        | false =>
          go_wp2_with fail
          go_ret
          exact ⟨rfl, HW.out⟩
  · go_loopw [7, 8, 9] (fun s r i wr => ∃ (j : Nat) (rr : Bool) (t : Int), i = .int .i64 (j : Int) ∧ r = .bool rr ∧ s = .int .i64 t ∧ j ≤ l.length ∧ Hid (rr = true ↔ ∀ i ∈ l.take j, check i = 0) ∧ Hid (Below w.heap.size w wr)) (fun _ _ i _ => l.length - (intOf i).toNat)
    case atStart => exact ⟨0, true, 0, rfl, rfl, rfl, Nat.zero_le _, Lib.hid (by simp), HW3⟩
    case round =>
      obtain ⟨j, rr, t, rfl, rfl, rfl, hj, HR, HW⟩ := hrel
      by_cases hlt : j < l.length
      · obtain ⟨ad, rfl⟩ := HA.out.some_ (by omega)
        obtain ⟨_, e, c0, c1, c2⟩ := (HA.out.below HW.out).cells hlt
        cases e
        have hmem : l.getD j none_ ∈ l := by rw [getD_eq _ _ _ hlt]; exact List.getElem_mem hlt
        have HI := Lib.hid (HL.out _ hmem)
        have HG := Lib.hid (good_succ l j hlt)
        generalize hit : l.getD j none_ = it at *
        clear hmem
        go_wp2_with fail
        refine (item_any it HI.out.1 HI.out.2 _).mono ?_
        rintro e w5 ⟨rfl, hb5⟩
        obtain ⟨_, e, d0, d1, d2⟩ := (HA.out.below (HW.out.trans (hb5.mono HW.out.size))).cells hlt
        cases e
        rw [hit] at d0 d1 d2
        have HW5 := Lib.hid (HW.out.trans (hb5.mono HW.out.size))
        clear hb5 HW c0 c1 c2
        unfold twoS
        go_wp2_with fail
        refine (size_any it HI.out.1 HI.out.2 _).mono ?_
        rintro e w6 ⟨rfl, hb6⟩
        have HW6 := Lib.hid (HW5.out.trans (hb6.mono HW5.out.size))
        clear hb6 HW5 d0 d1 d2
        rw [sizeP_item]
        unfold two
        have hce : (check it != check it) = false := by simp
        have hbl := str_size (itemB it)
        have hib := itemB_le it HI.out.2
        generalize itemB it = ib at *
        generalize (⟨ib.toArray⟩ : ByteArray) = IB at *
        by_cases hc : check it = 0
        · have hc' : (check it == 0) = true := by simpa using hc
          generalize check it = ck at *
          cases rr with
          | true =>
            have HNN : Hid (∀ i ∈ l.take (j + 1), check i = 0) := Lib.hid (HG.out.2 ⟨HR.out.1 rfl, hc⟩)
            clear HR HG hc
            go_wp2_with fail
            exact ⟨⟨j + 1, true, _, int_eq (by omega), rfl, rfl, by omega, Lib.hid ⟨fun _ => HNN.out, fun _ => rfl⟩, HW6⟩, by simp [intOf]; omega⟩
          | false =>
            have HN : Hid (false = true ↔ ∀ i ∈ l.take (j + 1), check i = 0) := Lib.hid ⟨(fun h => by cases h), fun h => (HR.out.2 (HG.out.1 h).1)⟩
            clear HR HG hc
            go_wp2_with fail
            exact ⟨⟨j + 1, false, _, int_eq (by omega), rfl, rfl, by omega, HN, HW6⟩, by simp [intOf]; omega⟩
        · have hc' : (check it == 0) = false := by simpa using hc
          have HN : Hid (false = true ↔ ∀ i ∈ l.take (j + 1), check i = 0) := Lib.hid ⟨(fun h => by cases h), fun h => (hc (HG.out.1 h).2).elim⟩
          generalize check it = ck at *
          cases rr with
          | true =>
            clear HR HG hc
            go_wp2_with fail
            exact ⟨⟨j + 1, false, _, int_eq (by omega), rfl, rfl, by omega, HN, HW6⟩, by simp [intOf]; omega⟩
          | false =>
            clear HR HG hc
            go_wp2_with fail
            exact ⟨⟨j + 1, false, _, int_eq (by omega), rfl, rfl, by omega, HN, HW6⟩, by simp [intOf]; omega⟩
      · have hjl : j = l.length := by omega
        subst hjl
        cases rr with
        | true =>
          go_wp2_with fail
          go_ret
          exact ⟨rfl, HW.out⟩
        | false =>
          go_wp2_with fail
          go_ret
          exact ⟨rfl, HW.out⟩
end Go.Proofs.Ytikiahonhbpchaa
