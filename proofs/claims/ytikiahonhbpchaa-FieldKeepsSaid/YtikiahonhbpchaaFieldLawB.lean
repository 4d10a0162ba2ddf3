/-
  Walk: the law FieldSingle: what Items takes is a row that has just these bytes: no row has a second form.
-/
import Derived.Test.YtikiahonhbpchaaFieldLawA
namespace Go.Proofs.Ytikiahonhbpchaa
open Go.RowKit Fld
set_option linter.unusedVariables false
set_option linter.unusedSimpArgs false
attribute [local go_sem ↓] Go.wp_at_zero Go.wp_at_succ

/-- what Items takes -/
theorem items_some {b : List UInt8} (h : itemsE b = 0) : encs (itemsL b) = b ∧ (∀ i ∈ itemsL b, Fld.Good i ∧ Ranged i) ∧ (itemsL b).length ≤ 4000 := by
  unfold itemsE at h
  unfold itemsL
  cases hi : items b 0 with
  | none => rw [hi] at h; simp at h
  | some l =>
    have := items_canon b 0 (by omega) l hi
    exact ⟨this.1, this.2.1, by simpa using this.2.2⟩
theorem items_cases (b : List UInt8) : itemsE b = 0 ∨ (itemsE b = 2 ∧ itemsL b = []) := by
  unfold itemsE itemsL
  cases hi : items b 0 with
  | none => right; simp
  | some l => left; simp
theorem good_str {l : List It} (h : ∀ i ∈ l, Fld.Good i ∧ Ranged i) : ∀ i ∈ l, i.str.length ≤ maxLen ∧ Ranged i := fun i hi => by
  refine ⟨?_, (h i hi).2⟩
  rcases good_cases (h i hi).1 with ⟨_, h2⟩ | ⟨_, _, h3⟩
  · rw [h2]; simp
  · unfold maxLen; omega
theorem row_of_good {l : List It} (h : ∀ i ∈ l, Fld.Good i ∧ Ranged i) (hl : l.length ≤ 4000) : rowE l = 0 ∧ rowB l = encs l := by
  have hE : rowE l = 0 := by
    unfold rowE
    rw [if_neg (by omega)]
    exact (worst_zero _).2 fun i hi => (h i hi).1
  exact ⟨hE, by unfold rowB; rw [if_pos hE]⟩
theorem same_r (A B : Option Addr) (a b : List It) (ca cb : Nat) (w : World) (hma : a.length ≤ maxLen) (hmb : b.length ≤ maxLen) (hA : RdI w A a) (hB : RdI w B b) (r : Bool) (hr : r = true ↔ a = b) :
    Calls Try.prog 15 #[.slice A a.length ca, .slice B b.length cb] w fun e w' => e = .returned (.bool r) ∧ ∃ m, w' = w.drewN m := by
  refine (same_any A B a b ca cb w hma hmb hA hB).mono ?_
  rintro e w' ⟨r', n, rfl, hr', rfl⟩
  have : r' = r := by
    cases r <;> cases r' <;> simp_all
  subst this
  exact ⟨rfl, n, rfl⟩
theorem str_beq_ (s t : List UInt8) : ((⟨s.toArray⟩ : ByteArray).toList == (⟨t.toArray⟩ : ByteArray).toList) = (s == t) := str_beq s t
set_option maxRecDepth 100000 in
set_option maxHeartbeats 1000000 in
theorem FieldSingle_walk (A B : Option Addr) (b o : List UInt8) (ca cb : Nat) (w : World) (hmb : b.length ≤ maxLen) (hmo : o.length ≤ maxLen) (hca : b.length ≤ ca) (hcb : o.length ≤ cb) (ha : RdB w A b) (hb : RdB w B o) :
    Calls Try.prog 5 #[.slice A b.length ca, .slice B o.length cb] w fun e w' => e = .returned (.bool true) ∧ Below w.heap.size w w' := by
  have HMB := Lib.hid hmb
  have HMO := Lib.hid hmo
  unfold maxLen at hmb hmo
  have HA := Lib.hid ha; clear ha
  have HB := Lib.hid hb; clear hb
  have hil := items_len b
  have hio := items_len o
  go_enter Try.func5, Try.ntmps5
  go_wp2_with fail
  refine (sound_any w).mono ?_
  rintro e w1 ⟨rfl, hb1⟩
  have HW1 := Lib.hid hb1
  have HA1 := Lib.hid (HA.out.below hb1)
  have HB1 := Lib.hid (HB.out.below hb1)
  clear hb1 HA HB
  go_wp2_with fail
  refine (items_any A b ca w1 HMB.out hca HA1.out).mono ?_
  intro e w2 hi
  obtain ⟨A2, c2, rfl, hown2, hb2⟩ := items_form hi
  clear hi
  have HO2 := Lib.hid hown2
  have HW2 := Lib.hid (HW1.out.trans (hb2.mono HW1.out.size))
  have HA2 := Lib.hid (HA1.out.below hb2)
  have HB2 := Lib.hid (HB1.out.below hb2)
  clear hown2 hb2 HW1 HA1 HB1
  by_cases h0 : itemsE b = 0
  · obtain ⟨hen, hgd, _⟩ := items_some h0
    obtain ⟨hre, hrb⟩ := row_of_good hgd hil
    have HEN := Lib.hid hen
    have HGD := Lib.hid hgd
    rw [hen] at hrb
    rw [h0]
    clear hgd hen
    go_wp2_with fail
    refine (row_any A2 (itemsL b) c2 w2 (by unfold maxLen; omega) (OwnI.rd HO2.out) (good_str HGD.out)).mono ?_
    rintro e w3 ⟨A3, c3, rfl, hown3, hb3⟩
    rw [hrb] at hown3
    rw [hrb, hre]
    have HO3 := Lib.hid hown3
    have HI2 := Lib.hid (OwnI.below HO2.out hb3)
    have HW3 := Lib.hid (HW2.out.trans (hb3.mono HW2.out.size))
    have HA3 := Lib.hid (HA2.out.below hb3)
    have HB3 := Lib.hid (HB2.out.below hb3)
    clear hown3 hb3 HW2 HA2 HB2 HO2 hrb hre
    have hst := run_str c3 (OwnB.rd HO3.out) rfl
    have hst2 := run_str ca HA3.out rfl
    go_wp2_with fail
    clear hst hst2
    refine (items_any B o cb w3 HMO.out hcb HB3.out).mono ?_
    intro e w4 hi
    obtain ⟨A4, c4, rfl, hown4, hb4⟩ := items_form hi
    clear hi
    have HO4 := Lib.hid hown4
    have HI4 := Lib.hid (OwnI.below HI2.out hb4)
    have HW4 := Lib.hid (HW3.out.trans (hb4.mono HW3.out.size))
    have HA4 := Lib.hid (HA3.out.below hb4)
    have HB4 := Lib.hid (HB3.out.below hb4)
    clear hown4 hb4 HW3 HA3 HB3 HI2 HO3
    rcases items_cases o with h1 | ⟨h1, h2⟩
    · have hiff : itemsL b = itemsL o ↔ b = o := by
        constructor
        · intro h
          rw [← HEN.out, ← (items_some h1).1, h]
        · intro h; rw [h]
      have hst := fun W (h : RdB W A b) => run_str ca h rfl
      have hst2 := fun W (h : RdB W B o) => run_str cb h rfl
      have HSR := Lib.hid (same_r A2 A4 (itemsL b) (itemsL o) c2 c4 w4.drew (by unfold maxLen; omega) (by unfold maxLen; omega) (OwnI.rd HI4.out) (OwnI.rd HO4.out) (b == o) (by rw [beq_iff_eq, hiff]))
      have hsb := str_beq b o
      rw [h1]
      clear hiff
      generalize (⟨b.toArray⟩ : ByteArray) = SB at *
      generalize (⟨o.toArray⟩ : ByteArray) = SO at *
      generalize (b == o) = r at *
      go_wp2_with fail
      go_region_held3 (fun W => RdB W A b ∧ RdB W B o) (exact ⟨HA4.out, HB4.out⟩) (first
        | (go_at_call 15; refine HSR.out.mono ?_; rintro e w' ⟨rfl, n, rfl⟩))
      go_wp2_with fail
      go_ret
      exact ⟨by simp [Act.put], below_drewN HW4.out _⟩
    · rw [h1, h2]
      go_wp2_with fail
      go_quiet (fail)
      go_wp2_with fail
      go_ret
      exact ⟨rfl, below_drewN HW4.out _⟩
  · rcases items_cases b with h1 | ⟨h1, h2⟩
    · exact (h0 h1).elim
    · rw [h1, h2]
      go_wp2_with fail
      go_ret
      exact ⟨rfl, HW2.out⟩
end Go.Proofs.Ytikiahonhbpchaa
