/-
  Walk: the law FieldItems: of every list of bytes Items and First tell what the chapter does.
-/
import Derived.Test.YtikiahonhbpchaaFieldN
namespace Go.Proofs.Ytikiahonhbpchaa
open Go.RowKit Fld
set_option linter.unusedVariables false
set_option linter.unusedSimpArgs false
attribute [local go_sem ↓] Go.wp_at_zero Go.wp_at_succ

/-- the items of bytes, and the error -/
def itemsL (b : List UInt8) : List It := (items b 0).getD []
def itemsE (b : List UInt8) : Int := if (items b 0).isSome then 0 else 2
theorem items_form {base : Nat} {b : List UInt8} {w w' : World} {e : Ending} (h : ItemsSpec base b w e w') :
    ∃ A' c', e = .returned (.tuple #[.slice A' (itemsL b).length c', .int .i64 (itemsE b)]) ∧ OwnI w' base A' c' (itemsL b) ∧ Below base w w' := by
  unfold ItemsSpec at h
  unfold itemsL itemsE
  cases hi : items b 0 with
  | none =>
    rw [hi] at h
    obtain ⟨rfl, hb⟩ := h
    exact ⟨none, 0, rfl, OwnI.nil _ _, hb⟩
  | some l =>
    rw [hi] at h
    exact h
theorem items_len (b : List UInt8) : (itemsL b).length ≤ 4000 := by
  unfold itemsL
  cases hi : items b 0 with
  | none => simp
  | some l =>
    have := (items_canon b 0 (by omega) l hi).2.2
    simpa using this
theorem eqI_refl (x : It) : eqI x x = true := (eqI_iff x x).2 rfl
set_option maxRecDepth 100000 in
set_option maxHeartbeats 1000000 in
theorem FieldItems_walk (A : Option Addr) (b : List UInt8) (cap : Nat) (w : World) (hm : b.length ≤ maxLen) (hcap : b.length ≤ cap) (h : RdB w A b) :
    Calls Try.prog 3 #[.slice A b.length cap] w fun e w' => e = .returned (.bool true) ∧ Below w.heap.size w w' := by
  have HM := Lib.hid hm
  unfold maxLen at hm
  have H := Lib.hid h; clear h
  have hil := items_len b
  go_enter Try.func3, Try.ntmps3
  go_wp2_with fail
  refine (sound_any w).mono ?_
  rintro e w1 ⟨rfl, hb1⟩
  have HB1 := Lib.hid hb1
  have H1 := Lib.hid (H.out.below hb1)
  clear hb1
  have hst := run_str cap H1.out rfl
  go_wp2_with fail
  clear hst
  refine (docitems_any b w1 HM.out).mono ?_
  intro e w2 hi
  obtain ⟨A2, c2, rfl, hown2, hb2⟩ := items_form hi
  clear hi
  have HO2 := Lib.hid hown2
  have HB2 := Lib.hid (HB1.out.trans (hb2.mono HB1.out.size))
  have H2 := Lib.hid (H1.out.below hb2)
  clear hown2 hb2
  go_wp2_with fail
  refine (items_any A b cap w2 HM.out hcap H2.out).mono ?_
  intro e w3 hi
  obtain ⟨A3, c3, rfl, hown3, hb3⟩ := items_form hi
  clear hi
  have HO3 := Lib.hid hown3
  have HO2 := Lib.hid (OwnI.below HO2.out hb3)
  have HB3 := Lib.hid (HB2.out.trans (hb3.mono HB2.out.size))
  have H3 := Lib.hid (H2.out.below hb3)
  clear hown3 hb3 HB1 HB2 H1 H2 H
  go_wp2_with fail
  refine (first_any A b cap w3 HM.out hcap H3.out).mono ?_
  rintro e w4 ⟨rfl, hb4⟩
  have HO3 := Lib.hid (OwnI.below HO3.out hb4)
  have HO2 := Lib.hid (OwnI.below HO2.out hb4)
  have HB4 := Lib.hid (HB3.out.trans (hb4.mono HB3.out.size))
  have H4 := Lib.hid (H3.out.below hb4)
  clear hb4 HB3 H3
  have hst := fun W hW => run_str (w := W) cap (hW : RdB W A b) rfl
  generalize hFP : firstP b = fp at *
  obtain ⟨⟨ik, inn, is⟩, n, er⟩ := fp
  unfold tri It.v
  simp only
  have hst := run_str cap (H4.out.below ((Below.refl w4.heap.size w4).alloc (Nat.le_refl _) (.cells #[.int .i64 ik, .int .i64 inn, .string ⟨is.toArray⟩] 30))) rfl
  go_wp2_with fail
  clear hst
  have hdf := docfirst_any ⟨b.toArray⟩ (w4.alloc (.cells #[.int .i64 ik, .int .i64 inn, .string ⟨is.toArray⟩] 30)) (by rw [str_size]; exact HM.out)
  unfold DFirst at hdf
  rw [str_of, hFP] at hdf
  unfold tri It.v at hdf
  simp only at hdf
  refine hdf.mono ?_
  clear hdf hst
  rintro e w5 ⟨rfl, hb5⟩
  have hbx := (Blk.new w4 30 #[.int .i64 ik, .int .i64 inn, .string ⟨is.toArray⟩]).below hb5 (by simp)
  have hbx := hbx.alloc (.cells #[.int .i64 ik, .int .i64 inn, .string ⟨is.toArray⟩] 30)
  have c0 := hbx.cell 0
  have c1 := hbx.cell 1
  have c2' := hbx.cell 2
  simp at c0 c1 c2'
  have hb45 := (boxIt_below w4 (.int .i64 ik) (.int .i64 inn) (.string ⟨is.toArray⟩)).trans (hb5.mono (by simp))
  have hb56 := (boxIt_below w5 (.int .i64 ik) (.int .i64 inn) (.string ⟨is.toArray⟩))
  have HO3 := Lib.hid (OwnI.below (OwnI.below HO3.out hb45) hb56)
  have HO2 := Lib.hid (OwnI.below (OwnI.below HO2.out hb45) hb56)
  have HB6 := Lib.hid ((HB4.out.trans (hb45.mono HB4.out.size)).trans (hb56.mono (Nat.le_trans HB4.out.size hb45.size)))
  clear hb45 hb56 hbx hb5 HB4 H4
  have hee : (itemsE b == itemsE b) = true := by simp
  have HQ := Lib.hid (fun W => run_eql_item ⟨ik, inn, is⟩ ⟨ik, inn, is⟩ W)
  have hgd := guard_item
  go_wp2_with fail
  refine (same_any A3 A2 (itemsL b) (itemsL b) c3 c2 _ (by unfold maxLen; omega) (by unfold maxLen; omega) (OwnI.rd HO3.out) (OwnI.rd HO2.out)).mono ?_
  rintro e w6 ⟨r, nd, rfl, hr, rfl⟩
  have hr' : r = true := hr.2 rfl
  subst hr'
  have hq := HQ.out
  rw [eqI_refl] at hq
  try simp only at hq
  go_wp2_with fail
  go_ret
  exact ⟨rfl, below_drewN HB6.out _⟩
end Go.Proofs.Ytikiahonhbpchaa
