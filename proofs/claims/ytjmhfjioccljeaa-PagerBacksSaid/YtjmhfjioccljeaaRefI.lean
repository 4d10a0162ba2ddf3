/-
  Walk of the reference's Ints: the same lists?
-/
import Derived.Test.YtjmhfjioccljeaaInts
import Derived.BigQuiet
import Derived.Deep.RegionHeld3
import Derived.Deep.DrawnRows
import Derived.Handy
namespace Go.Proofs.Ytjmhfjioccljeaa
open Go.RowKit
set_option linter.unusedVariables false
set_option linter.unusedSimpArgs false
attribute [local go_sem ↓] Go.wp_at_zero Go.wp_at_succ

/-- what a function that reads two rows leaves -/
def QuietB (b : Bool) (w : World) (e : Ending) (w' : World) : Prop := e = .returned (.bool b) ∧ ∃ n, w' = w.drewN n
theorem ints_ne {a b : List Int} {j : Nat} (hl : a.length = b.length) (hj : j < a.length) (h : a.getD j 0 ≠ b.getD j 0) : decide (a = b) = false := by
  rw [decide_eq_false_iff_not]; rintro rfl; exact h rfl
theorem ints_eq {a b : List Int} (hl : a.length = b.length) (h : ∀ j, j < a.length → a.getD j 0 = b.getD j 0) : decide (a = b) = true := by
  rw [decide_eq_true_iff]
  apply List.ext_getElem hl
  intro i h1 h2
  have := h i h1
  rwa [getD_eq _ _ _ h1, getD_eq _ _ _ h2] at this
set_option maxRecDepth 100000 in
set_option maxHeartbeats 1000000 in
theorem ints_any (A B : Option Addr) (a b : List Int) (ca cb : Nat) (w : World) (ha : RdZ w A a) (hb : RdZ w B b) (hla : a.length ≤ maxLen) (hlb : b.length ≤ maxLen) :
    Calls Try.prog 42 #[.slice A a.length ca, .slice B b.length cb] w fun e w' => QuietB (decide (a = b)) w e w' := by
  unfold maxLen at hla hlb
  have HA := Lib.hid ha
  have HB := Lib.hid hb
  obtain ⟨n, hn⟩ : ∃ n, a.length = n := ⟨_, rfl⟩
  have HN : Hid (a.length = n) := Lib.hid hn
  obtain ⟨m, hm⟩ : ∃ m, b.length = m := ⟨_, rfl⟩
  have HM : Hid (b.length = m) := Lib.hid hm
  rw [hn] at hla ⊢
  rw [hm] at hlb ⊢
  clear ha hb hn hm
  by_cases hl : n = m
  · have hne : ((n : Int) != (m : Int)) = false := by rw [bne_eq_false_iff_eq]; omega
    have HL := Lib.hid hl
    clear hl
    go_enter Try.func42, Try.ntmps42
    go_wp2
    go_loopw [5] (fun i wr => ∃ j : Nat, i = .int .i64 (j : Int) ∧ j ≤ n ∧ Hid (∀ k, k < j → a.getD k 0 = b.getD k 0) ∧ Hid (∃ q, wr = w.drewN q)) (fun i _ => n - (RowKit.intOf i).toNat)
    case atStart => exact ⟨0, rfl, Nat.zero_le _, Lib.hid fun k hk => by omega, Lib.hid ⟨0, rfl⟩⟩
    case round =>
      obtain ⟨j, rfl, hj, HE, HW⟩ := hrel
      by_cases hlt : j < n
      · obtain ⟨q, hq⟩ := HW.out
        have HQ := Lib.hid hq
        obtain ⟨ad, rfl, c1⟩ := (show RdZ wr A a by rw [hq]; exact HA.out).at_ (k := j) (by rw [HN.out]; exact hlt)
        obtain ⟨bd, rfl, c2⟩ := (show RdZ wr B b by rw [hq]; exact HB.out).at_ (k := j) (by rw [HM.out, ← HL.out]; exact hlt)
        have hjm : (j : Int) < (m : Int) := by have := HL.out; omega
        have hjn : (j : Int) < (n : Int) := by omega
        obtain ⟨x, hx⟩ : ∃ x, a.getD j 0 = x := ⟨_, rfl⟩
        have HX : Hid (a.getD j 0 = x) := Lib.hid hx
        obtain ⟨y, hy⟩ : ∃ y, b.getD j 0 = y := ⟨_, rfl⟩
        have HY : Hid (b.getD j 0 = y) := Lib.hid hy
        rw [hx] at c1
        rw [hy] at c2
        clear hx hy hq
        by_cases hxy : x = y
        · have hb1 : (x != y) = false := by simpa using hxy
          have HXY := Lib.hid hxy
          clear hxy
          go_wp2
          go_quiet (fail)
          go_wp2
          refine ⟨⟨j + 1, int_eq (by omega), by omega, Lib.hid fun k hk => ?_, Lib.hid ⟨q + nq, by rw [HQ.out, World.drewN_drewN]⟩⟩, by simp [RowKit.intOf]; omega⟩
          by_cases hkj : k = j
          · subst hkj; rw [HX.out, HY.out]; exact HXY.out
          · exact HE.out k (by omega)
        · have hb1 : (x != y) = true := by simpa using hxy
          have HD : Hid (decide (a = b) = false) := Lib.hid (ints_ne (j := j) (by rw [HN.out, HM.out]; exact HL.out) (by rw [HN.out]; exact hlt) (by rw [HX.out, HY.out]; exact hxy))
          clear hxy
          go_wp2
          go_quiet (fail)
          go_wp2
          go_ret
          unfold QuietB
          rw [HD.out]
          exact ⟨rfl, q + nq, by rw [HQ.out, World.drewN_drewN]⟩
      · have hje : j = n := by omega
        have HD : Hid (decide (a = b) = true) := Lib.hid (ints_eq (by rw [HN.out, HM.out]; exact HL.out) fun k hk => HE.out k (by rw [HN.out] at hk; omega))
        go_wp2
        go_ret
        unfold QuietB
        rw [HD.out]
        exact ⟨rfl, HW.out⟩
  · have hne : ((n : Int) != (m : Int)) = true := by rw [bne_iff_ne]; omega
    have HD : Hid (decide (a = b) = false) := Lib.hid (by
      rw [decide_eq_false_iff_not]; rintro rfl; exact hl (by rw [← HN.out, ← HM.out]))
    clear hl
    go_enter Try.func42, Try.ntmps42
    go_wp2
    go_ret
    unfold QuietB
    rw [HD.out]
    exact ⟨rfl, 0, rfl⟩
end Go.Proofs.Ytjmhfjioccljeaa
