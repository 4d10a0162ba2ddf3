/-
  Walks of package disk: the power's own calls, a disk's bounds and sectors.
-/
import Derived.Test.YtjmhfjioccljeaaDisk
import Derived.Test.YtjmhfjioccljeaaShelf
import Derived.BigQuiet
import Derived.Handy
namespace Go.Proofs.Ytjmhfjioccljeaa
open Go.RowKit
set_option linter.unusedVariables false
set_option linter.unusedSimpArgs false

/-- what a write or a sync finds: the error, and how the power stands then -/
def useP (off : Bool) (arm : Int) : Int × Bool × Int := if off = true ∨ arm = 0 then (4, true, arm) else (0, false, if 0 < arm then arm - 1 else arm)
/-- the power's own cells -/
def PwSelf (w : World) (p : Nat) (sl : Value) (off : Bool) (arm : Int) : Prop :=
  ∃ lf, Blk w p 117 #[sl, .bool off, .bool (decide (0 ≤ arm)), .int .i64 lf] ∧ (0 ≤ arm → lf = arm)
def one (p i : Nat) : Prop := i = p
def UseSpec (p : Nat) (sl : Value) (off : Bool) (arm : Int) (w : World) (e : Ending) (w' : World) : Prop :=
  e = .returned (.int .i64 (useP off arm).1) ∧ PwSelf w' p sl (useP off arm).2.1 (useP off arm).2.2 ∧ Step (one p) (one p) w w'
set_option maxRecDepth 100000 in
theorem use_any (p : Nat) (sl : Value) (off : Bool) (arm : Int) (w : World) (h : PwSelf w p sl off arm) (hlo : -1 ≤ arm ∧ arm ≤ 9223372036854775807) :
    Calls Try.prog 101 #[ob p] w fun e w' => UseSpec p sl off arm w e w' := by
  obtain ⟨lf, hb, hl⟩ := h
  have c0 := hb.cell 0
  have c1 := hb.cell 1
  have c2 := hb.cell 2
  have c3 := hb.cell 3
  have f1 := hb.frozen 1
  have f3 := hb.frozen 3
  simp at c0 c1 c2 c3
  have HB := Lib.hid hb
  clear hb
  by_cases harm : 0 ≤ arm
  · obtain rfl := hl harm
    have hd : decide (0 ≤ lf) = true := by simpa using harm
    rw [hd] at c2
    by_cases h0 : lf = 0
    · subst h0
      cases off
      · go_enter Try.func101, Try.ntmps101
        go_wp2
        go_ret
        exact ⟨rfl, ⟨0, by simpa [useP] using HB.out.set_ 1 (.bool true), by simp [useP]⟩, Step.setCell (a := ⟨p, 1, none⟩) (Step.refl (one p) _) (.inl rfl) _⟩
      · go_enter Try.func101, Try.ntmps101
        go_wp2
        go_ret
        exact ⟨rfl, ⟨0, by simpa [useP] using HB.out.set_ 1 (.bool true), by simp [useP]⟩, Step.setCell (a := ⟨p, 1, none⟩) (Step.refl (one p) _) (.inl rfl) _⟩
    · have h0' : (lf == 0) = false := by simpa using h0
      cases off
      · have hx : 0 < lf := by omega
        have hd1 : decide (0 ≤ lf - 1) = true := by simp; omega
        have HX : Hid (useP false lf = (0, false, lf - 1)) := Lib.hid (by simp [useP, h0, hx])
        have HD : Hid (decide (0 ≤ lf) = true) := Lib.hid hd
        have HD1 := Lib.hid hd1
        clear hd hd1
        go_enter Try.func101, Try.ntmps101
        go_wp2
        go_ret
        unfold UseSpec
        rw [HX.out]
        refine ⟨rfl, ⟨lf - 1, ?_, fun _ => rfl⟩, Step.setCell (a := ⟨p, 3, none⟩) (Step.refl (one p) _) (.inl rfl) _⟩
        rw [HD1.out, ← HD.out]
        simpa using HB.out.set_ 3 (.int .i64 (lf - 1))
      · have HX : Hid (useP true lf = (4, true, lf)) := Lib.hid (by simp [useP])
        go_enter Try.func101, Try.ntmps101
        go_wp2
        go_ret
        unfold UseSpec
        rw [HX.out]
        exact ⟨rfl, ⟨lf, HB.out, fun _ => rfl⟩, Step.refl _ _⟩
  · have hd : decide (0 ≤ arm) = false := by simpa using harm
    rw [hd] at c2
    have hx : ¬ 0 < arm := by omega
    have h0 : ¬ arm = 0 := by omega
    have HA : Hid (¬ 0 ≤ arm) := Lib.hid harm
    clear hl hd
    cases off
    · have HX : Hid (useP false arm = (0, false, arm)) := Lib.hid (by simp [useP, h0, hx])
      go_enter Try.func101, Try.ntmps101
      go_wp2
      go_ret
      unfold UseSpec
      rw [HX.out]
      exact ⟨rfl, ⟨lf, HB.out, fun h => absurd h (by have := HA.out; show ¬ 0 ≤ arm; omega)⟩, Step.refl _ _⟩
    · have HX : Hid (useP true arm = (4, true, arm)) := Lib.hid (by simp [useP])
      go_enter Try.func101, Try.ntmps101
      go_wp2
      go_ret
      unfold UseSpec
      rw [HX.out]
      exact ⟨rfl, ⟨lf, HB.out, fun h => absurd h (by have := HA.out; show ¬ 0 ≤ arm; omega)⟩, Step.refl _ _⟩
/-- a disk's own cells -/
def DkSelf (w : World) (p d fb n mb : Nat) : Prop := Blk w d 120 #[ob p, .slice (some ⟨fb, 0, none⟩) n n, .map (some mb)]
/-- are n bytes from o on there -/
def inB (size : Nat) (o n : Int) : Bool := decide (0 ≤ o ∧ 0 ≤ n ∧ o ≤ size ∧ n ≤ size - o)
set_option maxRecDepth 100000 in
theorem in_any (p d fb mb size : Nat) (o n : Int) (w : World) (h : DkSelf w p d fb size mb) (hs : size ≤ 2097152) (ho : -9223372036854775808 ≤ o ∧ o ≤ 9223372036854775807) (hn : -9223372036854775808 ≤ n ∧ n ≤ 9223372036854775807) :
    Calls Try.prog 71 #[ob d, .int .i64 o, .int .i64 n] w fun e w' => e = .returned (.bool (inB size o n)) ∧ w = w' := by
  have c1 := Blk.cell h 1
  simp at c1
  clear h
  unfold inB
  by_cases h1 : 0 ≤ o
  · by_cases h2 : 0 ≤ n
    · by_cases h3 : o ≤ size
      · have e : decide (0 ≤ o ∧ 0 ≤ n ∧ o ≤ (size : Int) ∧ n ≤ size - o) = decide (n ≤ size - o) := by simp [h1, h2, h3]
        rw [e]
        go_enter Try.func71, Try.ntmps71
        go_wp2
        go_ret
        exact ⟨rfl, rfl⟩
      · have e : decide (0 ≤ o ∧ 0 ≤ n ∧ o ≤ (size : Int) ∧ n ≤ size - o) = false := by simp; omega
        rw [e]
        go_enter Try.func71, Try.ntmps71
        go_wp2
        go_ret
        exact ⟨rfl, rfl⟩
    · have e : decide (0 ≤ o ∧ 0 ≤ n ∧ o ≤ (size : Int) ∧ n ≤ size - o) = false := by simp; omega
      rw [e]
      go_enter Try.func71, Try.ntmps71
      go_wp2
      go_ret
      exact ⟨rfl, rfl⟩
  · have e : decide (0 ≤ o ∧ 0 ≤ n ∧ o ≤ (size : Int) ∧ n ≤ size - o) = false := by simp; omega
    rw [e]
    go_enter Try.func71, Try.ntmps71
    go_wp2
    go_ret
    exact ⟨rfl, rfl⟩
theorem sector_val (fb size s : Nat) : Value.slice (some ⟨fb, s * 128, none⟩) ((s + 1) * 128 - s * 128) (size - s * 128) = .slice (some ⟨fb, 128 * s, none⟩) 128 (size - 128 * s) := by
  have e : (s + 1) * 128 - s * 128 = 128 := by omega
  rw [e, Nat.mul_comm]
set_option maxRecDepth 100000 in
theorem sector_any (p d fb mb size s : Nat) (w : World) (h : DkSelf w p d fb size mb) (hs : size ≤ 2097152) (hs2 : 128 * s + 128 ≤ size) :
    Calls Try.prog 77 #[ob d, .int .i64 (s : Int)] w fun e w' => e = .returned (.slice (some ⟨fb, 128 * s, none⟩) 128 (size - 128 * s)) ∧ w = w' := by
  have c1 := Blk.cell h 1
  simp at c1
  clear h
  go_enter Try.func77, Try.ntmps77
  go_wp2
  go_ret
  exact ⟨congrArg Ending.returned (sector_val fb size s), rfl⟩
end Go.Proofs.Ytjmhfjioccljeaa
