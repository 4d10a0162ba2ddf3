/-
  Walks of the reference's disks: in, act, Arm, NewPower, DocRead, DocSync.
-/
import Derived.Test.YtoompglghjpapaaRk
namespace Go.Proofs.Ytoompglghjpapaa
open Go.RowKit
set_option linter.unusedVariables false
set_option linter.unusedSimpArgs false
attribute [local go_sem ↓] Go.wp_at_zero Go.wp_at_succ

theorem bs_size (l : List UInt8) : (bs l).size = l.length := by simp [bs, ByteArray.size]
theorem bs_extract (l : List UInt8) (i j : Nat) : (bs l).extract i j = bs ((l.drop i).take (j - i)) := by
  apply ByteArray.ext
  rw [ByteArray.data_extract]
  apply Array.ext'
  simp [bs]
theorem bs_cat (a b : List UInt8) : bs a ++ bs b = bs (a ++ b) := by
  apply ByteArray.ext
  rw [ByteArray.data_append]
  apply Array.ext'
  simp [bs]
theorem slice_bs (W : World) (b : List UInt8) (i j : Int) (a k : Nat) (hi : i = a) (hj : j = (a : Int) + k) (hb : a + k ≤ b.length) :
    (Instr.slice 9 (.string (bs b)) (some (.int .i64 i)) (some (.int .i64 j)) none).run Try.prog W = .ok (.string (bs ((b.drop a).take k))) W := by
  have hsz := bs_size b
  subst hi hj
  rw [run_slice_string W 9 _ .i64 .i64 _ _ Try.underlying9 (by omega) (by omega) (by omega), bs_extract]
  have e1 : ((a : Int)).toNat = a := by omega
  have e2 : ((a : Int) + (k : Int)).toNat = a + k := by omega
  rw [e1, e2, Nat.add_sub_cancel_left]
theorem slice_bsh (W : World) (b : List UInt8) (j : Int) (k : Nat) (hj : j = k) (hb : k ≤ b.length) :
    (Instr.slice 9 (.string (bs b)) none (some (.int .i64 j)) none).run Try.prog W = .ok (.string (bs (b.take k))) W := by
  have hsz := bs_size b
  subst hj
  rw [run_slice_string_h W 9 _ Try.underlying9 .i64 _ (by omega) (by omega), bs_extract]
  simp
theorem slice_bsl (W : World) (b : List UInt8) (j : Int) (k : Nat) (hj : j = k) (hb : k ≤ b.length) :
    (Instr.slice 9 (.string (bs b)) (some (.int .i64 j)) none none).run Try.prog W = .ok (.string (bs (b.drop k))) W := by
  subst hj
  have hsz := bs_size b
  rw [run_slice_string_l W 9 _ Try.underlying9 .i64 _ (by omega) (by omega), bs_extract, hsz]
  have e1 : ((k : Int)).toNat = k := by omega
  rw [e1, List.take_of_length_le (by rw [List.length_drop]; exact Nat.le_refl _)]
set_option maxRecDepth 100000 in
theorem rin_any (d size : Nat) (x y z : Value) (s : ByteArray) (o n : Int) (w : World) (h : Blk w d 84 #[x, .string s, y, z]) (hz : s.size = size) (hs : size ≤ 2097152) (ho : -9223372036854775808 ≤ o ∧ o ≤ 9223372036854775807) (hn : -9223372036854775808 ≤ n ∧ n ≤ 9223372036854775807) :
    Calls Try.prog 76 #[ob d, .int .i64 o, .int .i64 n] w fun e w' => e = .returned (.bool (inB size o n)) ∧ w = w' := by
  have c1 := Blk.cell h 1
  simp at c1
  clear h
  unfold inB
  by_cases h1 : 0 ≤ o
  · by_cases h2 : 0 ≤ n
    · by_cases h3 : o ≤ size
      · have e : decide (0 ≤ o ∧ 0 ≤ n ∧ o ≤ (size : Int) ∧ n ≤ size - o) = decide (n ≤ size - o) := by simp [h1, h2, h3]
        rw [e]
        go_enter Try.func76, Try.ntmps76
        go_wp2
        go_ret
        exact ⟨rfl, rfl⟩
      · have e : decide (0 ≤ o ∧ 0 ≤ n ∧ o ≤ (size : Int) ∧ n ≤ size - o) = false := by simp; omega
        rw [e]
        go_enter Try.func76, Try.ntmps76
        go_wp2
        go_ret
        exact ⟨rfl, rfl⟩
    · have e : decide (0 ≤ o ∧ 0 ≤ n ∧ o ≤ (size : Int) ∧ n ≤ size - o) = false := by simp; omega
      rw [e]
      go_enter Try.func76, Try.ntmps76
      go_wp2
      go_ret
      exact ⟨rfl, rfl⟩
  · have e : decide (0 ≤ o ∧ 0 ≤ n ∧ o ≤ (size : Int) ∧ n ≤ size - o) = false := by simp; omega
    rw [e]
    go_enter Try.func76, Try.ntmps76
    go_wp2
    go_ret
    exact ⟨rfl, rfl⟩

/-- the power's own cells -/
def QwSelf (w : World) (p : Nat) (sl : Value) (off : Bool) (arm : Int) : Prop := Blk w p 81 #[sl, .bool off, .int .i64 arm]
def ActSpec (p : Nat) (sl : Value) (off : Bool) (arm : Int) (w : World) (e : Ending) (w' : World) : Prop :=
  e = .returned (.int .i64 (useP off arm).1) ∧ QwSelf w' p sl (useP off arm).2.1 (useP off arm).2.2 ∧ Step (one p) (one p) w w'
set_option maxRecDepth 100000 in
theorem act_any (p : Nat) (sl : Value) (off : Bool) (arm : Int) (w : World) (h : QwSelf w p sl off arm) (hlo : -1 ≤ arm ∧ arm ≤ 9223372036854775807) :
    Calls Try.prog 77 #[ob p] w fun e w' => ActSpec p sl off arm w e w' := by
  have hb : Blk w p _ _ := h
  have c1 := hb.cell 1
  have c2 := hb.cell 2
  have f1 := hb.frozen 1
  have f2 := hb.frozen 2
  simp at c1 c2
  have HB := Lib.hid hb
  clear h hb
  cases off
  · by_cases h0 : arm = 0
    · subst h0
      go_enter Try.func77, Try.ntmps77
      go_wp2
      go_ret
      exact ⟨rfl, by simpa [useP, QwSelf] using HB.out.set_ 1 (.bool true), Step.setCell (a := ⟨p, 1, none⟩) (Step.refl (one p) _) (.inl rfl) _⟩
    · have h0' : (arm == 0) = false := by simpa using h0
      by_cases hx : 0 < arm
      · have HX : Hid (useP false arm = (0, false, arm - 1)) := Lib.hid (by simp [useP, h0, hx])
        go_enter Try.func77, Try.ntmps77
        go_wp2
        go_ret
        unfold ActSpec
        rw [HX.out]
        exact ⟨rfl, by simpa [QwSelf] using HB.out.set_ 2 (.int .i64 (arm - 1)), Step.setCell (a := ⟨p, 2, none⟩) (Step.refl (one p) _) (.inl rfl) _⟩
      · have HX : Hid (useP false arm = (0, false, arm)) := Lib.hid (by simp [useP, h0, hx])
        go_enter Try.func77, Try.ntmps77
        go_wp2
        go_ret
        unfold ActSpec
        rw [HX.out]
        exact ⟨rfl, HB.out, Step.refl _ _⟩
  · have HX : Hid (useP true arm = (4, true, arm)) := Lib.hid (by simp [useP])
    go_enter Try.func77, Try.ntmps77
    go_wp2
    go_ret
    unfold ActSpec
    rw [HX.out]
    exact ⟨rfl, by simpa [QwSelf] using HB.out.set_ 1 (.bool true), Step.setCell (a := ⟨p, 1, none⟩) (Step.refl (one p) _) (.inl rfl) _⟩
set_option maxRecDepth 100000 in
theorem rarm_any (p : Nat) (sl : Value) (off : Bool) (arm n : Int) (w : World) (h : QwSelf w p sl off arm) (hn : -9223372036854775808 ≤ n ∧ n ≤ 9223372036854775807) :
    Calls Try.prog 43 #[ob p, .int .i64 n] w fun e w' => e = .returned (.tuple #[]) ∧ QwSelf w' p sl off (max n (-1)) ∧ Step (one p) (one p) w w' := by
  have hb : Blk w p _ _ := h
  have c2 := hb.cell 2
  have f2 := hb.frozen 2
  simp at c2
  have HB := Lib.hid hb
  clear h hb
  go_enter Try.func43, Try.ntmps43
  go_wp2
  go_end0
  exact ⟨rfl, by simpa [QwSelf] using HB.out.set_ 2 (.int .i64 (max n (-1))), Step.setCell (a := ⟨p, 2, none⟩) (Step.refl (one p) _) (.inl rfl) _⟩
set_option maxRecDepth 100000 in
theorem rpower_any (w : World) : Calls Try.prog 37 #[] w fun e w' => ∃ F, e = .returned (ob w.heap.size) ∧ QwS w' w.heap.size [] ⟨[], false, -1⟩ F ∧ Step No F w w' := by
  go_enter Try.func37, Try.ntmps37
  go_wp2
  go_ret
  refine ⟨_, rfl, ⟨rfl, none, 0, fun _ => No, ⟨Blk.new w _ _, ⟨by show (-1 : Int) ≤ -1; omega, by show (-1 : Int) ≤ 9223372036854775807; omega⟩, OwnR.nil _ _ _ _, fun k x hx => by simp at hx, fun j k hj => by simp at hj, fun k hk => by simp at hk, fun k b hk => by simp at hk, by simp⟩, rfl⟩, ?_⟩
  refine (Step.alloc (Step.refl No w) _).regroup fun i hi => ?_
  rcases hi with rfl | hi | ⟨k, hk, _⟩
  · exact .inr (Nat.le_refl _)
  · simp [blk] at hi
  · simp at hk
set_option maxRecDepth 100000 in
/-- what DocRead answers: its error and bytes as the program's -/
theorem rread_at {p d nb : Nat} {D : Dk} {sl : Value} {off : Bool} {arm : Int} (o n : Int) (w : World) (h : RkAt w p d D nb) (hp : QwSelf w p sl off arm) (ho : -9223372036854775808 ≤ o ∧ o ≤ 9223372036854775807) (hn : -9223372036854775808 ≤ n ∧ n ≤ 9223372036854775807) :
    Calls Try.prog 39 #[ob d, .int .i64 o, .int .i64 n] w fun e w' => e = .returned (.tuple #[.string (bs (readB D off o n)), .int .i64 (readE D off o n)]) ∧ w = w' := by
  have hlim : D.size ≤ 2097152 := by have := h.size; have := h.lim; omega
  have HI := Lib.hid (rin_any d D.size (ob p) _ _ (bs D.rd) o n w h.self (by rw [bs_size]; rfl) hlim ho hn)
  have c0 := h.self.cell 0
  have c1 := h.self.cell 1
  have hpb : Blk w p _ _ := hp
  have p1 := hpb.cell 1
  simp at c0 c1 p1
  have HL : Hid (D.rd.length = D.size) := Lib.hid rfl
  have HZ : Hid (D.size ≤ 2097152) := Lib.hid hlim
  clear h hp hpb hlim
  by_cases hin : inB D.size o n = true
  · rw [hin] at HI
    have hin' := hin
    simp only [inB, decide_eq_true_eq] at hin'
    obtain ⟨o, rfl⟩ := Int.eq_ofNat_of_zero_le hin'.1
    obtain ⟨n, rfl⟩ := Int.eq_ofNat_of_zero_le hin'.2.1
    have hle : o + n ≤ D.size := by omega
    cases off
    · have HE : Hid (readE D false o n = 0) := Lib.hid (by simp [readE, hin])
      have HB : Hid (readB D false o n = (D.rd.drop o).take n) := Lib.hid (by simp [readB, HE.out])
      have hsl := fun W => slice_bs W D.rd (o : Int) ((o : Int) + n) o n rfl rfl (by rw [HL.out]; exact hle)
      have hz := HZ.out
      clear hin hin'
      go_enter Try.func39, Try.ntmps39
      go_wp2_with fail
      refine HI.out.mono ?_
      rintro e w1 ⟨rfl, rfl⟩
      go_wp2_with fail
      go_ret2
      rw [HE.out, HB.out]
      exact ⟨rfl, rfl⟩
    · have HE : Hid (readE D true o n = 4) := Lib.hid (by simp [readE, hin])
      have HB : Hid (readB D true o n = []) := Lib.hid (by simp [readB, HE.out])
      clear hin hin'
      go_enter Try.func39, Try.ntmps39
      go_wp2_with fail
      refine HI.out.mono ?_
      rintro e w1 ⟨rfl, rfl⟩
      go_wp2_with fail
      go_ret2
      rw [HE.out, HB.out]
      exact ⟨rfl, rfl⟩
  · have hin' : inB D.size o n = false := by simpa using hin
    rw [hin'] at HI
    have HE : Hid (readE D off o n = 1) := Lib.hid (by simp [readE, hin'])
    have HB : Hid (readB D off o n = []) := Lib.hid (by simp [readB, HE.out])
    clear hin hin'
    go_enter Try.func39, Try.ntmps39
    go_wp2_with fail
    refine HI.out.mono ?_
    rintro e w1 ⟨rfl, rfl⟩
    go_wp2_with fail
    go_ret2
    rw [HE.out, HB.out]
    exact ⟨rfl, rfl⟩
end Go.Proofs.Ytoompglghjpapaa
