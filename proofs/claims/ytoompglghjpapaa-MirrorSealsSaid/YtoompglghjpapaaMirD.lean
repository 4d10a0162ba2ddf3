/-
  Walk: (Seal).fits; slices.IndexFunc with it.
-/
import Derived.Test.YtoompglghjpapaaMirC
import Derived.Test.YtoompglghjpapaaSumsA
import Derived.Test.YtoompglghjpapaaMd5C
import Derived.Deep.RegionHeld3
import Derived.Deep.DrawnRows
namespace Go.Proofs.Ytoompglghjpapaa
open Go.RowKit Crc
set_option linter.unusedVariables false
set_option linter.unusedSimpArgs false
attribute [local go_sem ↓] Go.wp_at_zero Go.wp_at_succ

theorem str_ne {Y md : ByteArray} (h : ¬ Y = md) : (Y.toList == md.toList) = false := by
  rw [ByteArray.toList_eq, ByteArray.toList_eq, beq_eq_false_iff_ne]
  exact fun e => h (ByteArray.ext (Array.toList_inj.mp e))
theorem str_eqv (Y md : ByteArray) : (Y.toList == md.toList) = decide (Y = md) := by
  by_cases h : Y = md
  · subst h; simp
  · rw [str_ne h, decide_eq_false h]
def crcI (b : List UInt8) : Int := ((crc32 b).toNat : Int)
def md5T (b : List UInt8) : ByteArray := ⟨(Md5.md5 b).toArray⟩
def fitsB (cr : Int) (md : ByteArray) (b : List UInt8) : Bool := decide (crcI b = cr) && decide (md5T b = md)
theorem fits_any (o z cr : Int) (md : ByteArray) (A : Option Addr) (b : List UInt8) (n c : Nat) (w : World) (hn : b.length = n) (hm : n ≤ 140737488355000) (h : RdB w A b) :
    Calls Try.prog 65 #[.agg #[.int .i64 o, .int .i64 z, .int .i64 cr, .string md], .slice A n c] w fun e w' => e = .returned (.bool (fitsB cr md b)) ∧ Below w.heap.size w w' := by
  unfold fitsB
  obtain ⟨X, hX⟩ : ∃ X, crcI b = X := ⟨_, rfl⟩
  obtain ⟨Y, hY⟩ : ∃ Y, md5T b = Y := ⟨_, rfl⟩
  have HC : Hid (∀ W, RdB W A b → Calls Try.prog 58 #[.slice A n c] W fun e w' => e = .returned (.int .i64 X) ∧ W = w') := Lib.hid (fun W hW => by
    rw [← hX]; exact Crc32_at A b n c W hn.symm (by unfold maxLen; omega) hW)
  have HM : Hid (∀ W, RdB W A b → Calls Try.prog 59 #[.slice A n c] W fun e w' => e = .returned (.string Y) ∧ Below W.heap.size W w') := Lib.hid (fun W hW => by
    subst hn; rw [← hY]; exact Md5_any A b c W hm hW)
  have hbx : Below w.heap.size w (w.alloc (.cells #[.int .i64 o, .int .i64 z, .int .i64 cr, .string md] 28)) := (Below.refl _ _).alloc (Nat.le_refl _) _
  have HR : Hid (RdB (w.alloc (.cells #[.int .i64 o, .int .i64 z, .int .i64 cr, .string md] 28)) A b) := Lib.hid (h.below hbx)
  have hbk := Blk.new w 28 #[.int .i64 o, .int .i64 z, .int .i64 cr, .string md]
  have q2 : (w.alloc (.cells #[.int .i64 o, .int .i64 z, .int .i64 cr, .string md] 28)).cell? ⟨w.heap.size, 2, none⟩ = some (.int .i64 cr) := hbk.cell 2
  have q3 : (w.alloc (.cells #[.int .i64 o, .int .i64 z, .int .i64 cr, .string md] 28)).cell? ⟨w.heap.size, 3, none⟩ = some (.string md) := hbk.cell 3
  have HBX := Lib.hid hbx
  rw [hX, hY]
  clear hX hY hbk hbx h hn hm
  by_cases h1 : X = cr
  · subst h1
    have hd : (X == X) = true := by exact beq_self_eq_true X
    by_cases h2 : Y = md
    · subst h2
      rw [show (decide (X = X) && decide (Y = Y)) = true by simp]
      go_enter Try.func65, Try.ntmps65
      go_wp2_with fail
      go_region_held3 (fun W : World => W.cell? ⟨w.heap.size, 2, none⟩ = some (.int .i64 X) ∧ W.cell? ⟨w.heap.size, 3, none⟩ = some (.string Y)) (first | exact ⟨q2, q3⟩ | exact ⟨below_cell HB5.out q2, below_cell HB5.out q3⟩) (first | (go_at_call 58; refine (HC.out _ (HR.out.below ((Below.refl _ _).drew))).mono ?_; rintro e w3 ⟨rfl, rfl⟩) | (go_at_call 59; refine (HM.out _ (HR.out.below ((Below.refl _ _).drew))).mono ?_; rintro e w5 ⟨rfl, hb5⟩; have HB5 := Lib.hid (show Below (w.alloc (.cells #[.int .i64 o, .int .i64 z, .int .i64 X, .string Y] 28)).heap.size (w.alloc (.cells #[.int .i64 o, .int .i64 z, .int .i64 X, .string Y] 28)) w5 from (Below.refl _ _).drew.trans hb5)))
      go_wp2_with fail
      go_ret
      exact ⟨rfl, HBX.out.trans (HB5.out.mono HBX.out.size)⟩
    · have hd2 : decide (Y = md) = false := by simpa using h2
      rw [hd2, Bool.and_false]
      have hd3 := str_ne h2
      clear h2
      go_enter Try.func65, Try.ntmps65
      go_wp2_with fail
      go_region_held3 (fun W : World => W.cell? ⟨w.heap.size, 2, none⟩ = some (.int .i64 X) ∧ W.cell? ⟨w.heap.size, 3, none⟩ = some (.string md)) (first | exact ⟨q2, q3⟩ | exact ⟨below_cell HB5.out q2, below_cell HB5.out q3⟩) (first | (go_at_call 58; refine (HC.out _ (HR.out.below ((Below.refl _ _).drew))).mono ?_; rintro e w3 ⟨rfl, rfl⟩) | (go_at_call 59; refine (HM.out _ (HR.out.below ((Below.refl _ _).drew))).mono ?_; rintro e w5 ⟨rfl, hb5⟩; have HB5 := Lib.hid (show Below (w.alloc (.cells #[.int .i64 o, .int .i64 z, .int .i64 X, .string md] 28)).heap.size (w.alloc (.cells #[.int .i64 o, .int .i64 z, .int .i64 X, .string md] 28)) w5 from (Below.refl _ _).drew.trans hb5)))
      go_wp2_with fail
      go_ret
      exact ⟨rfl, HBX.out.trans (HB5.out.mono HBX.out.size)⟩
  · have hd : (X == cr) = false := by simpa using h1
    have HEND : Hid ((decide (X = cr) && decide (Y = md)) = false) := Lib.hid (by simp [h1])
    rw [HEND.out]
    clear h1
    go_enter Try.func65, Try.ntmps65
    go_wp2_with fail
    go_quiet ((go_at_call 58; exact quiet_left (HC.out _ HR.out)))
    go_wp2_with fail
    go_ret
    exact ⟨rfl, HBX.out.trans (below_drewN (Below.refl _ _) _)⟩
end Go.Proofs.Ytoompglghjpapaa
