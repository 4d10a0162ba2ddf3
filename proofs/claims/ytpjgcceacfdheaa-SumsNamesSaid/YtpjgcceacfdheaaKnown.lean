/-
  Walk: 'known': the four sums that every statement of this chapter asks first are right.
-/
import Derived.Test.YtpjgcceacfdheaaDigits
import Derived.Test.YtpjgcceacfdheaaMd5C
import Derived.Lib.SlBytesConst
namespace Go.Proofs.Ytpjgcceacfdheaa
open Go.RowKit Crc
set_option linter.unusedVariables false
set_option linter.unusedSimpArgs false

def nine : List UInt8 := [49, 50, 51, 52, 53, 54, 55, 56, 57]
theorem nine8 : ((crc8 nine).toNat : Int) = 244 := by decide +kernel
theorem nine16 : ((crc16 nine).toNat : Int) = 65256 := by decide +kernel
theorem nine32 : ((crc32 nine).toNat : Int) = 3421780262 := by decide +kernel
theorem abc_digits : Hex.digits (Md5.md5 [97, 98, 99]) = [57, 48, 48, 49, 53, 48, 57, 56, 51, 99, 100, 50, 52, 102, 98, 48, 100, 54, 57, 54, 51, 102, 55, 100, 50, 56, 101, 49, 55, 102, 55, 50] := by
  rw [Md5.abc]; decide
/-- bytes in a block just made, whatever its mark -/
theorem rd_mark (w : World) (l : List UInt8) (C : Array Value) (fr : Nat × Nat) (h : C.toList = bc l) : RdB (w.alloc (.cells C 5 fr)) (some ⟨w.heap.size, 0, none⟩) l := fun hl => by
  refine ⟨_, rfl, fun k hk => ?_⟩
  have : (⟨w.heap.size, 0, none⟩ : Addr).add k = ⟨w.heap.size, k, none⟩ := by unfold Addr.add; split <;> simp_all
  rw [this, World.cell?_alloc_mark, ← Array.getElem?_toList, h, bc_get l k hk]

set_option maxRecDepth 100000 in
set_option maxHeartbeats 400000 in
theorem known_any (w : World) : Calls Try.prog 9 #[] w fun e w' => e = .returned (.bool true) ∧ Below w.heap.size w w' := by
  have kc := fun (w : World) (C : Array Value) (n c : Nat) => Lib.run_convert_bytes_const (P := Try.prog) w 22 5 C n c Try.underlying22 Try.underlying5
  go_enter Try.func9, Try.ntmps9
  go_wp2_with fail
  have HR := Lib.hid (rd_mark w nine (bc nine).toArray (9, 10) rfl)
  have HB := Lib.hid ((Below.refl w.heap.size w).alloc (Nat.le_refl _) (.cells (bc nine).toArray 5 (9, 10)))
  change Calls _ _ _ (w.alloc (.cells (bc nine).toArray 5 (9, 10))) _
  generalize w.alloc (.cells (bc nine).toArray 5 (9, 10)) = W at *
  refine (Crc8_any (some ⟨w.heap.size, 0, none⟩) nine 9 W (by decide) HR.out).mono ?_
  rintro e w' ⟨rfl, rfl⟩
  rw [nine8]
  go_wp2_with fail
  refine (Crc16_any (some ⟨w.heap.size, 0, none⟩) nine 9 W (by decide) HR.out).mono ?_
  rintro e w' ⟨rfl, rfl⟩
  rw [nine16]
  go_wp2_with fail
  refine (Crc32_any (some ⟨w.heap.size, 0, none⟩) nine 9 W (by decide) HR.out).mono ?_
  rintro e w' ⟨rfl, rfl⟩
  rw [nine32]
  go_wp2_with fail
  have HR3 := Lib.hid (rd_mark W [97, 98, 99] (bc [97, 98, 99]).toArray (3, 4) rfl)
  have HB3 := Lib.hid (HB.out.alloc HB.out.size (.cells (bc [97, 98, 99]).toArray 5 (3, 4)))
  change Calls _ _ _ (W.alloc (.cells (bc [97, 98, 99]).toArray 5 (3, 4))) _
  refine (Md5_any (some ⟨W.heap.size, 0, none⟩) [97, 98, 99] 3 _ (by decide) HR3.out).mono ?_
  rintro e w1 ⟨rfl, hb1⟩
  have HB4 := Lib.hid (HB3.out.trans (hb1.mono HB3.out.size))
  clear hb1
  go_wp2_with fail
  refine (Digits_any ⟨(Md5.md5 [97, 98, 99]).toArray⟩ w1 (by show (Md5.md5 [97, 98, 99]).toArray.size ≤ _; rw [List.size_toArray, Md5.length_md5]; omega)).mono ?_
  rintro e w2 ⟨rfl, hb2⟩
  have HB5 := Lib.hid (HB4.out.trans (hb2.mono HB4.out.size))
  clear hb2
  rw [show Hex.digits (ByteArray.mk (Md5.md5 [97, 98, 99]).toArray).data.toList = _ from abc_digits]
  go_wp2
  go_ret
  exact ⟨rfl, HB5.out⟩
end Go.Proofs.Ytpjgcceacfdheaa
