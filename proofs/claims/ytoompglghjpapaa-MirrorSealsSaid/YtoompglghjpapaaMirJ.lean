/-
  The laws' first question of a mirror (bright): what it computes.
-/
import Derived.Test.YtoompglghjpapaaMirI
import Derived.Lib.SlBytesConst
namespace Go.Proofs.Ytoompglghjpapaa
open Go.RowKit Crc
set_option linter.unusedVariables false
set_option linter.unusedSimpArgs false

def abc : List UInt8 := [97, 98, 99]
def br1 : St := (layG (fresh5 3) 5 abc 3 0).2
def br2 : St := (br1.rot 0 6 1).2
theorem br_lay : (layG (fresh5 3) 5 abc 3 0).1 = 0 := by decide +kernel
theorem br_rot : (br1.rot 0 6 1).1 = 0 := by decide +kernel
theorem br_look : lookR br2 5 3 3 = 0 := by decide +kernel
theorem br_c0 : readB (br2.at_ 0) br2.off 5 3 = [97, 99, 99] := by decide +kernel
theorem br_c1 : readB (br2.at_ 1) br2.off 5 3 = abc := by decide +kernel
theorem br_c2 : readB (br2.at_ 2) br2.off 5 3 = abc := by decide +kernel
theorem br_crc : ¬ crcI [97, 99, 99] = crcI abc := by decide +kernel
theorem br_write : (br2.write 0 5 abc).1 = 0 := by decide +kernel
theorem fits_self (b : List UInt8) : fitsB (crcI b) (md5T b) b = true := by simp [fitsB]
theorem br_f0 : fitsB (crcI abc) (md5T abc) [97, 99, 99] = false := by unfold fitsB; rw [decide_eq_false br_crc, Bool.false_and]
theorem br_conts : conts br2 5 3 3 = [[97, 99, 99], abc, abc] := by
  show [readB (br2.at_ 0) br2.off 5 3, readB (br2.at_ 1) br2.off 5 3, readB (br2.at_ 2) br2.off 5 3] = _
  rw [br_c0, br_c1, br_c2]
theorem br_which : whichN br2 5 3 (crcI abc) (md5T abc) 3 = 1 := by
  unfold whichN
  rw [br_conts, List.findIdx_cons, br_f0, List.findIdx_cons, fits_self]
  rfl
theorem br_sick : sickN br2 5 3 (crcI abc) (md5T abc) 3 = [0] := by
  have h0 : (!fitsB (crcI abc) (md5T abc) (readB (br2.at_ 0) br2.off 5 3)) = true := by rw [br_c0, br_f0]; rfl
  have h1 : (!fitsB (crcI abc) (md5T abc) (readB (br2.at_ 1) br2.off 5 3)) = false := by rw [br_c1, fits_self]; rfl
  have h2 : (!fitsB (crcI abc) (md5T abc) (readB (br2.at_ 2) br2.off 5 3)) = false := by rw [br_c2, fits_self]; rfl
  unfold sickN
  show ([0, 1, 2] : List Nat).filter _ = _
  rw [List.filter_cons_of_pos (by exact h0), List.filter_cons_of_neg (by rw [h1]; simp), List.filter_cons_of_neg (by rw [h2]; simp)]
  rfl
theorem br_cure : (cureR br2 5 3 (crcI abc) (md5T abc) 3).1 = 0 := by
  unfold cureR
  rw [br_look, if_neg (by simp), br_which, if_pos (by omega), br_c1, br_sick]
  show (if (br2.write 0 5 abc).1 = 0 then _ else _ : Int × St).1 = 0
  rw [if_pos br_write]
  rfl
end Go.Proofs.Ytoompglghjpapaa
