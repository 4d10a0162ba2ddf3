/-
  Walk: math/bits.RotateLeft32 by 1 to 31 places.
-/
import Derived.Test.YtoompglghjpapaaSumsA
import Derived.Test.YtoompglghjpapaaMd5
namespace Go.Proofs.Ytoompglghjpapaa
open Go.RowKit Crc
set_option linter.unusedVariables false
set_option linter.unusedSimpArgs false

theorem rot_val (x s : Nat) (h1 : x < 4294967296) (s1 : s ≤ 32) : bits .or .u32 ((x : Int) * 2 ^ s % 4294967296) ((x : Int) / 2 ^ (32 - s)) = ((Md5.rot (BitVec.ofNat 32 x) s).toNat : Int) := by
  have e1 : (x : Int) * 2 ^ s % 4294967296 = ((x * 2 ^ s % 4294967296 : Nat) : Int) := by rw [Int.natCast_emod, Int.natCast_mul, Int.natCast_pow]; rfl
  have e2 : (x : Int) / 2 ^ (32 - s) = ((x / 2 ^ (32 - s) : Nat) : Int) := by rw [Int.natCast_ediv, Int.natCast_pow]; rfl
  have hd : x / 2 ^ (32 - s) ≤ x := Nat.div_le_self _ _
  rw [e1, e2, u32_or_nat _ _ (by omega) (by omega)]
  unfold Md5.rot
  rw [BitVec.toNat_or, BitVec.toNat_shiftLeft, BitVec.toNat_ushiftRight, BitVec.toNat_ofNat, Nat.shiftLeft_eq, Nat.shiftRight_eq_div_pow, Nat.mod_eq_of_lt (a := x) (by omega)]
set_option maxRecDepth 100000 in
set_option maxHeartbeats 400000 in
theorem rotl_any (x : Int) (s : Int) (w : World) (h0 : 0 ≤ x) (h1 : x < 4294967296) (s0 : 1 ≤ s) (s1 : s ≤ 31) :
    Calls Try.prog 86 #[.int .u32 x, .int .i64 s] w fun e w' => e = .returned (.int .u32 ((Md5.rot (BitVec.ofNat 32 x.toNat) s.toNat).toNat : Int)) ∧ w = w' := by
  have e1 : bits .and .u64 s 31 = s := by
    rw [u64_and _ _ (by omega) (by omega) (by omega) (by omega), show ((31 : Int).toNat) = 31 by rfl, nat_mask5]; omega
  go_enter Try.func86, Try.ntmps86
  go_wp2
  go_ret
  refine ⟨ret_int ?_, rfl⟩
  show bits .or .u32 (x * 2 ^ s.toNat % 4294967296) (x / 2 ^ (32 - s).toNat) = _
  obtain ⟨n, rfl⟩ := Int.eq_ofNat_of_zero_le h0
  rw [show (32 - s).toNat = 32 - s.toNat by omega, Int.toNat_natCast, rot_val n s.toNat (by omega) (by omega)]
end Go.Proofs.Ytoompglghjpapaa
