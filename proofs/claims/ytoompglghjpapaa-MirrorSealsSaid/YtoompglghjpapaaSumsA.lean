/-
  Walks: the register sums of package sums, each is what Crc says.
-/
import Derived.Test.YtoompglghjpapaaBase
import Derived.Test.YtoompglghjpapaaCrc
import Derived.Laws.BitsAllLaws
namespace Go.Proofs.Ytoompglghjpapaa
open Go.RowKit Crc
set_option linter.unusedVariables false
set_option linter.unusedSimpArgs false

theorem stepL_nat {n : Nat} (hn : 0 < n) (p u : BitVec n) : (stepL p u).toNat = (u.toNat * 2 % 2 ^ n) ^^^ (if 2 ^ (n - 1) ≤ u.toNat then p.toNat else 0) := by
  unfold stepL
  rw [BitVec.toNat_xor, BitVec.toNat_shiftLeft, Nat.shiftLeft_eq, Nat.pow_one]
  congr 1
  have hm : u.msb = decide (2 ^ (n - 1) ≤ u.toNat) := by rw [BitVec.msb_eq_decide]
  rw [hm]
  by_cases h : 2 ^ (n - 1) ≤ u.toNat <;> simp [h]
theorem stepR_nat {n : Nat} (p u : BitVec n) : (stepR p u).toNat = (u.toNat / 2) ^^^ (if u.toNat % 2 = 1 then p.toNat else 0) := by
  unfold stepR
  rw [BitVec.toNat_xor, BitVec.toNat_ushiftRight, Nat.shiftRight_eq_div_pow, Nat.pow_one]
  congr 1
  have hm : u.getLsbD 0 = decide (u.toNat % 2 = 1) := by rw [BitVec.getLsbD, Nat.testBit_zero]
  rw [hm]
  by_cases h : u.toNat % 2 = 1 <;> simp [h]
theorem byteV_nat (n : Nat) (hn : 8 ≤ n) (x : UInt8) : (byteV n x).toNat = x.toNat := by
  unfold byteV
  rw [BitVec.toNat_ofNat, Nat.mod_eq_of_lt]
  have := x.toNat_lt; have : 2 ^ 8 ≤ 2 ^ n := Nat.pow_le_pow_right (by omega) hn; omega

theorem val8 (u : BitVec 8) : bits .xor .u64 (bits .and .u64 ((u.toNat : Int) * 2) 255) (IntKind.u64.wrap (bits .and .u64 ((u.toNat : Int) / 128) 1 * 7)) = ((stepL 7#8 u).toNat : Int) := by
  have hu := u.isLt
  have e1 : bits .and .u64 ((u.toNat : Int) * 2) 255 = ((u.toNat * 2 % 256 : Nat) : Int) := by
    rw [u64_and _ _ (by omega) (by omega) (by omega) (by omega), show (((u.toNat : Int) * 2).toNat) = u.toNat * 2 by omega, show ((255 : Int).toNat) = 255 by rfl, nat_mask8]
  have e2 : bits .and .u64 ((u.toNat : Int) / 128) 1 = ((u.toNat / 128 % 2 : Nat) : Int) := by
    rw [u64_and _ _ (by omega) (by omega) (by omega) (by omega), show (((u.toNat : Int) / 128).toNat) = u.toNat / 128 by omega, show ((1 : Int).toNat) = 1 by rfl, nat_mask1]
  rw [e1, e2, stepL_nat (by omega)]
  have e3 : IntKind.u64.wrap (((u.toNat / 128 % 2 : Nat) : Int) * 7) = ((if 2 ^ (8 - 1) ≤ u.toNat then ((7#8 : BitVec 8)).toNat else 0 : Nat) : Int) := by
    rw [IntKind.wrap_u64]
    by_cases h : 128 ≤ u.toNat
    · rw [if_pos (by omega), show (((7#8 : BitVec 8)).toNat) = 7 by rfl, show u.toNat / 128 % 2 = 1 by omega]; rfl
    · rw [if_neg (by omega), show u.toNat / 128 % 2 = 0 by omega]; rfl
  rw [e3, u64_xor_nat _ _ (by omega) (by split <;> simp)]
theorem in8 (v : BitVec 8) (x : UInt8) : bits .xor .u64 (v.toNat : Int) ((x.toNat : Int)) = ((v ^^^ (byteV 8 x <<< 0)).toNat : Int) := by
  have hv := v.isLt
  have hx := x.toNat_lt
  rw [u64_xor_nat _ _ (by omega) (by omega), BitVec.toNat_xor, BitVec.toNat_shiftLeft, byteV_nat _ (by omega), Nat.shiftLeft_eq, Nat.pow_zero, Nat.mul_one, Nat.mod_eq_of_lt (by omega)]
theorem run8_snoc (l : List UInt8) (k : Nat) (hk : k < l.length) : runL 7#8 0 0#8 (l.take (k + 1)) = rep (stepL 7#8) 8 (runL 7#8 0 0#8 (l.take k) ^^^ (byteV 8 (l.getD k 0) <<< 0)) := by
  rw [take_snoc l k hk, runL_append, getD_eq l k 0 hk]; rfl

theorem val16 (u : BitVec 16) : bits .xor .u64 (bits .and .u64 ((u.toNat : Int) * 2) 65535) (IntKind.u64.wrap (bits .and .u64 ((u.toNat : Int) / 32768) 1 * 32773)) = ((stepL 0x8005#16 u).toNat : Int) := by
  have hu := u.isLt
  have e1 : bits .and .u64 ((u.toNat : Int) * 2) 65535 = ((u.toNat * 2 % 65536 : Nat) : Int) := by
    rw [u64_and _ _ (by omega) (by omega) (by omega) (by omega), show (((u.toNat : Int) * 2).toNat) = u.toNat * 2 by omega, show ((65535 : Int).toNat) = 65535 by rfl, nat_mask16]
  have e2 : bits .and .u64 ((u.toNat : Int) / 32768) 1 = ((u.toNat / 32768 % 2 : Nat) : Int) := by
    rw [u64_and _ _ (by omega) (by omega) (by omega) (by omega), show (((u.toNat : Int) / 32768).toNat) = u.toNat / 32768 by omega, show ((1 : Int).toNat) = 1 by rfl, nat_mask1]
  rw [e1, e2, stepL_nat (by omega)]
  have e3 : IntKind.u64.wrap (((u.toNat / 32768 % 2 : Nat) : Int) * 32773) = ((if 2 ^ (16 - 1) ≤ u.toNat then ((0x8005#16 : BitVec 16)).toNat else 0 : Nat) : Int) := by
    rw [IntKind.wrap_u64]
    by_cases h : 32768 ≤ u.toNat
    · rw [if_pos (by omega), show (((0x8005#16 : BitVec 16)).toNat) = 32773 by rfl, show u.toNat / 32768 % 2 = 1 by omega]; rfl
    · rw [if_neg (by omega), show u.toNat / 32768 % 2 = 0 by omega]; rfl
  rw [e3, u64_xor_nat _ _ (by omega) (by split <;> simp)]
theorem in16 (v : BitVec 16) (x : UInt8) : bits .xor .u64 (v.toNat : Int) ((x.toNat : Int) * 256) = ((v ^^^ (byteV 16 x <<< 8)).toNat : Int) := by
  have hv := v.isLt
  have hx := x.toNat_lt
  rw [show ((x.toNat : Int) * 256) = ((x.toNat * 256 : Nat) : Int) by omega, u64_xor_nat _ _ (by omega) (by omega), BitVec.toNat_xor, BitVec.toNat_shiftLeft, byteV_nat _ (by omega), Nat.shiftLeft_eq, Nat.mod_eq_of_lt (by omega)]
theorem run16_snoc (l : List UInt8) (k : Nat) (hk : k < l.length) : runL 0x8005#16 8 0#16 (l.take (k + 1)) = rep (stepL 0x8005#16) 8 (runL 0x8005#16 8 0#16 (l.take k) ^^^ (byteV 16 (l.getD k 0) <<< 8)) := by
  rw [take_snoc l k hk, runL_append, getD_eq l k 0 hk]; rfl

theorem val32 (u : BitVec 32) : bits .xor .u32 ((u.toNat : Int) / 2) (bits .and .u32 (-bits .and .u32 (u.toNat : Int) 1 % 4294967296) 3988292384) = ((stepR 0xEDB88320#32 u).toNat : Int) := by
  have hu := u.isLt
  have e2 : bits .and .u32 (u.toNat : Int) 1 = ((u.toNat % 2 : Nat) : Int) := by
    rw [u32_and _ _ (by omega) (by omega) (by omega) (by omega), Int.toNat_natCast, show ((1 : Int).toNat) = 1 by rfl, nat_mask1]
  have e3 : bits .and .u32 (-((u.toNat % 2 : Nat) : Int) % 4294967296) 3988292384 = ((if u.toNat % 2 = 1 then (0xEDB88320#32 : BitVec 32).toNat else 0 : Nat) : Int) := by
    by_cases h : u.toNat % 2 = 1
    · rw [if_pos h, h]; decide
    · rw [if_neg h, show u.toNat % 2 = 0 by omega]; decide
  rw [e2, e3, stepR_nat, show (u.toNat : Int) / 2 = ((u.toNat / 2 : Nat) : Int) by omega, u32_xor_nat _ _ (by omega) (by split <;> simp)]
theorem in32 (v : BitVec 32) (x : UInt8) : bits .xor .u32 (v.toNat : Int) (x.toNat : Int) = ((v ^^^ byteV 32 x).toNat : Int) := by
  have hv := v.isLt
  have hx := x.toNat_lt
  rw [u32_xor_nat _ _ (by omega) (by omega), BitVec.toNat_xor, byteV_nat _ (by omega)]
theorem out32 (v : BitVec 32) : wrap64 (bits .xor .u32 IntKind.u32.max (v.toNat : Int)) = ((~~~ v).toNat : Int) := by
  have hv := v.isLt
  have e : IntKind.u32.max = ((4294967295 : Nat) : Int) := by rfl
  have e2 : (~~~ v).toNat = 4294967295 ^^^ v.toNat := by
    have h1 : ~~~ v = 4294967295#32 ^^^ v := by
      apply BitVec.eq_of_getLsbD_eq
      intro i hi
      have : (4294967295#32).getLsbD i = true := by
        have : ∀ j : Fin 32, (4294967295#32).getLsbD j.val = true := by decide
        exact this ⟨i, hi⟩
      rw [BitVec.getLsbD_not, BitVec.getLsbD_xor, this]
      cases v.getLsbD i <;> simp [hi]
    rw [h1, BitVec.toNat_xor]; rfl
  have h3 := (~~~ v).isLt
  rw [e, u32_xor_nat _ _ (by omega) (by omega), ← e2]
  unfold wrap64
  omega
theorem run32_snoc (l : List UInt8) (k : Nat) (hk : k < l.length) : runR 0xEDB88320#32 0xFFFFFFFF#32 (l.take (k + 1)) = rep (stepR 0xEDB88320#32) 8 (runR 0xEDB88320#32 0xFFFFFFFF#32 (l.take k) ^^^ byteV 32 (l.getD k 0)) := by
  rw [take_snoc l k hk, runR_append, getD_eq l k 0 hk]; rfl

set_option maxRecDepth 100000 in
set_option maxHeartbeats 400000 in
theorem Crc32_any (A : Option Addr) (l : List UInt8) (cap : Nat) (w : World) (hm : l.length ≤ maxLen) (h : RdB w A l) :
    Calls Try.prog 58 #[.slice A l.length cap] w fun e w' => e = .returned (.int .i64 ((crc32 l).toNat : Int)) ∧ w = w' := by
  unfold maxLen at hm
  have H := Lib.hid h; clear h
  go_enter Try.func58, Try.ntmps58
  go_wp2
  go_loop [3, 8] (fun r i => ∃ k : Nat, k ≤ l.length ∧ i = .int .i64 k ∧ r = .int .u32 ((runR 0xEDB88320#32 0xFFFFFFFF#32 (l.take k)).toNat : Int)) (fun _ i => l.length - (intOf i).toNat)
  case atStart => exact ⟨0, Nat.zero_le _, rfl, rfl⟩
  case round =>
    obtain ⟨k, hk, rfl, rfl⟩ := hrel
    by_cases hlt : k < l.length
    · obtain ⟨ad, rfl, hc⟩ := H.out.at_ hlt
      have hb := getD_lt l k
      have Hsn := Lib.hid (run32_snoc l k hlt)
      generalize hx : l.getD k 0 = x at *
      have Hx := Lib.hid hx; clear hx
      generalize hv : runR 0xEDB88320#32 0xFFFFFFFF#32 (l.take k) = v at *
      have Hv := Lib.hid hv; clear hv
      have hv1 := v.isLt
      go_wp2
      go_loop [3, 16] (fun r i => ∃ j : Nat, j ≤ 8 ∧ i = .int .i64 j ∧ r = .int .u32 ((rep (stepR 0xEDB88320#32) j (v ^^^ byteV 32 x)).toNat : Int)) (fun _ i => 8 - (intOf i).toNat)
      case atStart => exact ⟨0, Nat.zero_le _, rfl, int_eq (in32 v x)⟩
      case round =>
        obtain ⟨j, hj, rfl, rfl⟩ := hrel
        generalize hu : rep (stepR 0xEDB88320#32) j (v ^^^ byteV 32 x) = u at *
        have Hu := Lib.hid hu; clear hu
        have hu1 := u.isLt
        by_cases hlt : j < 8
        · go_wp2
          go_round
          case rel => exact ⟨j + 1, by omega, by go_num, by rw [val32, rep, Hu.out]⟩
          case measure => simp [intOf]; omega
        · go_wp2
          go_round
          case rel => exact ⟨k + 1, by omega, by go_num, by rw [Hsn.out, ← Hu.out, show j = 8 by omega]⟩
          case measure => simp [intOf]; omega
    · generalize hv : runR 0xEDB88320#32 0xFFFFFFFF#32 (l.take k) = v at *
      have Hv := Lib.hid hv; clear hv
      have hv1 := v.isLt
      go_wp2
      go_ret
      have e := Hv.out
      rw [show k = l.length by omega, List.take_length] at e
      refine ⟨ret_int ?_, rfl⟩
      show wrap64 (bits .xor .u32 IntKind.u32.max (v.toNat : Int)) = ((crc32 l).toNat : Int)
      rw [out32, crc32, e]
theorem Crc32_at (A : Option Addr) (l : List UInt8) (n cap : Nat) (w : World) (hn : n = l.length) (hm : n ≤ maxLen) (h : RdB w A l) :
    Calls Try.prog 58 #[.slice A n cap] w fun e w' => e = .returned (.int .i64 ((crc32 l).toNat : Int)) ∧ w = w' := by
  subst hn; exact Crc32_any A l cap w hm h
end Go.Proofs.Ytoompglghjpapaa
