/-
  Walks: the register sums of the document's package, each is what Crc says.
-/
import Derived.Test.YtoompglghjpapaaSumsA
import Derived.Deep.QuietTactic
import Derived.BigQuiet
namespace Go.Proofs.Ytoompglghjpapaa
open Go.RowKit Crc
set_option linter.unusedVariables false
set_option linter.unusedSimpArgs false

theorem boolNat (b : Bool) : ((b.toNat : Int) == 1) = b := by cases b <;> rfl
theorem bit_and1 (a : Nat) (ha : a < 9223372036854775808) : bits .and .i64 (a : Int) 1 = (((decide (a % 2 = 1)).toNat : Nat) : Int) := by
  have := i64_and_nat a 1 ha (by omega)
  rw [show ((1 : Int)) = ((1 : Nat) : Int) by rfl, this, nat_mask1]
  rcases Nat.mod_two_eq_zero_or_one a with h | h <;> rw [h] <;> rfl
theorem bit_xor (a b : Bool) : bits .xor .i64 ((a.toNat : Nat) : Int) ((b.toNat : Nat) : Int) = (((a ^^ b).toNat : Nat) : Int) := by
  rw [i64_xor_nat _ _ (by cases a <;> decide) (by cases b <;> decide)]
  cases a <;> cases b <;> rfl
theorem bit_at (x i : Nat) : decide (x / 2 ^ i % 2 = 1) = x.testBit i := by rw [Nat.testBit_eq_decide_div_mod_eq]
theorem idiv (x : Nat) (q : Nat) : (x : Int) / 2 ^ q = ((x / 2 ^ q : Nat) : Int) := by push_cast; rfl

theorem refTest8 (u : BitVec 8) (x : UInt8) (j : Nat) (q : Int) (hq : q = 7 - j) (hj : j < 8) :
    (bits .xor .i64 (bits .and .i64 ((u.toNat : Int) / 128) 1) (bits .and .i64 ((x.toNat : Int) / 2 ^ q.toNat) 1) == 1) = (u.msb ^^ x.toNat.testBit (7 - j)) := by
  have hu := u.isLt
  have hx := x.toNat_lt
  have hd : x.toNat / 2 ^ q.toNat ≤ x.toNat := Nat.div_le_self _ _
  rw [show (u.toNat : Int) / 128 = ((u.toNat / 128 : Nat) : Int) by omega, idiv, bit_and1 _ (by omega), bit_and1 _ (by omega), bit_xor, boolNat, show q.toNat = 7 - j by omega, bit_at]
  congr 1
  rw [BitVec.msb_eq_decide]
  by_cases h : 128 ≤ u.toNat
  · rw [decide_eq_true (show u.toNat / 128 % 2 = 1 by omega), decide_eq_true (by omega)]
  · rw [decide_eq_false (show ¬ u.toNat / 128 % 2 = 1 by omega), decide_eq_false (by omega)]
theorem refYes8 (u : BitVec 8) (b : Bool) (h : (u.msb ^^ b) = true) : bits .xor .i64 (2 * (u.toNat : Int) % 256) 7 = ((refL 7#8 u b).toNat : Int) := by
  have hu := u.isLt
  rw [show 2 * (u.toNat : Int) % 256 = ((u.toNat * 2 % 256 : Nat) : Int) by omega, show ((7 : Int)) = ((7 : Nat) : Int) by rfl, i64_xor_nat _ _ (by omega) (by omega)]
  unfold refL
  rw [h, if_pos rfl, BitVec.toNat_xor, BitVec.toNat_shiftLeft, Nat.shiftLeft_eq, Nat.pow_one]; rfl
theorem refNo8 (u : BitVec 8) (b : Bool) (h : (u.msb ^^ b) = false) : 2 * (u.toNat : Int) % 256 = ((refL 7#8 u b).toNat : Int) := by
  have hu := u.isLt
  unfold refL
  rw [h, if_neg (by simp), xor_zero', BitVec.toNat_shiftLeft, Nat.shiftLeft_eq, Nat.pow_one]; omega
theorem refRun8 (s : ByteArray) (k : Nat) (hk : k < s.size) : runL 7#8 0 0#8 (s.data.toList.take (k + 1)) = refLs 7#8 s[k] 8 (runL 7#8 0 0#8 (s.data.toList.take k)) := by
  rw [← byteL_ref (by omega) 7#8, take_snoc _ k (by rw [str_len]; exact hk), runL_append]; rfl

theorem refTest16 (u : BitVec 16) (x : UInt8) (j : Nat) (q : Int) (hq : q = 7 - j) (hj : j < 8) :
    (bits .xor .i64 (bits .and .i64 ((u.toNat : Int) / 32768) 1) (bits .and .i64 ((x.toNat : Int) / 2 ^ q.toNat) 1) == 1) = (u.msb ^^ x.toNat.testBit (7 - j)) := by
  have hu := u.isLt
  have hx := x.toNat_lt
  have hd : x.toNat / 2 ^ q.toNat ≤ x.toNat := Nat.div_le_self _ _
  rw [show (u.toNat : Int) / 32768 = ((u.toNat / 32768 : Nat) : Int) by omega, idiv, bit_and1 _ (by omega), bit_and1 _ (by omega), bit_xor, boolNat, show q.toNat = 7 - j by omega, bit_at]
  congr 1
  rw [BitVec.msb_eq_decide]
  by_cases h : 32768 ≤ u.toNat
  · rw [decide_eq_true (show u.toNat / 32768 % 2 = 1 by omega), decide_eq_true (by omega)]
  · rw [decide_eq_false (show ¬ u.toNat / 32768 % 2 = 1 by omega), decide_eq_false (by omega)]
theorem refYes16 (u : BitVec 16) (b : Bool) (h : (u.msb ^^ b) = true) : bits .xor .i64 (2 * (u.toNat : Int) % 65536) 32773 = ((refL 0x8005#16 u b).toNat : Int) := by
  have hu := u.isLt
  rw [show 2 * (u.toNat : Int) % 65536 = ((u.toNat * 2 % 65536 : Nat) : Int) by omega, show ((32773 : Int)) = ((32773 : Nat) : Int) by rfl, i64_xor_nat _ _ (by omega) (by omega)]
  unfold refL
  rw [h, if_pos rfl, BitVec.toNat_xor, BitVec.toNat_shiftLeft, Nat.shiftLeft_eq, Nat.pow_one]; rfl
theorem refNo16 (u : BitVec 16) (b : Bool) (h : (u.msb ^^ b) = false) : 2 * (u.toNat : Int) % 65536 = ((refL 0x8005#16 u b).toNat : Int) := by
  have hu := u.isLt
  unfold refL
  rw [h, if_neg (by simp), xor_zero', BitVec.toNat_shiftLeft, Nat.shiftLeft_eq, Nat.pow_one]; omega
theorem refRun16 (s : ByteArray) (k : Nat) (hk : k < s.size) : runL 0x8005#16 8 0#16 (s.data.toList.take (k + 1)) = refLs 0x8005#16 s[k] 8 (runL 0x8005#16 8 0#16 (s.data.toList.take k)) := by
  rw [← byteL_ref (by omega) 0x8005#16, take_snoc _ k (by rw [str_len]; exact hk), runL_append]; rfl

theorem refTest32 (u : BitVec 32) (x : UInt8) (j : Nat) :
    (bits .xor .i64 (bits .and .i64 (u.toNat : Int) 1) (bits .and .i64 ((x.toNat : Int) / 2 ^ j) 1) == 1) = (u.getLsbD 0 ^^ x.toNat.testBit j) := by
  have hu := u.isLt
  have hx := x.toNat_lt
  have hd : x.toNat / 2 ^ j ≤ x.toNat := Nat.div_le_self _ _
  rw [idiv, bit_and1 _ (by omega), bit_and1 _ (by omega), bit_xor, boolNat, bit_at]
  congr 1
  rw [BitVec.getLsbD, Nat.testBit_zero]
theorem refYes32 (u : BitVec 32) (b : Bool) (h : (u.getLsbD 0 ^^ b) = true) : bits .xor .i64 ((u.toNat : Int) / 2) 3988292384 = ((refR 0xEDB88320#32 u b).toNat : Int) := by
  have hu := u.isLt
  rw [show (u.toNat : Int) / 2 = ((u.toNat / 2 : Nat) : Int) by omega, show ((3988292384 : Int)) = ((3988292384 : Nat) : Int) by rfl, i64_xor_nat _ _ (by omega) (by omega)]
  unfold refR
  rw [h, if_pos rfl, BitVec.toNat_xor, BitVec.toNat_ushiftRight, Nat.shiftRight_eq_div_pow, Nat.pow_one]; rfl
theorem refNo32 (u : BitVec 32) (b : Bool) (h : (u.getLsbD 0 ^^ b) = false) : (u.toNat : Int) / 2 = ((refR 0xEDB88320#32 u b).toNat : Int) := by
  have hu := u.isLt
  unfold refR
  rw [h, if_neg (by simp), xor_zero', BitVec.toNat_ushiftRight, Nat.shiftRight_eq_div_pow, Nat.pow_one]; omega
theorem refRun32 (s : ByteArray) (k : Nat) (hk : k < s.size) : runR 0xEDB88320#32 0xFFFFFFFF#32 (s.data.toList.take (k + 1)) = refRs 0xEDB88320#32 s[k] 8 (runR 0xEDB88320#32 0xFFFFFFFF#32 (s.data.toList.take k)) := by
  rw [← byteR_ref (by omega) 0xEDB88320#32, take_snoc _ k (by rw [str_len]; exact hk), runR_append]; rfl
theorem refOut32 (v : BitVec 32) : bits .xor .i64 (v.toNat : Int) 4294967295 = ((~~~ v).toNat : Int) := by
  have hv := v.isLt
  have h := out32 v
  have e : IntKind.u32.max = ((4294967295 : Nat) : Int) := by rfl
  rw [e, u32_xor_nat _ _ (by omega) (by omega)] at h
  rw [← h, show ((4294967295 : Int)) = ((4294967295 : Nat) : Int) by rfl, i64_xor_nat _ _ (by omega) (by omega), Nat.xor_comm]
  have : 4294967295 ^^^ v.toNat < 2 ^ 32 := Nat.xor_lt_two_pow (by omega) (by omega)
  unfold wrap64
  omega

set_option maxRecDepth 100000 in
set_option maxHeartbeats 400000 in
theorem refCrc32_any (s : ByteArray) (w : World) (hm : s.size ≤ maxLen) :
    Calls Try.prog 16 #[.string s] w fun e w' => e = .returned (.int .i64 ((crc32 s.data.toList).toNat : Int)) ∧ ∃ n, w' = w.drewN n := by
  unfold maxLen at hm
  go_enter Try.func16, Try.ntmps16
  go_wp2
  go_loopw [3, 4] (fun r i wr => (∃ n, wr = w.drewN n) ∧ ∃ k : Nat, k ≤ s.size ∧ i = .int .i64 k ∧ r = .int .i64 ((runR 0xEDB88320#32 0xFFFFFFFF#32 (s.data.toList.take k)).toNat : Int)) (fun _ i _ => s.size - (intOf i).toNat)
  case atStart => exact ⟨⟨0, rfl⟩, 0, Nat.zero_le _, rfl, rfl⟩
  case round =>
    obtain ⟨⟨n, rfl⟩, k, hk, rfl, rfl⟩ := hrel
    generalize hv : runR 0xEDB88320#32 0xFFFFFFFF#32 (s.data.toList.take k) = v at *
    have Hv := Lib.hid hv; clear hv
    have hv1 := v.isLt
    by_cases hlt : k < s.size
    · have Hr := Lib.hid (refRun32 s k hlt)
      go_wp2
      go_loopw [3, 5] (fun r i wr => (∃ n, wr = w.drewN n) ∧ ∃ (j : Nat), j ≤ 8 ∧ i = .int .i64 j ∧ r = .int .i64 ((refRs 0xEDB88320#32 s[k] j v).toNat : Int)) (fun _ i _ => (8 - intOf i).toNat)
      case atStart => exact ⟨⟨_, rfl⟩, 0, by omega, rfl, rfl⟩
      case round =>
        obtain ⟨⟨n, rfl⟩, j, hj, rfl, rfl⟩ := hrel
        generalize hu : refRs 0xEDB88320#32 s[k] j v = u at *
        have Hu := Lib.hid hu; clear hu
        have hu1 := u.isLt
        by_cases hlt2 : j < 8
        · have hb : (s[k].toNat : Int) < 256 := by have := s[k].toNat_lt; omega
          have Ht := Lib.hid (refTest32 u s[k] j)
          go_wp2
          · have ht := Ht.out
            rename_i hway
            rw [hway] at ht
            exact ⟨⟨⟨_, rfl⟩, j + 1, by omega, by go_num, int_eq (by rw [refRs, Hu.out]; exact refYes32 u _ ht.symm)⟩, by simp [intOf]; omega⟩
          · have ht := Ht.out
            rename_i hway
            rw [hway] at ht
            exact ⟨⟨⟨_, rfl⟩, j + 1, by omega, by go_num, int_eq (by rw [refRs, Hu.out]; exact refNo32 u _ ht.symm)⟩, by simp [intOf]; omega⟩
        · go_wp2
          exact ⟨⟨⟨_, rfl⟩, k + 1, by omega, by go_num, int_eq (by rw [Hr.out, Hv.out, ← Hu.out, show j = 8 by omega])⟩, by simp [intOf]; omega⟩
    · go_wp2
      go_ret
      have e := Hv.out
      rw [show k = s.size by omega, List.take_of_length_le (by simp)] at e
      refine ⟨ret_int ?_, _, rfl⟩
      show bits .xor .i64 (v.toNat : Int) 4294967295 = ((crc32 s.data.toList).toNat : Int)
      rw [refOut32, crc32, e]
end Go.Proofs.Ytoompglghjpapaa
