/-
  Walk: the law SumsParts: a sum of bytes that stand behind others, put together of two; noughts ahead change nothing.
-/
import Derived.Test.YtpjgcceacfdheaaLawB
import Derived.Test.YtpjgcceacfdheaaOwnZ
namespace Go.Proofs.Ytpjgcceacfdheaa
open Go.RowKit Crc
set_option linter.unusedVariables false
set_option linter.unusedSimpArgs false

theorem i64x {n : Nat} (hn : n ≤ 32) (x y : BitVec n) : bits .xor .i64 (x.toNat : Int) (y.toNat : Int) = ((x ^^^ y).toNat : Int) := by
  have hx := x.isLt
  have hy := y.isLt
  have : 2 ^ n ≤ 2 ^ 32 := Nat.pow_le_pow_right (by omega) hn
  rw [i64_xor_nat _ _ (by omega) (by omega), BitVec.toNat_xor]
theorem ne8 (a b : List UInt8) : (((crc8 (a ++ b)).toNat : Int) != bits .xor .i64 ((crc8 (a ++ List.replicate b.length 0)).toNat : Int) ((crc8 b).toNat : Int)) = false := by
  rw [i64x (by omega), crc8, runL_parts _ _ a b]; exact bne_self_eq_false _
theorem ne16 (a b : List UInt8) : (((crc16 (a ++ b)).toNat : Int) != bits .xor .i64 ((crc16 (a ++ List.replicate b.length 0)).toNat : Int) ((crc16 b).toNat : Int)) = false := by
  rw [i64x (by omega), crc16, runL_parts _ _ a b]; exact bne_self_eq_false _
theorem run_make_u8 (n : Nat) (hn : n ≤ 140737488355328) (w : World) :
    (Instr.makeSlice 22 (.int .i64 (n : Int)) (.int .i64 (n : Int))).run Try.prog w = .ok (.slice (some ⟨w.heap.size, 0, none⟩) n n) (w.alloc (.cells (madeCells #[.int .u8 0] n) 5)) := by
  obtain ⟨i, hi0, hz0, hz1, hz2⟩ := info_parts info_u8
  have hr := run_make (P := Try.prog) w 22 5 i (.int .u8 0) Try.underlying22 hi0 hz0 .i64 .i64 n n (by omega) (by omega) (by rw [hz2]; omega) (by omega)
  simp only [Int.toNat_natCast, hz1, Nat.mul_one] at hr
  exact hr
theorem own_made (w : World) {base : Nat} (hb : base ≤ w.heap.size) (n : Nat) (hn : n ≤ 140737488355328) : OwnB (w.alloc (.cells (madeCells #[.int .u8 0] n) 5)) base (some ⟨w.heap.size, 0, none⟩) n (zeros n) := by
  have h := World.ownsRow_lit (e := 5) (size := 1) w (madeCells #[.int .u8 0] n) n hb (by unfold maxLen; omega) (by rw [size_madeCells, Nat.mul_one])
  unfold OwnB OwnR
  have e : (madeCells #[.int .u8 0] n).toList = bc (zeros n) := by rw [toList_madeCells_one]; simp [bc, zeros]
  rw [e] at h
  have e2 : (zeros n).length = n := by simp [zeros]
  rw [e2]; exact h

set_option maxRecDepth 100000 in
set_option maxHeartbeats 1000000 in
theorem SumsParts_walk (A B : Option Addr) (a b : List UInt8) (ca cb : Nat) (x : Int) (w : World) (hma : a.length ≤ maxLen) (hmb : b.length ≤ maxLen) (ha : RdB w A a) (hb : RdB w B b) :
    Calls Try.prog 6 #[.slice A a.length ca, .slice B b.length cb, .int .i64 x] w fun e w' => e = .returned (.bool true) ∧ Below w.heap.size w w' := by
  unfold maxLen at hma hmb
  have HA := Lib.hid ha; clear ha
  have HB := Lib.hid hb; clear hb
  go_enter Try.func6, Try.ntmps6
  go_wp2_with fail
  refine (known_any w).mono ?_
  rintro e w1 ⟨rfl, hb1⟩
  have HW := Lib.hid hb1
  have HA1 := Lib.hid (HA.out.below hb1)
  have HB1 := Lib.hid (HB.out.below hb1)
  clear hb1
  by_cases hl : 1500 < a.length
  · go_wp2_with fail
    refine (known_any w1).mono ?_
    rintro e w2 ⟨rfl, hb2⟩
    have HB2 := Lib.hid (HW.out.trans (hb2.mono HW.out.size))
    clear hb2
    go_wp2
    go_ret
    exact ⟨rfl, HB2.out⟩
  by_cases hl2 : 1500 < b.length
  · go_wp2_with fail
    refine (known_any w1).mono ?_
    rintro e w2 ⟨rfl, hb2⟩
    have HB2 := Lib.hid (HW.out.trans (hb2.mono HW.out.size))
    clear hb2
    go_wp2
    go_ret
    exact ⟨rfl, HB2.out⟩
  have HE1 := Lib.hid (HA1.out.below ((Below.refl w1.heap.size w1).alloc (Nat.le_refl _) (.cells #[] 5)))
  go_wp2_with (first
    | (at_builtin; refine wpList_appRd (.inl rfl) (.tmp 24) (.tmp 25) rfl w.heap.size _ 0 0 [] rfl rfl (own_empty w1 HW.out.size) A a.length ca a rfl rfl HE1.out (by simp; omega) (by have := HW.out.size; simp; omega) ?_; (
        intro A2 c2 w2 hown2 hg2 hat2
        have HW2 := Lib.hid (empty_below hg2)
        have HA2 := Lib.hid (empty_at hat2)
        have HO2 := Lib.hid (show OwnB w2 w.heap.size A2 c2 a from hown2)
        have HB2 := Lib.hid (HB1.out.below HW2.out)
        clear hown2 hg2 hat2))
    | (at_builtin; refine wpList_appRd (.inl rfl) (.tmp 26) (.tmp 27) rfl w.heap.size A2 a.length c2 a rfl rfl HO2.out B b.length cb b rfl rfl HB2.out (by omega) (by have := HW2.out.size; have := HW.out.size; omega) ?_; (
        intro A3 c3 w3 hown3 hg3 hat3
        have HW3 := Lib.hid (HW2.out.grown hg3 HW2.out.size HA2.out)
        have HO3 := Lib.hid hown3
        have HE3 := Lib.hid (HA1.out.below (HW3.out.alloc HW3.out.size (.cells #[] 5)))
        clear hown3 hg3 hat3 HO2 HB2 HA2))
    | (at_builtin; refine wpList_appRd (.inl rfl) (.tmp 29) (.tmp 30) rfl w.heap.size _ 0 0 [] rfl rfl (own_empty w3 (by have := HW3.out.size; have := HW.out.size; omega)) A a.length ca a rfl rfl HE3.out (by simp; omega) (by have := HW3.out.size; have := HW.out.size; simp; omega) ?_; (
        intro A4 c4 w4 hown4 hg4 hat4
        have HW4 := Lib.hid (empty_below hg4)
        have HA4 := Lib.hid (empty_at hat4)
        have HO4 := Lib.hid (show OwnB w4 w.heap.size A4 c4 a from hown4)
        clear hown4 hg4 hat4))
    | (at_builtin; refine wpList_appZ rfl (.tmp 31) (.tmp 33) rfl w.heap.size A4 a.length c4 a rfl rfl HO4.out b.length rfl (by omega) (by have := HW4.out.size; have := HW3.out.size; have := HW.out.size; omega) ?_; (
        intro A5 c5 w5 hown5 hg5 hat5
        have HW5 := Lib.hid (HW4.out.grown hg5 HW4.out.size HA4.out)
        have HO5 := Lib.hid hown5
        clear hown5 hg5 hat5 HO4 HA4)))
  have HWB := Lib.hid (show Below w1.heap.size w1 w5 from HW3.out.trans (HW5.out.mono HW3.out.size))
  have HR3 := Lib.hid ((OwnB.rd HO3.out).below HW5.out)
  have HR5 := Lib.hid (OwnB.rd HO5.out)
  have HRB := Lib.hid (HB1.out.below HWB.out)
  have n8 := ne8 a b
  have n16 := ne16 a b
  have HL3 := Lib.hid (show a.length + b.length = (a ++ b).length by simp)
  have HL5 := Lib.hid (show a.length + b.length = (a ++ List.replicate b.length (0 : UInt8)).length by simp)
  clear HO3 HO5 HE1 HE3 HW2 HW4
  refine (Crc8_at A3 (a ++ b) _ c3 _ HL3.out (by unfold maxLen; omega) HR3.out).mono ?_
  rintro e w' ⟨rfl, rfl⟩
  go_wp2_with fail
  refine (Crc8_at A5 (a ++ List.replicate b.length 0) _ c5 _ HL5.out (by unfold maxLen; omega) HR5.out).mono ?_
  rintro e w' ⟨rfl, rfl⟩
  go_wp2_with fail
  refine (Crc8_at B b _ cb _ rfl (by unfold maxLen; omega) HRB.out).mono ?_
  rintro e w' ⟨rfl, rfl⟩
  go_wp2_with fail
  refine (Crc16_at A3 (a ++ b) _ c3 _ HL3.out (by unfold maxLen; omega) HR3.out).mono ?_
  rintro e w' ⟨rfl, rfl⟩
  go_wp2_with fail
  refine (Crc16_at A5 (a ++ List.replicate b.length 0) _ c5 _ HL5.out (by unfold maxLen; omega) HR5.out).mono ?_
  rintro e w' ⟨rfl, rfl⟩
  go_wp2_with fail
  refine (Crc16_at B b _ cb _ rfl (by unfold maxLen; omega) HRB.out).mono ?_
  rintro e w' ⟨rfl, rfl⟩
  obtain ⟨k, hq, hk⟩ : ∃ k : Nat, (IntKind.u64.wrap x).tmod 100 = k ∧ k < 100 := by
    have h1 : 0 ≤ IntKind.u64.wrap x := by rw [IntKind.wrap_u64]; omega
    have h2 : (IntKind.u64.wrap x).tmod 100 = (IntKind.u64.wrap x) % 100 := Int.tmod_eq_emod_of_nonneg h1
    exact ⟨((IntKind.u64.wrap x) % 100).toNat, by rw [h2]; omega, by omega⟩
  have hq2 : IntKind.u64.wrap x % 100 = k := by
    have h1 : 0 ≤ IntKind.u64.wrap x := by rw [IntKind.wrap_u64]; omega
    rw [← hq, Int.tmod_eq_emod_of_nonneg h1]
  have hmk := fun W => run_make_u8 k (by omega) W
  have HZK := Lib.hid (show k = (zeros k).length by simp [zeros])
  have HMB := Lib.hid (HRB.out.below ((Below.refl w5.heap.size w5).alloc (Nat.le_refl _) (.cells (madeCells #[.int .u8 0] k) 5)))
  go_wp2_with (at_builtin; refine wpList_appRd (.inl rfl) (.tmp 58) (.tmp 59) rfl w.heap.size _ k k (zeros k) rfl HZK.out (own_made w5 (by have := HWB.out.size; have := HW.out.size; omega) k (by omega)) B b.length cb b rfl rfl HMB.out (by simp [zeros]; omega) (by have := HWB.out.size; have := HW.out.size; simp; omega) ?_; (intro A6 c6 w6 hown6 hg6 hat6))
  have HW6 := Lib.hid (show Below w5.heap.size w5 w6 from ((Below.refl w5.heap.size w5).alloc (Nat.le_refl _) _).grown hg6 (by simp) (fun k hk => by simp [blk] at hk; omega))
  have HR6 := Lib.hid (OwnB.rd hown6)
  have HRB6 := Lib.hid (HRB.out.below HW6.out)
  have HL6 := Lib.hid (show k + b.length = (zeros k ++ b).length by simp [zeros])
  have HC8 := Lib.hid (show crc8 (zeros k ++ b) = crc8 b from runL_ahead _ _ k b)
  have HC16 := Lib.hid (show crc16 (zeros k ++ b) = crc16 b from runL_ahead _ _ k b)
  clear hown6 hg6 hat6 HMB hmk n8 n16
  refine (Crc8_at A6 (zeros k ++ b) _ c6 _ (by simp) (by unfold maxLen; simp [zeros]; omega) HR6.out).mono ?_
  rintro e w' ⟨rfl, rfl⟩
  rw [HC8.out]
  go_wp2_with fail
  refine (Crc8_at B b _ cb _ rfl (by unfold maxLen; omega) HRB6.out).mono ?_
  rintro e w' ⟨rfl, rfl⟩
  go_wp2_with fail
  refine (Crc16_at A6 (zeros k ++ b) _ c6 _ (by simp) (by unfold maxLen; simp [zeros]; omega) HR6.out).mono ?_
  rintro e w' ⟨rfl, rfl⟩
  rw [HC16.out]
  go_wp2_with fail
  refine (Crc16_at B b _ cb _ rfl (by unfold maxLen; omega) HRB6.out).mono ?_
  rintro e w' ⟨rfl, rfl⟩
  go_wp2
  go_ret
  exact ⟨rfl, (HW.out.trans (HWB.out.mono HW.out.size)).trans (HW6.out.mono (by have := HWB.out.size; have := HW.out.size; omega))⟩
end Go.Proofs.Ytpjgcceacfdheaa
