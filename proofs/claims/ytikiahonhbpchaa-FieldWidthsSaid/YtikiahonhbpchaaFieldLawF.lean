/-
  Walk: the law FieldWidths: numbers from 0 to 63 have one byte; others as many more as their size needs; texts one more, or five.
-/
import Derived.Test.YtikiahonhbpchaaFieldLawC
namespace Go.Proofs.Ytikiahonhbpchaa
open Go.RowKit Fld
set_option linter.unusedVariables false
set_option linter.unusedSimpArgs false
attribute [local go_sem ↓] Go.wp_at_zero Go.wp_at_succ

theorem u64_not (n : Int) (h : -9223372036854775808 ≤ n ∧ n < 0) : bits .xor .u64 IntKind.u64.max (IntKind.u64.wrap n) = (mag n : Int) := by
  unfold mag
  rw [if_pos h.2]
  show IntKind.u64.wrap ((BitVec.ofInt 64 IntKind.u64.max ^^^ BitVec.ofInt 64 (IntKind.u64.wrap n)).toNat : Int) = _
  have h1 : BitVec.ofInt 64 IntKind.u64.max = BitVec.allOnes 64 := by decide
  rw [h1, BitVec.allOnes_xor, BitVec.toNat_not, BitVec.toNat_ofInt, IntKind.wrap_u64, IntKind.wrap_u64]
  omega
theorem u64_same (n : Int) (h : 0 ≤ n ∧ n < 9223372036854775808) : IntKind.u64.wrap n = (mag n : Int) := by
  unfold mag
  rw [if_neg (by omega), IntKind.wrap_u64]
  omega
def zeros (n : Nat) : List UInt8 := List.replicate n 0
theorem zeros_length (n : Nat) : (zeros n).length = n := by simp [zeros]
theorem rd_made (w : World) (n : Nat) : RdB (w.alloc (.cells (madeCells #[.int .u8 0] n) 5)) (some ⟨w.heap.size, 0, none⟩) (zeros n) := fun hl => by
  refine ⟨_, rfl, fun k hk => ?_⟩
  have : (⟨w.heap.size, 0, none⟩ : Addr).add k = ⟨w.heap.size, k, none⟩ := by unfold Addr.add; split <;> simp_all
  rw [this, World.cell?_alloc_new]
  have hk' : k < n := by simpa [zeros] using hk
  rw [← Array.getElem?_toList, toList_madeCells_one]
  simp [zeros, hk']
theorem run_make_u8 (n : Nat) (hn : n ≤ 140737488355328) (w : World) :
    (Instr.makeSlice 22 (.int .i64 (n : Int)) (.int .i64 (n : Int))).run Try.prog w = .ok (.slice (some ⟨w.heap.size, 0, none⟩) n n) (w.alloc (.cells (madeCells #[.int .u8 0] n) 5)) := by
  obtain ⟨i, hi0, hz0, hz1, hz2⟩ := info_parts info_u8
  have hr := run_make (P := Try.prog) w 22 5 i (.int .u8 0) Try.underlying22 hi0 hz0 .i64 .i64 n n (by omega) (by omega) (by rw [hz2]; omega) (by omega)
  simp only [Int.toNat_natCast, hz1, Nat.mul_one] at hr
  exact hr
theorem bytesN_big {v : Nat} (h : 255 < v) : bytesN v = bytesN (v / 256) + 1 := by rw [bytesN, dif_neg (by omega)]
theorem bytesN_small {v : Nat} (h : ¬ 255 < v) : bytesN v = 1 := by rw [bytesN, dif_pos (by omega)]
theorem two_def (r : Nat × Int) : two r = .tuple #[.int .i64 (r.1 : Nat), .int .i64 r.2] := rfl
theorem size_zeros (k : Nat) (w : World) : k ≤ 50000 → Calls Try.prog 19 #[.agg #[.int .i64 2, .int .i64 0, .string ⟨(zeros k).toArray⟩]] w fun e w' => e = .returned (.tuple #[.int .i64 ((k : Int) + (if k < 127 then 1 else 5)), .int .i64 0]) ∧ Below w.heap.size w w' := fun hk => by
  have h := size_any ⟨2, 0, zeros k⟩ (by simp only [zeros_length]; unfold maxLen; omega) (by unfold Ranged; simp) w
  have hc : check ⟨2, 0, zeros k⟩ = 0 := by unfold check; rw [if_neg (by simp [zeros_length]; omega), if_pos (.inr ⟨rfl, rfl⟩)]
  have hs : sizeP ⟨2, 0, zeros k⟩ = (k + (if k < 127 then 1 else 5), 0) := by
    have he : (enc ⟨2, 0, zeros k⟩).length = k + (if k < 127 then 1 else 5) := by
      have : enc ⟨2, 0, zeros k⟩ = encStr (zeros k) := by unfold enc; rw [if_pos rfl]
      rw [this, encStr_length, zeros_length]; split <;> omega
    unfold sizeP
    rw [if_pos hc, he]
  rw [hs] at h
  have e : (((k + (if k < 127 then 1 else 5) : Nat)) : Int) = (k : Int) + (if k < 127 then 1 else 5) := by split <;> omega
  unfold It.v two at h
  simp only [e] at h
  exact h
theorem size_err (i : It) (hl : i.str.length ≤ maxLen) (hr : Ranged i) (e0 : Int) (he : check i = e0) (h0 : e0 ≠ 0) (w : World) : Calls Try.prog 19 #[It.v i] w fun e w' => e = .returned (.tuple #[.int .i64 0, .int .i64 e0]) ∧ Below w.heap.size w w' := by
  have h := size_any i hl hr w
  have hs : sizeP i = (0, e0) := by unfold sizeP; rw [he, if_neg h0]
  rw [hs] at h
  exact h
set_option maxRecDepth 100000 in
set_option maxHeartbeats 1000000 in
theorem FieldWidths_walk (n cnt : Int) (w : World) (hn : -9223372036854775808 ≤ n ∧ n ≤ 9223372036854775807) (hc : -9223372036854775808 ≤ cnt ∧ cnt ≤ 9223372036854775807) :
    Calls Try.prog 9 #[.int .i64 n, .int .i64 cnt] w fun e w' => e = .returned (.bool true) ∧ Below w.heap.size w w' := by
  have HN := Lib.hid (show -9223372036854775808 ≤ n ∧ n < 9223372036854775808 by omega)
  go_enter Try.func9, Try.ntmps9
  go_wp2_with fail
  refine (sound_any w).mono ?_
  rintro e w1 ⟨rfl, hb1⟩
  have HW1 := Lib.hid hb1
  clear hb1
  have hs1 := size_any ⟨1, n, []⟩ (by simp) HN.out w1
  have hp1 : sizeP ⟨1, n, []⟩ = (1 + width n, 0) := by
    have h : check ⟨1, n, []⟩ = 0 := by unfold check; simp
    unfold sizeP
    rw [if_pos h, enc_number rfl, encNum_length]
  rw [hp1] at hs1
  unfold It.v two at hs1
  simp only at hs1
  have HS1 := Lib.hid hs1
  have hwl := width_le n HN.out
  clear hs1 hp1
  go_wp2_with fail
  refine HS1.out.mono ?_
  clear HS1
  rintro e w2 ⟨rfl, hb2⟩
  have HW2 := Lib.hid (HW1.out.trans (hb2.mono HW1.out.size))
  clear hb2 HW1
  have hml := mag_lt HN.out
  have hsu : IntKind.u64.signed = false := rfl
  have hbl := bytesN_le8 (m := mag n) (by omega)
  have hb0 := bytesN_pos (mag n)
  by_cases hneg : n < 0
  · have hx := u64_not n (by omega)
    have hwd : width n = bytesN (mag n) := by unfold width; rw [if_neg (by omega)]
    go_wp2_with fail
    go_loop [7, 8] (fun m c => ∃ (v q : Nat), m = .int .u64 (v : Int) ∧ c = .int .i64 (q : Int) ∧ v < 9223372036854775808 ∧ q ≤ 100 ∧ Hid (q + bytesN v = 2 + width n)) (fun m _ => (intOf m).toNat)
    case atStart => exact ⟨mag n, 2, rfl, rfl, by omega, by omega, Lib.hid (by rw [hwd])⟩
    case round =>
      obtain ⟨v, q, rfl, rfl, hv, hq, HS⟩ := hrel
      have hb8 := bytesN_pos v
      by_cases hlt : 255 < v
      · have hq2 : q ≤ 98 := by have := HS.out; omega
        have HSN := Lib.hid (show q + 1 + bytesN (v / 256) = 2 + width n by have := HS.out; rw [bytesN_big hlt] at this; omega)
        go_wp2_with fail
        exact ⟨⟨v / 256, q + 1, int_eq (by omega), int_eq (by omega), by omega, by omega, HSN⟩, by simp [intOf]; omega⟩
      · have hqs : q = 2 + width n - 1 := by have := HS.out; rw [bytesN_small hlt] at this; omega
        clear HS
        obtain ⟨k, hk, hk3⟩ := cut_mod cnt 299 (by omega)
        have hk' : wrap64 ((IntKind.u64.wrap cnt).tmod 300) = (k : Int) := hk
        clear hk
        have hmk := fun W => run_make_u8 k (by omega) W
        have hst := fun W => run_str k (rd_made W k) (zeros_length k).symm
        have hsz := fun W => size_zeros k W (by omega)
        obtain ⟨m, hm⟩ : ∃ m : Int, (if k < 127 then (1 : Int) else 5) = m := ⟨_, rfl⟩
        rw [hm] at hsz
        have HMM : Hid ((if k < 127 then (1 : Int) else 5) = m) := Lib.hid hm
        have hm5 : 1 ≤ m ∧ m ≤ 5 := by rw [← hm]; split <;> omega
        have HSZ := Lib.hid hsz
        clear hsz hm
        generalize hTT : (⟨(zeros k).toArray⟩ : ByteArray) = T at *
        go_wp2_with fail
        refine (HSZ.out _).mono ?_
        clear HSZ hmk hst
        rintro e w3 ⟨rfl, hb3⟩
        have HW3 := Lib.hid (HW2.out.trans ((((Below.refl w2.heap.size w2).alloc (Nat.le_refl _) _).trans (hb3.mono (by simp))).mono HW2.out.size))
        clear hb3
        have hmk : ∀ W : World, (Instr.makeSlice 22 (.int .i64 50001) (.int .i64 50001)).run Try.prog W = .ok (.slice (some ⟨W.heap.size, 0, none⟩) 50001 50001) (W.alloc (.cells (madeCells #[.int .u8 0] 50001) 5)) := fun W => run_make_u8 50001 (by omega) W
        have hst := fun W => run_str 50001 (rd_made W 50001) (zeros_length 50001).symm
        have hse := fun W => size_err ⟨2, 0, zeros 50001⟩ (by simp only [zeros_length]; unfold maxLen; omega) (by unfold Ranged; simp) 14 (by unfold check; rw [if_pos ⟨rfl, by simp only [zeros_length]; omega⟩]) (by omega) W
        unfold It.v at hse
        have HSE := Lib.hid hse
        clear hse
        generalize hUU : (⟨(zeros 50001).toArray⟩ : ByteArray) = U at *
        generalize hMC : madeCells #[.int .u8 0] 50001 = MC at *
        go_wp2_with fail
        refine (HSE.out _).mono ?_
        clear HSE hmk hst
        rintro e w4 ⟨rfl, hb4⟩
        have HW4 := Lib.hid (HW3.out.trans ((((Below.refl w3.heap.size w3).alloc (Nat.le_refl _) _).trans (hb4.mono (by simp))).mono HW3.out.size))
        clear hb4
        have hsx := fun W => size_err ⟨1, n, [120]⟩ (by unfold maxLen; simp) HN.out 2 (by unfold check; rw [if_neg (by simp), if_neg (by simp)]) (by omega) W
        unfold It.v at hsx
        have HSX := Lib.hid hsx
        clear hsx
        go_wp2_with fail
        refine (HSX.out _).mono ?_
        clear HSX
        rintro e w5 ⟨rfl, hb5⟩
        have HW5 := Lib.hid (HW4.out.trans (hb5.mono HW4.out.size))
        clear hb5
        by_cases h127 : k < 127
        · have hm1 := HMM.out
          rw [if_pos h127] at hm1
          subst hm1
          go_wp2_with fail
          go_ret
          exact ⟨rfl, HW5.out⟩
        · have hm1 := HMM.out
          rw [if_neg h127] at hm1
          subst hm1
          go_wp2_with fail
          go_ret
          exact ⟨rfl, HW5.out⟩
  · have hx := u64_same n (by omega)
    by_cases h64 : n ≤ 63
    · have hwd : width n = 0 := by unfold width; rw [if_pos (by omega)]
      have hms : ¬ 255 < mag n := by unfold mag; rw [if_neg (by omega)]; omega
      obtain ⟨k, hk, hk3⟩ := cut_mod cnt 299 (by omega)
      have hk' : wrap64 ((IntKind.u64.wrap cnt).tmod 300) = (k : Int) := hk
      clear hk
      have hmk := fun W => run_make_u8 k (by omega) W
      have hst := fun W => run_str k (rd_made W k) (zeros_length k).symm
      have hsz := fun W => size_zeros k W (by omega)
      obtain ⟨m, hm⟩ : ∃ m : Int, (if k < 127 then (1 : Int) else 5) = m := ⟨_, rfl⟩
      rw [hm] at hsz
      have HMM : Hid ((if k < 127 then (1 : Int) else 5) = m) := Lib.hid hm
      have hm5 : 1 ≤ m ∧ m ≤ 5 := by rw [← hm]; split <;> omega
      have HSZ := Lib.hid hsz
      clear hsz hm
      generalize hTT : (⟨(zeros k).toArray⟩ : ByteArray) = T at *
      go_wp2_with fail
      refine (HSZ.out _).mono ?_
      clear HSZ hmk hst
      rintro e w3 ⟨rfl, hb3⟩
      have HW3 := Lib.hid (HW2.out.trans ((((Below.refl w2.heap.size w2).alloc (Nat.le_refl _) _).trans (hb3.mono (by simp))).mono HW2.out.size))
      clear hb3
      have hmk : ∀ W : World, (Instr.makeSlice 22 (.int .i64 50001) (.int .i64 50001)).run Try.prog W = .ok (.slice (some ⟨W.heap.size, 0, none⟩) 50001 50001) (W.alloc (.cells (madeCells #[.int .u8 0] 50001) 5)) := fun W => run_make_u8 50001 (by omega) W
      have hst := fun W => run_str 50001 (rd_made W 50001) (zeros_length 50001).symm
      have hse := fun W => size_err ⟨2, 0, zeros 50001⟩ (by simp only [zeros_length]; unfold maxLen; omega) (by unfold Ranged; simp) 14 (by unfold check; rw [if_pos ⟨rfl, by simp only [zeros_length]; omega⟩]) (by omega) W
      unfold It.v at hse
      have HSE := Lib.hid hse
      clear hse
      generalize hUU : (⟨(zeros 50001).toArray⟩ : ByteArray) = U at *
      generalize hMC : madeCells #[.int .u8 0] 50001 = MC at *
      go_wp2_with fail
      refine (HSE.out _).mono ?_
      clear HSE hmk hst
      rintro e w4 ⟨rfl, hb4⟩
      have HW4 := Lib.hid (HW3.out.trans ((((Below.refl w3.heap.size w3).alloc (Nat.le_refl _) _).trans (hb4.mono (by simp))).mono HW3.out.size))
      clear hb4
      have hsx := fun W => size_err ⟨1, n, [120]⟩ (by unfold maxLen; simp) HN.out 2 (by unfold check; rw [if_neg (by simp), if_neg (by simp)]) (by omega) W
      unfold It.v at hsx
      have HSX := Lib.hid hsx
      clear hsx
      go_wp2_with fail
      refine (HSX.out _).mono ?_
      clear HSX
      rintro e w5 ⟨rfl, hb5⟩
      have HW5 := Lib.hid (HW4.out.trans (hb5.mono HW4.out.size))
      clear hb5
      by_cases h127 : k < 127
      · have hm1 := HMM.out
        rw [if_pos h127] at hm1
        subst hm1
        go_wp2_with fail
        go_ret
        exact ⟨rfl, HW5.out⟩
      · have hm1 := HMM.out
        rw [if_neg h127] at hm1
        subst hm1
        go_wp2_with fail
        go_ret
        exact ⟨rfl, HW5.out⟩
    · have hwd : width n = bytesN (mag n) := by unfold width; rw [if_neg (by omega)]
      go_wp2_with fail
      go_loop [7, 8] (fun m c => ∃ (v q : Nat), m = .int .u64 (v : Int) ∧ c = .int .i64 (q : Int) ∧ v < 9223372036854775808 ∧ q ≤ 100 ∧ Hid (q + bytesN v = 2 + width n)) (fun m _ => (intOf m).toNat)
      case atStart => exact ⟨mag n, 2, rfl, rfl, by omega, by omega, Lib.hid (by rw [hwd])⟩
      case round =>
        obtain ⟨v, q, rfl, rfl, hv, hq, HS⟩ := hrel
        have hb8 := bytesN_pos v
        by_cases hlt : 255 < v
        · have hq2 : q ≤ 98 := by have := HS.out; omega
          have HSN := Lib.hid (show q + 1 + bytesN (v / 256) = 2 + width n by have := HS.out; rw [bytesN_big hlt] at this; omega)
          go_wp2_with fail
          exact ⟨⟨v / 256, q + 1, int_eq (by omega), int_eq (by omega), by omega, by omega, HSN⟩, by simp [intOf]; omega⟩
        · have hqs : q = 2 + width n - 1 := by have := HS.out; rw [bytesN_small hlt] at this; omega
          clear HS
          obtain ⟨k, hk, hk3⟩ := cut_mod cnt 299 (by omega)
          have hk' : wrap64 ((IntKind.u64.wrap cnt).tmod 300) = (k : Int) := hk
          clear hk
          have hmk := fun W => run_make_u8 k (by omega) W
          have hst := fun W => run_str k (rd_made W k) (zeros_length k).symm
          have hsz := fun W => size_zeros k W (by omega)
          obtain ⟨m, hm⟩ : ∃ m : Int, (if k < 127 then (1 : Int) else 5) = m := ⟨_, rfl⟩
          rw [hm] at hsz
          have HMM : Hid ((if k < 127 then (1 : Int) else 5) = m) := Lib.hid hm
          have hm5 : 1 ≤ m ∧ m ≤ 5 := by rw [← hm]; split <;> omega
          have HSZ := Lib.hid hsz
          clear hsz hm
          generalize hTT : (⟨(zeros k).toArray⟩ : ByteArray) = T at *
          go_wp2_with fail
          refine (HSZ.out _).mono ?_
          clear HSZ hmk hst
          rintro e w3 ⟨rfl, hb3⟩
          have HW3 := Lib.hid (HW2.out.trans ((((Below.refl w2.heap.size w2).alloc (Nat.le_refl _) _).trans (hb3.mono (by simp))).mono HW2.out.size))
          clear hb3
          have hmk : ∀ W : World, (Instr.makeSlice 22 (.int .i64 50001) (.int .i64 50001)).run Try.prog W = .ok (.slice (some ⟨W.heap.size, 0, none⟩) 50001 50001) (W.alloc (.cells (madeCells #[.int .u8 0] 50001) 5)) := fun W => run_make_u8 50001 (by omega) W
          have hst := fun W => run_str 50001 (rd_made W 50001) (zeros_length 50001).symm
          have hse := fun W => size_err ⟨2, 0, zeros 50001⟩ (by simp only [zeros_length]; unfold maxLen; omega) (by unfold Ranged; simp) 14 (by unfold check; rw [if_pos ⟨rfl, by simp only [zeros_length]; omega⟩]) (by omega) W
          unfold It.v at hse
          have HSE := Lib.hid hse
          clear hse
          generalize hUU : (⟨(zeros 50001).toArray⟩ : ByteArray) = U at *
          generalize hMC : madeCells #[.int .u8 0] 50001 = MC at *
          go_wp2_with fail
          refine (HSE.out _).mono ?_
          clear HSE hmk hst
          rintro e w4 ⟨rfl, hb4⟩
          have HW4 := Lib.hid (HW3.out.trans ((((Below.refl w3.heap.size w3).alloc (Nat.le_refl _) _).trans (hb4.mono (by simp))).mono HW3.out.size))
          clear hb4
          have hsx := fun W => size_err ⟨1, n, [120]⟩ (by unfold maxLen; simp) HN.out 2 (by unfold check; rw [if_neg (by simp), if_neg (by simp)]) (by omega) W
          unfold It.v at hsx
          have HSX := Lib.hid hsx
          clear hsx
          go_wp2_with fail
          refine (HSX.out _).mono ?_
          clear HSX
          rintro e w5 ⟨rfl, hb5⟩
          have HW5 := Lib.hid (HW4.out.trans (hb5.mono HW4.out.size))
          clear hb5
          by_cases h127 : k < 127
          · have hm1 := HMM.out
            rw [if_pos h127] at hm1
            subst hm1
            go_wp2_with fail
            go_ret
            exact ⟨rfl, HW5.out⟩
          · have hm1 := HMM.out
            rw [if_neg h127] at hm1
            subst hm1
            go_wp2_with fail
            go_ret
            exact ⟨rfl, HW5.out⟩
end Go.Proofs.Ytikiahonhbpchaa
