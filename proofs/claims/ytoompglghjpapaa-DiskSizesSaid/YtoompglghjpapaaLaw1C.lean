/-
  Walk: the law DiskSizes: a disk has as many bytes as were asked for, if that is a multiple of a sector within the bounds; it reads and writes just these.
-/
import Derived.Test.YtoompglghjpapaaLaw1A
namespace Go.Proofs.Ytoompglghjpapaa
open Go.RowKit
set_option linter.unusedVariables false
set_option linter.unusedSimpArgs false
attribute [local go_sem ↓] Go.wp_at_zero Go.wp_at_succ

theorem rd_made0 (w : World) (n : Nat) : RdB (w.alloc (.cells (madeCells #[.int .u8 0] n) 5)) (some ⟨w.heap.size, 0, none⟩) (zeroB n) := by
  rw [made_zero]; exact rd_blk (Blk.new w _ _) 0
theorem mod_pos (c n : Int) (h : 0 ≤ c ∧ c ≤ 9223372036854775807) (hn : 0 < n) (hn2 : n ≤ 1000000) : c % n = wrap64 ((IntKind.u64.wrap c).tmod n) := by
  have e : IntKind.u64.wrap c = c := by rw [IntKind.wrap_u64]; omega
  rw [e, Int.tmod_eq_emod_of_nonneg h.1]
  have h1 := Int.emod_nonneg c (show n ≠ 0 by omega)
  have h2 := Int.emod_lt_of_pos c hn
  unfold wrap64
  omega
set_option maxRecDepth 100000 in
set_option maxHeartbeats 8000000 in
theorem DiskSizes_walk (nn o c : Int) (w : World) (hn : -9223372036854775808 ≤ nn ∧ nn ≤ 9223372036854775807) (ho : -9223372036854775808 ≤ o ∧ o ≤ 9223372036854775807) (hc : -9223372036854775808 ≤ c ∧ c ≤ 9223372036854775807) :
    Calls Try.prog 8 #[.int .i64 nn, .int .i64 o, .int .i64 c] w fun e w' => e = .returned (.bool true) ∧ Below w.heap.size w w' := by
  go_enter Try.func8, Try.ntmps8
  go_wp2_with fail
  refine (known_any w).mono ?_
  rintro e w1 ⟨rfl, hb1⟩
  have HW1 := Lib.hid hb1
  clear hb1
  go_wp2_with fail
  refine (newPower_any w1).mono ?_
  rintro e w2 ⟨F, rfl, hp, hs⟩
  have HL := Lib.hid (LW.start w1 hp hs)
  clear hp hs
  obtain ⟨p, hpp⟩ : ∃ p, w1.heap.size = p := ⟨_, rfl⟩
  have HP : Hid (w1.heap.size = p) := Lib.hid hpp
  rw [hpp] at HL ⊢
  clear hpp
  by_cases hsz : sizeB nn = true
  · obtain ⟨m, hm, hm2⟩ : ∃ m : Nat, nn = ((128 * m : Nat) : Int) ∧ 0 < m ∧ m ≤ 16384 := by
      simp only [sizeB, decide_eq_true_eq] at hsz
      exact ⟨(nn / 128).toNat, by omega, by omega, by omega⟩
    clear hsz
    subst hm
    obtain ⟨n, hnn⟩ : ∃ n, 128 * m = n := ⟨_, rfl⟩
    have HN : Hid (128 * m = n) := Lib.hid hnn
    have hb : 128 ≤ n ∧ n ≤ 2097152 := by omega
    have hmod : ((n : Int) % 128 != 0) = false := by rw [bne_eq_false_iff_eq]; omega
    have hl1 : decide ((n : Int) < 128) = false := by simp; omega
    have hl2 : decide ((2097152 : Int) < (n : Int)) = false := by simp; omega
    have HM2 := Lib.hid hm2
    rw [hnn]
    clear hnn hm2
    go_wp2_with fail
    have hnew := st_new HL.out.pw m HM2.out (by simp)
    rw [HN.out] at hnew
    refine hnew.mono ?_
    rintro e w2' ⟨d, F2, rfl, hp, hs, hd⟩
    have HL2 : Hid (LW w1 w2' p [d] ⟨[Dk.fresh m], false, -1⟩ F2) := Lib.hid (HL.out.step hs hp)
    clear hp hs HL hd hnew
    go_wp2_with fail
    refine (new_nil 128 _).mono ?_
    rintro e w3 ⟨rfl, rfl⟩
    obtain ⟨k, hk, hk2⟩ := cut_mod c 999 (by omega)
    rw [show ((999 : Nat) : Int) + 1 = 1000 from rfl] at hk
    have HK := Lib.hid hk
    clear hk
    have hmk := run_makeB k (by omega)
    have HRO := Lib.hid ho
    have HRC := Lib.hid hc
    have HKB : Hid (k ≤ 70368744177664) := Lib.hid (by omega)
    have HFS : Hid ((Dk.fresh m).size = n) := Lib.hid (by rw [fresh_size]; exact HN.out)
    by_cases h1 : o < 0
    · by_cases h3 : c < 0
      · have HE1 : Hid (readE (Dk.fresh m) false o c = 1) := Lib.hid (by unfold readE; rw [fresh_size, HN.out]; simp [inB]; omega)
        have HE2 : Hid ((if inB n o (zeroB k).length = true then (0 : Int) else 1) = 1) := Lib.hid (by rw [zeroB_length]; simp [inB]; omega)
        have HE3 : Hid ((if inB n o 1 = true then (0 : Int) else 1) = 1) := Lib.hid (by simp [inB]; omega)
        have hk := HK.out
        go_wp2_with fail
        refine (lw_read_any HL2.out (k := 0) rfl o c HRO.out HRC.out 1 HE1.out).mono ?_
        rintro e w3 ⟨A3, n3, c3, rfl, hb⟩
        have HL3 := Lib.hid (HL2.out.below hb)
        clear hb HE1
        go_wp2_with fail
        obtain ⟨D4, hD4, hw4⟩ := solo_write HFS.out o (zeroB k)
        have hcall := lw_write (HL3.out.alloc (.cells (madeCells #[.int .u8 0] k) 5)) (k := 0) rfl o (some ⟨w3.heap.size, 0, none⟩) (zeroB k) k k (zeroB_length k) HKB.out HRO.out (rd_made0 w3 k) (fun ad e => by cases e; exact HL3.out.notin (.inr (Nat.le_refl _)))
        rw [hw4, HE2.out] at hcall
        refine hcall.mono ?_
        rintro e w4 ⟨rfl, F4, hl4, _⟩
        have HL4 := Lib.hid hl4
        have HD4 := Lib.hid hD4
        clear hcall hl4 hw4 hD4 HE2 HL3
        go_wp2_with fail
        obtain ⟨D5, hD5, hw5⟩ := solo_rot HD4.out o 1
        have hcall := lw_rot HL4.out (k := 0) rfl o 1 1 rfl HRO.out
        rw [hw5, HE3.out] at hcall
        refine hcall.mono ?_
        rintro e w5 ⟨rfl, F5, hl5, _⟩
        have HL5 := Lib.hid hl5
        have HD5 : Hid ((⟨[D5], false, -1⟩ : St).at_ 0 = D5 ∧ D5.size = n) := Lib.hid ⟨rfl, hD5⟩
        clear hcall hl5 hw5 hD5 HE3 HL4
        go_wp2_with fail
        refine (st_size HL5.out.pw (k := 0) rfl).mono ?_
        rintro e w6 ⟨rfl, rfl⟩
        rw [HD5.out.1, HD5.out.2]
        go_wp2_with fail
        go_ret
        exact ⟨rfl, HW1.out.trans (HL5.out.be.mono HW1.out.size)⟩
      · have HE1 : Hid (readE (Dk.fresh m) false o c = 1) := Lib.hid (by unfold readE; rw [fresh_size, HN.out]; simp [inB]; omega)
        have HE2 : Hid ((if inB n o (zeroB k).length = true then (0 : Int) else 1) = 1) := Lib.hid (by rw [zeroB_length]; simp [inB]; omega)
        have HE3 : Hid ((if inB n o 1 = true then (0 : Int) else 1) = 1) := Lib.hid (by simp [inB]; omega)
        have hk : c % 1000 = (k : Int) := by rw [← HK.out]; exact mod_pos c 1000 (by omega) (by omega) (by omega)
        go_wp2_with fail
        refine (lw_read_any HL2.out (k := 0) rfl o c HRO.out HRC.out 1 HE1.out).mono ?_
        rintro e w3 ⟨A3, n3, c3, rfl, hb⟩
        have HL3 := Lib.hid (HL2.out.below hb)
        clear hb HE1
        go_wp2_with fail
        obtain ⟨D4, hD4, hw4⟩ := solo_write HFS.out o (zeroB k)
        have hcall := lw_write (HL3.out.alloc (.cells (madeCells #[.int .u8 0] k) 5)) (k := 0) rfl o (some ⟨w3.heap.size, 0, none⟩) (zeroB k) k k (zeroB_length k) HKB.out HRO.out (rd_made0 w3 k) (fun ad e => by cases e; exact HL3.out.notin (.inr (Nat.le_refl _)))
        rw [hw4, HE2.out] at hcall
        refine hcall.mono ?_
        rintro e w4 ⟨rfl, F4, hl4, _⟩
        have HL4 := Lib.hid hl4
        have HD4 := Lib.hid hD4
        clear hcall hl4 hw4 hD4 HE2 HL3
        go_wp2_with fail
        obtain ⟨D5, hD5, hw5⟩ := solo_rot HD4.out o 1
        have hcall := lw_rot HL4.out (k := 0) rfl o 1 1 rfl HRO.out
        rw [hw5, HE3.out] at hcall
        refine hcall.mono ?_
        rintro e w5 ⟨rfl, F5, hl5, _⟩
        have HL5 := Lib.hid hl5
        have HD5 : Hid ((⟨[D5], false, -1⟩ : St).at_ 0 = D5 ∧ D5.size = n) := Lib.hid ⟨rfl, hD5⟩
        clear hcall hl5 hw5 hD5 HE3 HL4
        go_wp2_with fail
        refine (st_size HL5.out.pw (k := 0) rfl).mono ?_
        rintro e w6 ⟨rfl, rfl⟩
        rw [HD5.out.1, HD5.out.2]
        go_wp2_with fail
        go_ret
        exact ⟨rfl, HW1.out.trans (HL5.out.be.mono HW1.out.size)⟩
    · by_cases h2 : o ≤ (n : Int)
      · have d2 : decide (o ≤ (n : Int)) = true := decide_eq_true h2
        by_cases h6 : o < (n : Int)
        · have d6 : decide (o < (n : Int)) = true := decide_eq_true h6
          by_cases h3 : c < 0
          · by_cases h4 : (k : Int) ≤ (n : Int) - o
            · have d4 : decide ((k : Int) ≤ (n : Int) - o) = true := decide_eq_true h4
              have HE1 : Hid (readE (Dk.fresh m) false o c = 1) := Lib.hid (by unfold readE; rw [fresh_size, HN.out]; simp [inB]; omega)
              have HE2 : Hid ((if inB n o (zeroB k).length = true then (0 : Int) else 1) = 0) := Lib.hid (by rw [zeroB_length]; simp [inB]; omega)
              have HE3 : Hid ((if inB n o 1 = true then (0 : Int) else 1) = 0) := Lib.hid (by simp [inB]; omega)
              have hk := HK.out
              go_wp2_with fail
              refine (lw_read_any HL2.out (k := 0) rfl o c HRO.out HRC.out 1 HE1.out).mono ?_
              rintro e w3 ⟨A3, n3, c3, rfl, hb⟩
              have HL3 := Lib.hid (HL2.out.below hb)
              clear hb HE1
              go_wp2_with fail
              obtain ⟨D4, hD4, hw4⟩ := solo_write HFS.out o (zeroB k)
              have hcall := lw_write (HL3.out.alloc (.cells (madeCells #[.int .u8 0] k) 5)) (k := 0) rfl o (some ⟨w3.heap.size, 0, none⟩) (zeroB k) k k (zeroB_length k) HKB.out HRO.out (rd_made0 w3 k) (fun ad e => by cases e; exact HL3.out.notin (.inr (Nat.le_refl _)))
              rw [hw4, HE2.out] at hcall
              refine hcall.mono ?_
              rintro e w4 ⟨rfl, F4, hl4, _⟩
              have HL4 := Lib.hid hl4
              have HD4 := Lib.hid hD4
              clear hcall hl4 hw4 hD4 HE2 HL3
              go_wp2_with fail
              obtain ⟨D5, hD5, hw5⟩ := solo_rot HD4.out o 1
              have hcall := lw_rot HL4.out (k := 0) rfl o 1 1 rfl HRO.out
              rw [hw5, HE3.out] at hcall
              refine hcall.mono ?_
              rintro e w5 ⟨rfl, F5, hl5, _⟩
              have HL5 := Lib.hid hl5
              have HD5 : Hid ((⟨[D5], false, -1⟩ : St).at_ 0 = D5 ∧ D5.size = n) := Lib.hid ⟨rfl, hD5⟩
              clear hcall hl5 hw5 hD5 HE3 HL4
              go_wp2_with fail
              refine (st_size HL5.out.pw (k := 0) rfl).mono ?_
              rintro e w6 ⟨rfl, rfl⟩
              rw [HD5.out.1, HD5.out.2]
              go_wp2_with fail
              go_ret
              exact ⟨rfl, HW1.out.trans (HL5.out.be.mono HW1.out.size)⟩
            · have d4 : decide ((k : Int) ≤ (n : Int) - o) = false := decide_eq_false h4
              have HE1 : Hid (readE (Dk.fresh m) false o c = 1) := Lib.hid (by unfold readE; rw [fresh_size, HN.out]; simp [inB]; omega)
              have HE2 : Hid ((if inB n o (zeroB k).length = true then (0 : Int) else 1) = 1) := Lib.hid (by rw [zeroB_length]; simp [inB]; omega)
              have HE3 : Hid ((if inB n o 1 = true then (0 : Int) else 1) = 0) := Lib.hid (by simp [inB]; omega)
              have hk := HK.out
              go_wp2_with fail
              refine (lw_read_any HL2.out (k := 0) rfl o c HRO.out HRC.out 1 HE1.out).mono ?_
              rintro e w3 ⟨A3, n3, c3, rfl, hb⟩
              have HL3 := Lib.hid (HL2.out.below hb)
              clear hb HE1
              go_wp2_with fail
              obtain ⟨D4, hD4, hw4⟩ := solo_write HFS.out o (zeroB k)
              have hcall := lw_write (HL3.out.alloc (.cells (madeCells #[.int .u8 0] k) 5)) (k := 0) rfl o (some ⟨w3.heap.size, 0, none⟩) (zeroB k) k k (zeroB_length k) HKB.out HRO.out (rd_made0 w3 k) (fun ad e => by cases e; exact HL3.out.notin (.inr (Nat.le_refl _)))
              rw [hw4, HE2.out] at hcall
              refine hcall.mono ?_
              rintro e w4 ⟨rfl, F4, hl4, _⟩
              have HL4 := Lib.hid hl4
              have HD4 := Lib.hid hD4
              clear hcall hl4 hw4 hD4 HE2 HL3
              go_wp2_with fail
              obtain ⟨D5, hD5, hw5⟩ := solo_rot HD4.out o 1
              have hcall := lw_rot HL4.out (k := 0) rfl o 1 1 rfl HRO.out
              rw [hw5, HE3.out] at hcall
              refine hcall.mono ?_
              rintro e w5 ⟨rfl, F5, hl5, _⟩
              have HL5 := Lib.hid hl5
              have HD5 : Hid ((⟨[D5], false, -1⟩ : St).at_ 0 = D5 ∧ D5.size = n) := Lib.hid ⟨rfl, hD5⟩
              clear hcall hl5 hw5 hD5 HE3 HL4
              go_wp2_with fail
              refine (st_size HL5.out.pw (k := 0) rfl).mono ?_
              rintro e w6 ⟨rfl, rfl⟩
              rw [HD5.out.1, HD5.out.2]
              go_wp2_with fail
              go_ret
              exact ⟨rfl, HW1.out.trans (HL5.out.be.mono HW1.out.size)⟩
          · by_cases h4 : c ≤ (n : Int) - o
            · have d4 : decide (c ≤ (n : Int) - o) = true := decide_eq_true h4
              by_cases h5 : (k : Int) ≤ (n : Int) - o
              · have d5 : decide ((k : Int) ≤ (n : Int) - o) = true := decide_eq_true h5
                have HE1 : Hid (readE (Dk.fresh m) false o c = 0) := Lib.hid (by unfold readE; rw [fresh_size, HN.out]; simp [inB]; omega)
                have HE2 : Hid ((if inB n o (zeroB k).length = true then (0 : Int) else 1) = 0) := Lib.hid (by rw [zeroB_length]; simp [inB]; omega)
                have HE3 : Hid ((if inB n o 1 = true then (0 : Int) else 1) = 0) := Lib.hid (by simp [inB]; omega)
                have hk : c % 1000 = (k : Int) := by rw [← HK.out]; exact mod_pos c 1000 (by omega) (by omega) (by omega)
                go_wp2_with fail
                refine (lw_read_any HL2.out (k := 0) rfl o c HRO.out HRC.out 0 HE1.out).mono ?_
                rintro e w3 ⟨A3, n3, c3, rfl, hb⟩
                have HL3 := Lib.hid (HL2.out.below hb)
                clear hb HE1
                go_wp2_with fail
                obtain ⟨D4, hD4, hw4⟩ := solo_write HFS.out o (zeroB k)
                have hcall := lw_write (HL3.out.alloc (.cells (madeCells #[.int .u8 0] k) 5)) (k := 0) rfl o (some ⟨w3.heap.size, 0, none⟩) (zeroB k) k k (zeroB_length k) HKB.out HRO.out (rd_made0 w3 k) (fun ad e => by cases e; exact HL3.out.notin (.inr (Nat.le_refl _)))
                rw [hw4, HE2.out] at hcall
                refine hcall.mono ?_
                rintro e w4 ⟨rfl, F4, hl4, _⟩
                have HL4 := Lib.hid hl4
                have HD4 := Lib.hid hD4
                clear hcall hl4 hw4 hD4 HE2 HL3
                go_wp2_with fail
                obtain ⟨D5, hD5, hw5⟩ := solo_rot HD4.out o 1
                have hcall := lw_rot HL4.out (k := 0) rfl o 1 1 rfl HRO.out
                rw [hw5, HE3.out] at hcall
                refine hcall.mono ?_
                rintro e w5 ⟨rfl, F5, hl5, _⟩
                have HL5 := Lib.hid hl5
                have HD5 : Hid ((⟨[D5], false, -1⟩ : St).at_ 0 = D5 ∧ D5.size = n) := Lib.hid ⟨rfl, hD5⟩
                clear hcall hl5 hw5 hD5 HE3 HL4
                go_wp2_with fail
                refine (st_size HL5.out.pw (k := 0) rfl).mono ?_
                rintro e w6 ⟨rfl, rfl⟩
                rw [HD5.out.1, HD5.out.2]
                go_wp2_with fail
                go_ret
                exact ⟨rfl, HW1.out.trans (HL5.out.be.mono HW1.out.size)⟩
              · have d5 : decide ((k : Int) ≤ (n : Int) - o) = false := decide_eq_false h5
                have HE1 : Hid (readE (Dk.fresh m) false o c = 0) := Lib.hid (by unfold readE; rw [fresh_size, HN.out]; simp [inB]; omega)
                have HE2 : Hid ((if inB n o (zeroB k).length = true then (0 : Int) else 1) = 1) := Lib.hid (by rw [zeroB_length]; simp [inB]; omega)
                have HE3 : Hid ((if inB n o 1 = true then (0 : Int) else 1) = 0) := Lib.hid (by simp [inB]; omega)
                have hk : c % 1000 = (k : Int) := by rw [← HK.out]; exact mod_pos c 1000 (by omega) (by omega) (by omega)
                go_wp2_with fail
                refine (lw_read_any HL2.out (k := 0) rfl o c HRO.out HRC.out 0 HE1.out).mono ?_
                rintro e w3 ⟨A3, n3, c3, rfl, hb⟩
                have HL3 := Lib.hid (HL2.out.below hb)
                clear hb HE1
                go_wp2_with fail
                obtain ⟨D4, hD4, hw4⟩ := solo_write HFS.out o (zeroB k)
                have hcall := lw_write (HL3.out.alloc (.cells (madeCells #[.int .u8 0] k) 5)) (k := 0) rfl o (some ⟨w3.heap.size, 0, none⟩) (zeroB k) k k (zeroB_length k) HKB.out HRO.out (rd_made0 w3 k) (fun ad e => by cases e; exact HL3.out.notin (.inr (Nat.le_refl _)))
                rw [hw4, HE2.out] at hcall
                refine hcall.mono ?_
                rintro e w4 ⟨rfl, F4, hl4, _⟩
                have HL4 := Lib.hid hl4
                have HD4 := Lib.hid hD4
                clear hcall hl4 hw4 hD4 HE2 HL3
                go_wp2_with fail
                obtain ⟨D5, hD5, hw5⟩ := solo_rot HD4.out o 1
                have hcall := lw_rot HL4.out (k := 0) rfl o 1 1 rfl HRO.out
                rw [hw5, HE3.out] at hcall
                refine hcall.mono ?_
                rintro e w5 ⟨rfl, F5, hl5, _⟩
                have HL5 := Lib.hid hl5
                have HD5 : Hid ((⟨[D5], false, -1⟩ : St).at_ 0 = D5 ∧ D5.size = n) := Lib.hid ⟨rfl, hD5⟩
                clear hcall hl5 hw5 hD5 HE3 HL4
                go_wp2_with fail
                refine (st_size HL5.out.pw (k := 0) rfl).mono ?_
                rintro e w6 ⟨rfl, rfl⟩
                rw [HD5.out.1, HD5.out.2]
                go_wp2_with fail
                go_ret
                exact ⟨rfl, HW1.out.trans (HL5.out.be.mono HW1.out.size)⟩
            · have d4 : decide (c ≤ (n : Int) - o) = false := decide_eq_false h4
              by_cases h5 : (k : Int) ≤ (n : Int) - o
              · have d5 : decide ((k : Int) ≤ (n : Int) - o) = true := decide_eq_true h5
                have HE1 : Hid (readE (Dk.fresh m) false o c = 1) := Lib.hid (by unfold readE; rw [fresh_size, HN.out]; simp [inB]; omega)
                have HE2 : Hid ((if inB n o (zeroB k).length = true then (0 : Int) else 1) = 0) := Lib.hid (by rw [zeroB_length]; simp [inB]; omega)
                have HE3 : Hid ((if inB n o 1 = true then (0 : Int) else 1) = 0) := Lib.hid (by simp [inB]; omega)
                have hk : c % 1000 = (k : Int) := by rw [← HK.out]; exact mod_pos c 1000 (by omega) (by omega) (by omega)
                go_wp2_with fail
                refine (lw_read_any HL2.out (k := 0) rfl o c HRO.out HRC.out 1 HE1.out).mono ?_
                rintro e w3 ⟨A3, n3, c3, rfl, hb⟩
                have HL3 := Lib.hid (HL2.out.below hb)
                clear hb HE1
                go_wp2_with fail
                obtain ⟨D4, hD4, hw4⟩ := solo_write HFS.out o (zeroB k)
                have hcall := lw_write (HL3.out.alloc (.cells (madeCells #[.int .u8 0] k) 5)) (k := 0) rfl o (some ⟨w3.heap.size, 0, none⟩) (zeroB k) k k (zeroB_length k) HKB.out HRO.out (rd_made0 w3 k) (fun ad e => by cases e; exact HL3.out.notin (.inr (Nat.le_refl _)))
                rw [hw4, HE2.out] at hcall
                refine hcall.mono ?_
                rintro e w4 ⟨rfl, F4, hl4, _⟩
                have HL4 := Lib.hid hl4
                have HD4 := Lib.hid hD4
                clear hcall hl4 hw4 hD4 HE2 HL3
                go_wp2_with fail
                obtain ⟨D5, hD5, hw5⟩ := solo_rot HD4.out o 1
                have hcall := lw_rot HL4.out (k := 0) rfl o 1 1 rfl HRO.out
                rw [hw5, HE3.out] at hcall
                refine hcall.mono ?_
                rintro e w5 ⟨rfl, F5, hl5, _⟩
                have HL5 := Lib.hid hl5
                have HD5 : Hid ((⟨[D5], false, -1⟩ : St).at_ 0 = D5 ∧ D5.size = n) := Lib.hid ⟨rfl, hD5⟩
                clear hcall hl5 hw5 hD5 HE3 HL4
                go_wp2_with fail
                refine (st_size HL5.out.pw (k := 0) rfl).mono ?_
                rintro e w6 ⟨rfl, rfl⟩
                rw [HD5.out.1, HD5.out.2]
                go_wp2_with fail
                go_ret
                exact ⟨rfl, HW1.out.trans (HL5.out.be.mono HW1.out.size)⟩
              · have d5 : decide ((k : Int) ≤ (n : Int) - o) = false := decide_eq_false h5
                have HE1 : Hid (readE (Dk.fresh m) false o c = 1) := Lib.hid (by unfold readE; rw [fresh_size, HN.out]; simp [inB]; omega)
                have HE2 : Hid ((if inB n o (zeroB k).length = true then (0 : Int) else 1) = 1) := Lib.hid (by rw [zeroB_length]; simp [inB]; omega)
                have HE3 : Hid ((if inB n o 1 = true then (0 : Int) else 1) = 0) := Lib.hid (by simp [inB]; omega)
                have hk : c % 1000 = (k : Int) := by rw [← HK.out]; exact mod_pos c 1000 (by omega) (by omega) (by omega)
                go_wp2_with fail
                refine (lw_read_any HL2.out (k := 0) rfl o c HRO.out HRC.out 1 HE1.out).mono ?_
                rintro e w3 ⟨A3, n3, c3, rfl, hb⟩
                have HL3 := Lib.hid (HL2.out.below hb)
                clear hb HE1
                go_wp2_with fail
                obtain ⟨D4, hD4, hw4⟩ := solo_write HFS.out o (zeroB k)
                have hcall := lw_write (HL3.out.alloc (.cells (madeCells #[.int .u8 0] k) 5)) (k := 0) rfl o (some ⟨w3.heap.size, 0, none⟩) (zeroB k) k k (zeroB_length k) HKB.out HRO.out (rd_made0 w3 k) (fun ad e => by cases e; exact HL3.out.notin (.inr (Nat.le_refl _)))
                rw [hw4, HE2.out] at hcall
                refine hcall.mono ?_
                rintro e w4 ⟨rfl, F4, hl4, _⟩
                have HL4 := Lib.hid hl4
                have HD4 := Lib.hid hD4
                clear hcall hl4 hw4 hD4 HE2 HL3
                go_wp2_with fail
                obtain ⟨D5, hD5, hw5⟩ := solo_rot HD4.out o 1
                have hcall := lw_rot HL4.out (k := 0) rfl o 1 1 rfl HRO.out
                rw [hw5, HE3.out] at hcall
                refine hcall.mono ?_
                rintro e w5 ⟨rfl, F5, hl5, _⟩
                have HL5 := Lib.hid hl5
                have HD5 : Hid ((⟨[D5], false, -1⟩ : St).at_ 0 = D5 ∧ D5.size = n) := Lib.hid ⟨rfl, hD5⟩
                clear hcall hl5 hw5 hD5 HE3 HL4
                go_wp2_with fail
                refine (st_size HL5.out.pw (k := 0) rfl).mono ?_
                rintro e w6 ⟨rfl, rfl⟩
                rw [HD5.out.1, HD5.out.2]
                go_wp2_with fail
                go_ret
                exact ⟨rfl, HW1.out.trans (HL5.out.be.mono HW1.out.size)⟩
        · have d6 : decide (o < (n : Int)) = false := decide_eq_false h6
          by_cases h3 : c < 0
          · by_cases h4 : (k : Int) ≤ (n : Int) - o
            · have d4 : decide ((k : Int) ≤ (n : Int) - o) = true := decide_eq_true h4
              have HE1 : Hid (readE (Dk.fresh m) false o c = 1) := Lib.hid (by unfold readE; rw [fresh_size, HN.out]; simp [inB]; omega)
              have HE2 : Hid ((if inB n o (zeroB k).length = true then (0 : Int) else 1) = 0) := Lib.hid (by rw [zeroB_length]; simp [inB]; omega)
              have HE3 : Hid ((if inB n o 1 = true then (0 : Int) else 1) = 1) := Lib.hid (by simp [inB]; omega)
              have hk := HK.out
              go_wp2_with fail
              refine (lw_read_any HL2.out (k := 0) rfl o c HRO.out HRC.out 1 HE1.out).mono ?_
              rintro e w3 ⟨A3, n3, c3, rfl, hb⟩
              have HL3 := Lib.hid (HL2.out.below hb)
              clear hb HE1
              go_wp2_with fail
              obtain ⟨D4, hD4, hw4⟩ := solo_write HFS.out o (zeroB k)
              have hcall := lw_write (HL3.out.alloc (.cells (madeCells #[.int .u8 0] k) 5)) (k := 0) rfl o (some ⟨w3.heap.size, 0, none⟩) (zeroB k) k k (zeroB_length k) HKB.out HRO.out (rd_made0 w3 k) (fun ad e => by cases e; exact HL3.out.notin (.inr (Nat.le_refl _)))
              rw [hw4, HE2.out] at hcall
              refine hcall.mono ?_
              rintro e w4 ⟨rfl, F4, hl4, _⟩
              have HL4 := Lib.hid hl4
              have HD4 := Lib.hid hD4
              clear hcall hl4 hw4 hD4 HE2 HL3
              go_wp2_with fail
              obtain ⟨D5, hD5, hw5⟩ := solo_rot HD4.out o 1
              have hcall := lw_rot HL4.out (k := 0) rfl o 1 1 rfl HRO.out
              rw [hw5, HE3.out] at hcall
              refine hcall.mono ?_
              rintro e w5 ⟨rfl, F5, hl5, _⟩
              have HL5 := Lib.hid hl5
              have HD5 : Hid ((⟨[D5], false, -1⟩ : St).at_ 0 = D5 ∧ D5.size = n) := Lib.hid ⟨rfl, hD5⟩
              clear hcall hl5 hw5 hD5 HE3 HL4
              go_wp2_with fail
              refine (st_size HL5.out.pw (k := 0) rfl).mono ?_
              rintro e w6 ⟨rfl, rfl⟩
              rw [HD5.out.1, HD5.out.2]
              go_wp2_with fail
              go_ret
              exact ⟨rfl, HW1.out.trans (HL5.out.be.mono HW1.out.size)⟩
            · have d4 : decide ((k : Int) ≤ (n : Int) - o) = false := decide_eq_false h4
              have HE1 : Hid (readE (Dk.fresh m) false o c = 1) := Lib.hid (by unfold readE; rw [fresh_size, HN.out]; simp [inB]; omega)
              have HE2 : Hid ((if inB n o (zeroB k).length = true then (0 : Int) else 1) = 1) := Lib.hid (by rw [zeroB_length]; simp [inB]; omega)
              have HE3 : Hid ((if inB n o 1 = true then (0 : Int) else 1) = 1) := Lib.hid (by simp [inB]; omega)
              have hk := HK.out
              go_wp2_with fail
              refine (lw_read_any HL2.out (k := 0) rfl o c HRO.out HRC.out 1 HE1.out).mono ?_
              rintro e w3 ⟨A3, n3, c3, rfl, hb⟩
              have HL3 := Lib.hid (HL2.out.below hb)
              clear hb HE1
              go_wp2_with fail
              obtain ⟨D4, hD4, hw4⟩ := solo_write HFS.out o (zeroB k)
              have hcall := lw_write (HL3.out.alloc (.cells (madeCells #[.int .u8 0] k) 5)) (k := 0) rfl o (some ⟨w3.heap.size, 0, none⟩) (zeroB k) k k (zeroB_length k) HKB.out HRO.out (rd_made0 w3 k) (fun ad e => by cases e; exact HL3.out.notin (.inr (Nat.le_refl _)))
              rw [hw4, HE2.out] at hcall
              refine hcall.mono ?_
              rintro e w4 ⟨rfl, F4, hl4, _⟩
              have HL4 := Lib.hid hl4
              have HD4 := Lib.hid hD4
              clear hcall hl4 hw4 hD4 HE2 HL3
              go_wp2_with fail
              obtain ⟨D5, hD5, hw5⟩ := solo_rot HD4.out o 1
              have hcall := lw_rot HL4.out (k := 0) rfl o 1 1 rfl HRO.out
              rw [hw5, HE3.out] at hcall
              refine hcall.mono ?_
              rintro e w5 ⟨rfl, F5, hl5, _⟩
              have HL5 := Lib.hid hl5
              have HD5 : Hid ((⟨[D5], false, -1⟩ : St).at_ 0 = D5 ∧ D5.size = n) := Lib.hid ⟨rfl, hD5⟩
              clear hcall hl5 hw5 hD5 HE3 HL4
              go_wp2_with fail
              refine (st_size HL5.out.pw (k := 0) rfl).mono ?_
              rintro e w6 ⟨rfl, rfl⟩
              rw [HD5.out.1, HD5.out.2]
              go_wp2_with fail
              go_ret
              exact ⟨rfl, HW1.out.trans (HL5.out.be.mono HW1.out.size)⟩
          · by_cases h4 : c ≤ (n : Int) - o
            · have d4 : decide (c ≤ (n : Int) - o) = true := decide_eq_true h4
              by_cases h5 : (k : Int) ≤ (n : Int) - o
              · have d5 : decide ((k : Int) ≤ (n : Int) - o) = true := decide_eq_true h5
                have HE1 : Hid (readE (Dk.fresh m) false o c = 0) := Lib.hid (by unfold readE; rw [fresh_size, HN.out]; simp [inB]; omega)
                have HE2 : Hid ((if inB n o (zeroB k).length = true then (0 : Int) else 1) = 0) := Lib.hid (by rw [zeroB_length]; simp [inB]; omega)
                have HE3 : Hid ((if inB n o 1 = true then (0 : Int) else 1) = 1) := Lib.hid (by simp [inB]; omega)
                have hk : c % 1000 = (k : Int) := by rw [← HK.out]; exact mod_pos c 1000 (by omega) (by omega) (by omega)
                go_wp2_with fail
                refine (lw_read_any HL2.out (k := 0) rfl o c HRO.out HRC.out 0 HE1.out).mono ?_
                rintro e w3 ⟨A3, n3, c3, rfl, hb⟩
                have HL3 := Lib.hid (HL2.out.below hb)
                clear hb HE1
                go_wp2_with fail
                obtain ⟨D4, hD4, hw4⟩ := solo_write HFS.out o (zeroB k)
                have hcall := lw_write (HL3.out.alloc (.cells (madeCells #[.int .u8 0] k) 5)) (k := 0) rfl o (some ⟨w3.heap.size, 0, none⟩) (zeroB k) k k (zeroB_length k) HKB.out HRO.out (rd_made0 w3 k) (fun ad e => by cases e; exact HL3.out.notin (.inr (Nat.le_refl _)))
                rw [hw4, HE2.out] at hcall
                refine hcall.mono ?_
                rintro e w4 ⟨rfl, F4, hl4, _⟩
                have HL4 := Lib.hid hl4
                have HD4 := Lib.hid hD4
                clear hcall hl4 hw4 hD4 HE2 HL3
                go_wp2_with fail
                obtain ⟨D5, hD5, hw5⟩ := solo_rot HD4.out o 1
                have hcall := lw_rot HL4.out (k := 0) rfl o 1 1 rfl HRO.out
                rw [hw5, HE3.out] at hcall
                refine hcall.mono ?_
                rintro e w5 ⟨rfl, F5, hl5, _⟩
                have HL5 := Lib.hid hl5
                have HD5 : Hid ((⟨[D5], false, -1⟩ : St).at_ 0 = D5 ∧ D5.size = n) := Lib.hid ⟨rfl, hD5⟩
                clear hcall hl5 hw5 hD5 HE3 HL4
                go_wp2_with fail
                refine (st_size HL5.out.pw (k := 0) rfl).mono ?_
                rintro e w6 ⟨rfl, rfl⟩
                rw [HD5.out.1, HD5.out.2]
                go_wp2_with fail
                go_ret
                exact ⟨rfl, HW1.out.trans (HL5.out.be.mono HW1.out.size)⟩
              · have d5 : decide ((k : Int) ≤ (n : Int) - o) = false := decide_eq_false h5
                have HE1 : Hid (readE (Dk.fresh m) false o c = 0) := Lib.hid (by unfold readE; rw [fresh_size, HN.out]; simp [inB]; omega)
                have HE2 : Hid ((if inB n o (zeroB k).length = true then (0 : Int) else 1) = 1) := Lib.hid (by rw [zeroB_length]; simp [inB]; omega)
                have HE3 : Hid ((if inB n o 1 = true then (0 : Int) else 1) = 1) := Lib.hid (by simp [inB]; omega)
                have hk : c % 1000 = (k : Int) := by rw [← HK.out]; exact mod_pos c 1000 (by omega) (by omega) (by omega)
                go_wp2_with fail
                refine (lw_read_any HL2.out (k := 0) rfl o c HRO.out HRC.out 0 HE1.out).mono ?_
                rintro e w3 ⟨A3, n3, c3, rfl, hb⟩
                have HL3 := Lib.hid (HL2.out.below hb)
                clear hb HE1
                go_wp2_with fail
                obtain ⟨D4, hD4, hw4⟩ := solo_write HFS.out o (zeroB k)
                have hcall := lw_write (HL3.out.alloc (.cells (madeCells #[.int .u8 0] k) 5)) (k := 0) rfl o (some ⟨w3.heap.size, 0, none⟩) (zeroB k) k k (zeroB_length k) HKB.out HRO.out (rd_made0 w3 k) (fun ad e => by cases e; exact HL3.out.notin (.inr (Nat.le_refl _)))
                rw [hw4, HE2.out] at hcall
                refine hcall.mono ?_
                rintro e w4 ⟨rfl, F4, hl4, _⟩
                have HL4 := Lib.hid hl4
                have HD4 := Lib.hid hD4
                clear hcall hl4 hw4 hD4 HE2 HL3
                go_wp2_with fail
                obtain ⟨D5, hD5, hw5⟩ := solo_rot HD4.out o 1
                have hcall := lw_rot HL4.out (k := 0) rfl o 1 1 rfl HRO.out
                rw [hw5, HE3.out] at hcall
                refine hcall.mono ?_
                rintro e w5 ⟨rfl, F5, hl5, _⟩
                have HL5 := Lib.hid hl5
                have HD5 : Hid ((⟨[D5], false, -1⟩ : St).at_ 0 = D5 ∧ D5.size = n) := Lib.hid ⟨rfl, hD5⟩
                clear hcall hl5 hw5 hD5 HE3 HL4
                go_wp2_with fail
                refine (st_size HL5.out.pw (k := 0) rfl).mono ?_
                rintro e w6 ⟨rfl, rfl⟩
                rw [HD5.out.1, HD5.out.2]
                go_wp2_with fail
                go_ret
                exact ⟨rfl, HW1.out.trans (HL5.out.be.mono HW1.out.size)⟩
            · have d4 : decide (c ≤ (n : Int) - o) = false := decide_eq_false h4
              by_cases h5 : (k : Int) ≤ (n : Int) - o
              · have d5 : decide ((k : Int) ≤ (n : Int) - o) = true := decide_eq_true h5
                have HE1 : Hid (readE (Dk.fresh m) false o c = 1) := Lib.hid (by unfold readE; rw [fresh_size, HN.out]; simp [inB]; omega)
                have HE2 : Hid ((if inB n o (zeroB k).length = true then (0 : Int) else 1) = 0) := Lib.hid (by rw [zeroB_length]; simp [inB]; omega)
                have HE3 : Hid ((if inB n o 1 = true then (0 : Int) else 1) = 1) := Lib.hid (by simp [inB]; omega)
                have hk : c % 1000 = (k : Int) := by rw [← HK.out]; exact mod_pos c 1000 (by omega) (by omega) (by omega)
                go_wp2_with fail
                refine (lw_read_any HL2.out (k := 0) rfl o c HRO.out HRC.out 1 HE1.out).mono ?_
                rintro e w3 ⟨A3, n3, c3, rfl, hb⟩
                have HL3 := Lib.hid (HL2.out.below hb)
                clear hb HE1
                go_wp2_with fail
                obtain ⟨D4, hD4, hw4⟩ := solo_write HFS.out o (zeroB k)
                have hcall := lw_write (HL3.out.alloc (.cells (madeCells #[.int .u8 0] k) 5)) (k := 0) rfl o (some ⟨w3.heap.size, 0, none⟩) (zeroB k) k k (zeroB_length k) HKB.out HRO.out (rd_made0 w3 k) (fun ad e => by cases e; exact HL3.out.notin (.inr (Nat.le_refl _)))
                rw [hw4, HE2.out] at hcall
                refine hcall.mono ?_
                rintro e w4 ⟨rfl, F4, hl4, _⟩
                have HL4 := Lib.hid hl4
                have HD4 := Lib.hid hD4
                clear hcall hl4 hw4 hD4 HE2 HL3
                go_wp2_with fail
                obtain ⟨D5, hD5, hw5⟩ := solo_rot HD4.out o 1
                have hcall := lw_rot HL4.out (k := 0) rfl o 1 1 rfl HRO.out
                rw [hw5, HE3.out] at hcall
                refine hcall.mono ?_
                rintro e w5 ⟨rfl, F5, hl5, _⟩
                have HL5 := Lib.hid hl5
                have HD5 : Hid ((⟨[D5], false, -1⟩ : St).at_ 0 = D5 ∧ D5.size = n) := Lib.hid ⟨rfl, hD5⟩
                clear hcall hl5 hw5 hD5 HE3 HL4
                go_wp2_with fail
                refine (st_size HL5.out.pw (k := 0) rfl).mono ?_
                rintro e w6 ⟨rfl, rfl⟩
                rw [HD5.out.1, HD5.out.2]
                go_wp2_with fail
                go_ret
                exact ⟨rfl, HW1.out.trans (HL5.out.be.mono HW1.out.size)⟩
              · have d5 : decide ((k : Int) ≤ (n : Int) - o) = false := decide_eq_false h5
                have HE1 : Hid (readE (Dk.fresh m) false o c = 1) := Lib.hid (by unfold readE; rw [fresh_size, HN.out]; simp [inB]; omega)
                have HE2 : Hid ((if inB n o (zeroB k).length = true then (0 : Int) else 1) = 1) := Lib.hid (by rw [zeroB_length]; simp [inB]; omega)
                have HE3 : Hid ((if inB n o 1 = true then (0 : Int) else 1) = 1) := Lib.hid (by simp [inB]; omega)
                have hk : c % 1000 = (k : Int) := by rw [← HK.out]; exact mod_pos c 1000 (by omega) (by omega) (by omega)
                go_wp2_with fail
                refine (lw_read_any HL2.out (k := 0) rfl o c HRO.out HRC.out 1 HE1.out).mono ?_
                rintro e w3 ⟨A3, n3, c3, rfl, hb⟩
                have HL3 := Lib.hid (HL2.out.below hb)
                clear hb HE1
                go_wp2_with fail
                obtain ⟨D4, hD4, hw4⟩ := solo_write HFS.out o (zeroB k)
                have hcall := lw_write (HL3.out.alloc (.cells (madeCells #[.int .u8 0] k) 5)) (k := 0) rfl o (some ⟨w3.heap.size, 0, none⟩) (zeroB k) k k (zeroB_length k) HKB.out HRO.out (rd_made0 w3 k) (fun ad e => by cases e; exact HL3.out.notin (.inr (Nat.le_refl _)))
                rw [hw4, HE2.out] at hcall
                refine hcall.mono ?_
                rintro e w4 ⟨rfl, F4, hl4, _⟩
                have HL4 := Lib.hid hl4
                have HD4 := Lib.hid hD4
                clear hcall hl4 hw4 hD4 HE2 HL3
                go_wp2_with fail
                obtain ⟨D5, hD5, hw5⟩ := solo_rot HD4.out o 1
                have hcall := lw_rot HL4.out (k := 0) rfl o 1 1 rfl HRO.out
                rw [hw5, HE3.out] at hcall
                refine hcall.mono ?_
                rintro e w5 ⟨rfl, F5, hl5, _⟩
                have HL5 := Lib.hid hl5
                have HD5 : Hid ((⟨[D5], false, -1⟩ : St).at_ 0 = D5 ∧ D5.size = n) := Lib.hid ⟨rfl, hD5⟩
                clear hcall hl5 hw5 hD5 HE3 HL4
                go_wp2_with fail
                refine (st_size HL5.out.pw (k := 0) rfl).mono ?_
                rintro e w6 ⟨rfl, rfl⟩
                rw [HD5.out.1, HD5.out.2]
                go_wp2_with fail
                go_ret
                exact ⟨rfl, HW1.out.trans (HL5.out.be.mono HW1.out.size)⟩
      · have d2 : decide (o ≤ (n : Int)) = false := decide_eq_false h2
        have d6 : decide (o < (n : Int)) = false := by simp; omega
        by_cases h3 : c < 0
        · have HE1 : Hid (readE (Dk.fresh m) false o c = 1) := Lib.hid (by unfold readE; rw [fresh_size, HN.out]; simp [inB]; omega)
          have HE2 : Hid ((if inB n o (zeroB k).length = true then (0 : Int) else 1) = 1) := Lib.hid (by rw [zeroB_length]; simp [inB]; omega)
          have HE3 : Hid ((if inB n o 1 = true then (0 : Int) else 1) = 1) := Lib.hid (by simp [inB]; omega)
          have hk := HK.out
          go_wp2_with fail
          refine (lw_read_any HL2.out (k := 0) rfl o c HRO.out HRC.out 1 HE1.out).mono ?_
          rintro e w3 ⟨A3, n3, c3, rfl, hb⟩
          have HL3 := Lib.hid (HL2.out.below hb)
          clear hb HE1
          go_wp2_with fail
          obtain ⟨D4, hD4, hw4⟩ := solo_write HFS.out o (zeroB k)
          have hcall := lw_write (HL3.out.alloc (.cells (madeCells #[.int .u8 0] k) 5)) (k := 0) rfl o (some ⟨w3.heap.size, 0, none⟩) (zeroB k) k k (zeroB_length k) HKB.out HRO.out (rd_made0 w3 k) (fun ad e => by cases e; exact HL3.out.notin (.inr (Nat.le_refl _)))
          rw [hw4, HE2.out] at hcall
          refine hcall.mono ?_
          rintro e w4 ⟨rfl, F4, hl4, _⟩
          have HL4 := Lib.hid hl4
          have HD4 := Lib.hid hD4
          clear hcall hl4 hw4 hD4 HE2 HL3
          go_wp2_with fail
          obtain ⟨D5, hD5, hw5⟩ := solo_rot HD4.out o 1
          have hcall := lw_rot HL4.out (k := 0) rfl o 1 1 rfl HRO.out
          rw [hw5, HE3.out] at hcall
          refine hcall.mono ?_
          rintro e w5 ⟨rfl, F5, hl5, _⟩
          have HL5 := Lib.hid hl5
          have HD5 : Hid ((⟨[D5], false, -1⟩ : St).at_ 0 = D5 ∧ D5.size = n) := Lib.hid ⟨rfl, hD5⟩
          clear hcall hl5 hw5 hD5 HE3 HL4
          go_wp2_with fail
          refine (st_size HL5.out.pw (k := 0) rfl).mono ?_
          rintro e w6 ⟨rfl, rfl⟩
          rw [HD5.out.1, HD5.out.2]
          go_wp2_with fail
          go_ret
          exact ⟨rfl, HW1.out.trans (HL5.out.be.mono HW1.out.size)⟩
        · have HE1 : Hid (readE (Dk.fresh m) false o c = 1) := Lib.hid (by unfold readE; rw [fresh_size, HN.out]; simp [inB]; omega)
          have HE2 : Hid ((if inB n o (zeroB k).length = true then (0 : Int) else 1) = 1) := Lib.hid (by rw [zeroB_length]; simp [inB]; omega)
          have HE3 : Hid ((if inB n o 1 = true then (0 : Int) else 1) = 1) := Lib.hid (by simp [inB]; omega)
          have hk : c % 1000 = (k : Int) := by rw [← HK.out]; exact mod_pos c 1000 (by omega) (by omega) (by omega)
          go_wp2_with fail
          refine (lw_read_any HL2.out (k := 0) rfl o c HRO.out HRC.out 1 HE1.out).mono ?_
          rintro e w3 ⟨A3, n3, c3, rfl, hb⟩
          have HL3 := Lib.hid (HL2.out.below hb)
          clear hb HE1
          go_wp2_with fail
          obtain ⟨D4, hD4, hw4⟩ := solo_write HFS.out o (zeroB k)
          have hcall := lw_write (HL3.out.alloc (.cells (madeCells #[.int .u8 0] k) 5)) (k := 0) rfl o (some ⟨w3.heap.size, 0, none⟩) (zeroB k) k k (zeroB_length k) HKB.out HRO.out (rd_made0 w3 k) (fun ad e => by cases e; exact HL3.out.notin (.inr (Nat.le_refl _)))
          rw [hw4, HE2.out] at hcall
          refine hcall.mono ?_
          rintro e w4 ⟨rfl, F4, hl4, _⟩
          have HL4 := Lib.hid hl4
          have HD4 := Lib.hid hD4
          clear hcall hl4 hw4 hD4 HE2 HL3
          go_wp2_with fail
          obtain ⟨D5, hD5, hw5⟩ := solo_rot HD4.out o 1
          have hcall := lw_rot HL4.out (k := 0) rfl o 1 1 rfl HRO.out
          rw [hw5, HE3.out] at hcall
          refine hcall.mono ?_
          rintro e w5 ⟨rfl, F5, hl5, _⟩
          have HL5 := Lib.hid hl5
          have HD5 : Hid ((⟨[D5], false, -1⟩ : St).at_ 0 = D5 ∧ D5.size = n) := Lib.hid ⟨rfl, hD5⟩
          clear hcall hl5 hw5 hD5 HE3 HL4
          go_wp2_with fail
          refine (st_size HL5.out.pw (k := 0) rfl).mono ?_
          rintro e w6 ⟨rfl, rfl⟩
          rw [HD5.out.1, HD5.out.2]
          go_wp2_with fail
          go_ret
          exact ⟨rfl, HW1.out.trans (HL5.out.be.mono HW1.out.size)⟩
  · have hsz' : sizeB nn = false := by simpa using hsz
    go_wp2_with fail
    refine (new_bad p nn _ hn hsz').mono ?_
    rintro e w3 ⟨rfl, rfl⟩
    have hsz2 := hsz'
    simp only [sizeB, decide_eq_false_iff_not] at hsz2
    clear hsz hsz'
    go_wp2_with fail
    refine (new_nil 128 _).mono ?_
    rintro e w3 ⟨rfl, rfl⟩
    by_cases h1 : nn < 128
    · go_wp2_with fail
      go_ret
      exact ⟨rfl, HW1.out.trans (HL.out.be.mono HW1.out.size)⟩
    · by_cases h2 : nn > 2097152
      · go_wp2_with fail
        go_ret
        exact ⟨rfl, HW1.out.trans (HL.out.be.mono HW1.out.size)⟩
      · have hmod : (nn % 128 != 0) = true := by rw [bne_iff_ne]; omega
        go_wp2_with fail
        go_ret
        exact ⟨rfl, HW1.out.trans (HL.out.be.mono HW1.out.size)⟩
end Go.Proofs.Ytoompglghjpapaa
