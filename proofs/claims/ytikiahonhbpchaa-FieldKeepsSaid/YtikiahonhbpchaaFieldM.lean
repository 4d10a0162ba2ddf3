/-
  Walks of the reference of package field: DocFirst at wide numbers; all of DocFirst.
-/
import Derived.Test.YtikiahonhbpchaaFieldL
namespace Go.Proofs.Ytikiahonhbpchaa
open Go.RowKit Fld
set_option linter.unusedVariables false
set_option linter.unusedSimpArgs false
attribute [local go_sem ↓] Go.wp_at_zero Go.wp_at_succ

theorem and48_64 : ∀ n : Fin 256, (bits .and .i64 (n.val : Int) 48 != 0) = decide (n.val / 16 % 4 ≠ 0) := by decide +kernel
theorem and8_64 : ∀ n : Fin 256, (bits .and .i64 (n.val : Int) 8 != 0) = decide (n.val / 8 % 2 = 1) := by decide +kernel
theorem val_fold (b : List UInt8) (c : Nat) : b.foldl (fun n x => n * 256 + x.toNat) c = c * 256 ^ b.length + b.foldl (fun n x => n * 256 + x.toNat) 0 := by
  induction b generalizing c with
  | nil => simp
  | cons y r ih =>
    simp only [List.foldl_cons, List.length_cons]
    rw [ih (c * 256 + y.toNat), ih (0 * 256 + y.toNat), Nat.pow_succ, Nat.add_mul, Nat.mul_assoc, Nat.mul_comm 256, Nat.zero_mul, Nat.zero_add]
    omega
theorem val_append (a b : List UInt8) : val (a ++ b) = val a * 256 ^ b.length + val b := by
  unfold val
  rw [List.foldl_append, val_fold]
theorem val_take_le (l : List UInt8) (j : Nat) : val (l.take j) ≤ val l := by
  have h := val_append (l.take j) (l.drop j)
  rw [List.take_append_drop] at h
  have hp : 1 ≤ 256 ^ (l.drop j).length := Nat.one_le_pow _ _ (by omega)
  have := Nat.mul_le_mul_left (val (l.take j)) hp
  omega
theorem val_top (l : List UInt8) (k : Nat) (hl : l.length = k) (hk : 1 ≤ k ∧ k ≤ 8) : 2 ^ 63 ≤ val l ↔ (k = 8 ∧ 128 ≤ (l.getD 0 0).toNat) := by
  cases l with
  | nil => simp at hl; omega
  | cons y r =>
    have h := val_append [y] r
    rw [List.singleton_append] at h
    have h1 : val [y] = y.toNat := by simp [val]
    have hr := val_lt r
    simp only [List.length_cons] at hl
    have hy := y.toNat_lt
    have hg : (y :: r).getD 0 0 = y := rfl
    rw [hg, h, h1]
    rw [show r.length = k - 1 by omega] at hr ⊢
    by_cases h8 : k = 8
    · subst h8
      have e : (256 : Nat) ^ (8 - 1) = 72057594037927936 := by decide
      rw [e] at hr ⊢
      constructor
      · intro h; exact ⟨rfl, by omega⟩
      · rintro ⟨_, h⟩; omega
    · constructor
      · intro hc
        have hp : 256 ^ (k - 1) ≤ 256 ^ 6 := Nat.pow_le_pow_right (by omega) (by omega)
        have e : (256 : Nat) ^ 6 = 281474976710656 := by decide
        rw [e] at hp
        have := Nat.mul_le_mul (show y.toNat ≤ 255 by omega) hp
        omega
      · rintro ⟨hc, _⟩; exact (h8 hc).elim
/-- back is what was read, just where the width fits -/
theorem back_iff {x : UInt8} {t : List UInt8} {k : Nat} {n : Int} (h64 : ¬ x.toNat < 64) (h128 : x.toNat < 128) (h48 : ¬ x.toNat / 16 % 4 ≠ 0) (hk : x.toNat % 8 + 1 = k) (hlen : ¬ (x :: t).length < 1 + k)
    (hm : ¬ 2 ^ 63 ≤ val (((x :: t).drop 1).take k)) (hn : (if x.toNat / 8 % 2 = 1 then -(val (((x :: t).drop 1).take k) : Int) - 1 else (val (((x :: t).drop 1).take k) : Int)) = n) :
    (encNum n = (x :: t).take (1 + k) → firstP (x :: t) = (⟨1, n, []⟩, 1 + k, 0)) ∧ (encNum n ≠ (x :: t).take (1 + k) → firstP (x :: t) = (none_, 0, 2)) := by
  have hw := firstP_wide (x := x) (t := t) h64 h128
  constructor
  · intro he
    have hl := congrArg List.length he
    rw [encNum_length, List.length_take] at hl
    rw [hw]
    exact wideP_ok h48 hk hlen rfl hm hn (by omega)
  · intro he
    rw [hw]
    refine wideP_width h48 hk hlen rfl hm hn fun hc => he ?_
    have hf : firstP (x :: t) = (⟨1, n, []⟩, 1 + k, 0) := by rw [hw]; exact wideP_ok h48 hk hlen rfl hm hn (by omega)
    have := (firstP_canon hf).1
    rwa [enc_number rfl] at this
theorem slice_strh (W : World) (S : ByteArray) (b : List UInt8) (h : S.data.toList = b) (j : Int) (k : Nat) (hj : j = k) (hb : k ≤ b.length) :
    (Instr.slice 9 (.string S) none (some (.int .i64 j)) none).run Try.prog W = .ok (.string ⟨(b.take k).toArray⟩) W := by
  have hsz := size_of_list S b h
  subst hj
  rw [run_slice_string_h W 9 S Try.underlying9 .i64 _ (by omega) (by omega), extract_str S b h]
  simp
theorem below_store3w (w : World) {w' : World} (h : Below w.heap.size w w') (u v t : Value) :
    Below w.heap.size w (((w'.setCell ⟨w.heap.size, 0, none⟩ u).setCell ⟨w.heap.size, 1, none⟩ v).setCell ⟨w.heap.size, 2, none⟩ t) :=
  ((h.setCell (Nat.le_refl _) _).setCell (Nat.le_refl _) _).setCell (Nat.le_refl _) _
set_option maxRecDepth 100000 in
set_option maxHeartbeats 2000000 in
theorem docfirst_wide (S : ByteArray) (w : World) (hm : S.size ≤ maxLen) (x : UInt8) (t : List UInt8) (hS : S.data.toList = x :: t) (hx1 : ¬ x.toNat < 64) (hx2 : x.toNat < 128) :
    Calls Try.prog 14 #[.string S] w fun e w' => DFirst S w e w' := by
  unfold DFirst
  have hsz : S.size = t.length + 1 := size_of_list S _ hS
  have hlen : 0 < S.size := by omega
  have h0 : S[0]'hlen = x := by
    rw [← str_get S 0 hlen, hS]; rfl
  have he : S.toList.isEmpty = false := by
    rw [ext_str S _ hS, ByteArray.toList_mk]; rfl
  have hl : (x :: t).length = t.length + 1 := rfl
  have hxl := x.toNat_lt
  have h48 := and48_64 ⟨x.toNat, by omega⟩
  have h8 := and8_64 ⟨x.toNat, by omega⟩
  simp only at h48 h8
  by_cases g1 : x.toNat / 16 % 4 ≠ 0
  · have hR : firstP S.data.toList = (none_, 0, 2) := by rw [hS, firstP_wide hx1 hx2, wideP_form g1]
    rw [hR, tri_none]
    rw [decide_eq_true g1] at h48
    unfold maxLen at hm
    clear hR hS hl hsz h8 g1
    go_enter Try.func14, Try.ntmps14
    go_wp2_with fail
    go_returns
    exact ⟨rfl, ((Below.refl _ _).alloc (Nat.le_refl _) _).alloc (by simp) _⟩
  · rw [decide_eq_false g1] at h48
    generalize hk : x.toNat % 8 + 1 = k
    have hk1 : 1 ≤ k ∧ k ≤ 8 := by omega
    have hki : (x.toNat : Int) % 8 + 1 = (k : Int) := by omega
    by_cases g2 : (x :: t).length < 1 + k
    · have hR : firstP S.data.toList = (none_, 0, 10) := by rw [hS, firstP_wide hx1 hx2, wideP_tail g1 hk g2]
      rw [hR, tri_none]
      have g2' : (S.size : Int) < 1 + (k : Int) := by omega
      unfold maxLen at hm
      clear hR hS hl hsz h8 g1 g2 hk
      go_enter Try.func14, Try.ntmps14
      go_wp2_with fail
      go_returns
      exact ⟨rfl, ((Below.refl _ _).alloc (Nat.le_refl _) _).alloc (by simp) _⟩
    · have g2' : ¬ (S.size : Int) < 1 + (k : Int) := by omega
      have hll : (((x :: t).drop 1).take k).length = k := by simp at g2 ⊢; omega
      have h1 : 1 < S.size := by omega
      have h1v : S[1]'h1 = (((x :: t).drop 1).take k).getD 0 0 := by
        rw [← str_get S 1 h1, hS]
        have : 0 < k := by omega
        simp [List.getD, List.getElem?_take, this]
      have htop := val_top _ k hll hk1
      rw [← h1v] at htop
      by_cases g3 : 2 ^ 63 ≤ val (((x :: t).drop 1).take k)
      · have hR : firstP S.data.toList = (none_, 0, 2) := by rw [hS, firstP_wide hx1 hx2, wideP_over g1 hk g2 rfl g3]
        rw [hR, tri_none]
        obtain ⟨hk8, hb1⟩ := htop.1 g3
        unfold maxLen at hm
        have hb1' : 128 ≤ ((S[1]'h1).toNat : Int) := by omega
        subst hk8
        clear hR hS hl h8 g1 g2 hk htop g3 hll h1v
        go_enter Try.func14, Try.ntmps14
        go_wp2_with fail
        go_returns
        exact ⟨rfl, ((Below.refl _ _).alloc (Nat.le_refl _) _).alloc (by simp) _⟩
      · have hlo : ¬ (128 ≤ (S[1]'h1).toNat ∧ k = 8) := fun h => g3 (htop.2 ⟨h.2, h.1⟩)
        have hbk := fun n => back_iff (n := n) hx1 hx2 g1 hk g2 g3
        have hstr := fun W => slice_strh W S _ hS (1 + (k : Int)) (1 + k) (by omega) (by omega)
        have hix : ∀ j, j < k → ∀ hh : j + 1 < S.size, S[j + 1]'hh = (((x :: t).drop 1).take k).getD j 0 := fun j hj hh => by
          rw [← str_get S (j + 1) hh, hS]
          simp [List.getD, List.getElem?_take, hj]
        have hvt := fun j => val_take_le (((x :: t).drop 1).take k) j
        have HSZ : Hid (1 + k ≤ S.size) := Lib.hid (by omega)
        rw [hS]
        generalize hBB : x :: t = B at *
        generalize hLL : (B.drop 1).take k = L at *
        have HBK := Lib.hid hbk
        have HIX := Lib.hid hix
        have HVT := Lib.hid hvt
        have HST := Lib.hid hstr
        have HLL := Lib.hid hll
        have HT8 := Lib.hid h8
        have HG3 := Lib.hid g3
        clear hbk hix hvt hstr hS hl htop g3 g1 g2 h8 hll h1v hk hsz hBB hLL
        unfold maxLen at hm
        by_cases hb1 : 128 ≤ (S[1]'h1).toNat
        · have hb1' : (128 : Int) ≤ ((S[1]'h1).toNat : Int) := by omega
          have hk8 : ((k : Int) == 8) = false := by rw [beq_eq_false_iff_ne]; omega
          clear hb1 hlo
          go_enter Try.func14, Try.ntmps14
          go_wp2_with fail
          go_loop [9, 8] (fun i n => ∃ (j : Nat), i = .int .i64 ((j : Int) + 1) ∧ n = .int .i64 ((val (L.take j) : Nat) : Int) ∧ j ≤ k) (fun i _ => k + 1 - (intOf i).toNat)
          case atStart => exact ⟨0, rfl, rfl, Nat.zero_le _⟩
          case round =>
            obtain ⟨j, rfl, rfl, hj⟩ := hrel
            by_cases hlt : j < k
            · have hjs : j + 1 < S.size := by have := HSZ.out; omega
              have hjs' : (j : Int) + 1 < (S.size : Int) := by omega
              have hjv := HIX.out j hlt hjs
              have hvs := val_take_succ L j (by have := HLL.out; omega)
              have hvl := HVT.out (j + 1)
              have hg := HG3.out
              have hle : val (L.take j) * 256 + (L.getD j 0).toNat < 9223372036854775808 := by omega
              have hc := getD_lt L j
              have HVS := Lib.hid hvs
              generalize val (L.take j) = v at *
              generalize L.getD j 0 = cc at *
              clear hvl hg hvs
              go_wp2_with fail
              exact ⟨⟨j + 1, int_eq (by omega), int_eq (by rw [HVS.out]; omega), by omega⟩, by simp [intOf]; omega⟩
            · have hjk : j = k := by omega
              subst hjk
              have hmL : val (L.take j) = val L := by rw [List.take_of_length_le (by have := HLL.out; omega)]
              have hg := HG3.out
              rw [hmL]
              generalize val L = m at *
              have hmlt : m < 9223372036854775808 := by omega
              clear hg hmL HIX HVT
              by_cases g4 : x.toNat / 8 % 2 = 1
              · have h8 := HT8.out
                rw [decide_eq_true g4] at h8
                have HB := Lib.hid (HBK.out (-(m : Int) - 1) (by rw [if_pos g4]))
                have HIT := Lib.hid (item_num (-(m : Int) - 1) (by omega))
                clear HBK HT8 g4 HG3
                unfold It.v twoS at HIT
                simp only at HIT
                go_wp2_with fail
                refine (HIT.out _).mono ?_
                rintro e w1 ⟨rfl, hb1⟩
                have hsz3 : (((w.alloc Zit).alloc Zit).alloc (.cells #[.int .i64 1, .int .i64 (-(m : Int) - 1), .string ⟨#[]⟩] 30)).heap.size = w.heap.size + 3 := by simp
                unfold Zit at hsz3
                have hB0 := ((((blk_zit w).alloc Zit).alloc (.cells #[.int .i64 1, .int .i64 (-(m : Int) - 1), .string ⟨#[]⟩] 30)).below hb1 (by simp <;> omega))
                have hB1 := (((blk_zit (w.alloc Zit)).alloc (.cells #[.int .i64 1, .int .i64 (-(m : Int) - 1), .string ⟨#[]⟩] 30)).below hb1 (by simp <;> omega))
                have hB2 := ((Blk.new ((w.alloc Zit).alloc Zit) 30 #[.int .i64 1, .int .i64 (-(m : Int) - 1), .string ⟨#[]⟩]).below hb1 (by simp <;> omega))
                have e1 : (w.alloc Zit).heap.size = w.heap.size + 1 := by simp
                have e2 : ((w.alloc Zit).alloc Zit).heap.size = w.heap.size + 2 := by simp
                rw [e1] at hB1
                rw [e2] at hB2
                have HW := Lib.hid (below_store3w w (((((Below.refl w.heap.size w).alloc (Nat.le_refl _) Zit).alloc (by simp) Zit).alloc (by simp <;> omega) (.cells #[.int .i64 1, .int .i64 (-(m : Int) - 1), .string ⟨#[]⟩] 30)).trans (hb1.mono (by simp <;> omega))))
                clear hb1 hsz3 e1 e2
                obtain ⟨c0, c1, c2, f0, f1, f2, r0, r1', r2⟩ := blk3 hB0
                have r1 := fun u v => r1' _ u v rfl
                have d0 := hB1.cell 0
                have d1 := hB1.cell 1
                have d2 := hB1.cell 2
                have k0 := hB2.cell 0
                have k1 := hB2.cell 1
                have k2 := hB2.cell 2
                simp at d0 d1 d2 k0 k1 k2
                clear hB0 hB1 hB2 r1'
                have hst := HST.out
                have HSB := Lib.hid (str_beq (encNum (-(m : Int) - 1)) (B.take (1 + j)))
                by_cases g5 : encNum (-(m : Int) - 1) = B.take (1 + j)
                · have hR := HB.out.1 g5
                  have hEQ : (((⟨(encNum (-(m : Int) - 1)).toArray⟩ : ByteArray).toList == (⟨(B.take (1 + j)).toArray⟩ : ByteArray).toList)) = true := by rw [HSB.out, g5]; simp
                  have HRR := Lib.hid hR
                  clear hR HB HSB g5 HST
                  generalize (⟨(encNum (-(m : Int) - 1)).toArray⟩ : ByteArray) = T at *
                  generalize (⟨(B.take (1 + j)).toArray⟩ : ByteArray) = U at *
                  go_wp2_with fail
                  refine bodyPost_ret (by simp [results, Try.results14, go_sem, r0, r1, r2]; rfl) rfl ?_
                  exact ⟨by rw [HRR.out, tri_agg, one_add_int], HW.out _ _ _⟩
                · have hR := HB.out.2 g5
                  have hEQ : (((⟨(encNum (-(m : Int) - 1)).toArray⟩ : ByteArray).toList == (⟨(B.take (1 + j)).toArray⟩ : ByteArray).toList)) = false := by rw [HSB.out]; simpa using g5
                  have HRR := Lib.hid hR
                  clear hR HB HSB g5 HST
                  generalize (⟨(encNum (-(m : Int) - 1)).toArray⟩ : ByteArray) = T at *
                  generalize (⟨(B.take (1 + j)).toArray⟩ : ByteArray) = U at *
                  go_wp2_with fail
                  refine bodyPost_ret (by simp [results, Try.results14, go_sem, r0, r1, r2]; rfl) rfl ?_
                  exact ⟨by rw [HRR.out, tri_none], HW.out _ _ _⟩
              · have h8 := HT8.out
                rw [decide_eq_false g4] at h8
                have HB := Lib.hid (HBK.out (m : Int) (by rw [if_neg g4]))
                have HIT := Lib.hid (item_num (m : Int) (by omega))
                clear HBK HT8 g4 HG3
                unfold It.v twoS at HIT
                simp only at HIT
                go_wp2_with fail
                refine (HIT.out _).mono ?_
                rintro e w1 ⟨rfl, hb1⟩
                have hsz3 : (((w.alloc Zit).alloc Zit).alloc (.cells #[.int .i64 1, .int .i64 (m : Int), .string ⟨#[]⟩] 30)).heap.size = w.heap.size + 3 := by simp
                unfold Zit at hsz3
                have hB0 := ((((blk_zit w).alloc Zit).alloc (.cells #[.int .i64 1, .int .i64 (m : Int), .string ⟨#[]⟩] 30)).below hb1 (by simp <;> omega))
                have hB1 := (((blk_zit (w.alloc Zit)).alloc (.cells #[.int .i64 1, .int .i64 (m : Int), .string ⟨#[]⟩] 30)).below hb1 (by simp <;> omega))
                have hB2 := ((Blk.new ((w.alloc Zit).alloc Zit) 30 #[.int .i64 1, .int .i64 (m : Int), .string ⟨#[]⟩]).below hb1 (by simp <;> omega))
                have e1 : (w.alloc Zit).heap.size = w.heap.size + 1 := by simp
                have e2 : ((w.alloc Zit).alloc Zit).heap.size = w.heap.size + 2 := by simp
                rw [e1] at hB1
                rw [e2] at hB2
                have HW := Lib.hid (below_store3w w (((((Below.refl w.heap.size w).alloc (Nat.le_refl _) Zit).alloc (by simp) Zit).alloc (by simp <;> omega) (.cells #[.int .i64 1, .int .i64 (m : Int), .string ⟨#[]⟩] 30)).trans (hb1.mono (by simp <;> omega))))
                clear hb1 hsz3 e1 e2
                obtain ⟨c0, c1, c2, f0, f1, f2, r0, r1', r2⟩ := blk3 hB0
                have r1 := fun u v => r1' _ u v rfl
                have d0 := hB1.cell 0
                have d1 := hB1.cell 1
                have d2 := hB1.cell 2
                have k0 := hB2.cell 0
                have k1 := hB2.cell 1
                have k2 := hB2.cell 2
                simp at d0 d1 d2 k0 k1 k2
                clear hB0 hB1 hB2 r1'
                have hst := HST.out
                have HSB := Lib.hid (str_beq (encNum (m : Int)) (B.take (1 + j)))
                by_cases g5 : encNum (m : Int) = B.take (1 + j)
                · have hR := HB.out.1 g5
                  have hEQ : (((⟨(encNum (m : Int)).toArray⟩ : ByteArray).toList == (⟨(B.take (1 + j)).toArray⟩ : ByteArray).toList)) = true := by rw [HSB.out, g5]; simp
                  have HRR := Lib.hid hR
                  clear hR HB HSB g5 HST
                  generalize (⟨(encNum (m : Int)).toArray⟩ : ByteArray) = T at *
                  generalize (⟨(B.take (1 + j)).toArray⟩ : ByteArray) = U at *
                  go_wp2_with fail
                  refine bodyPost_ret (by simp [results, Try.results14, go_sem, r0, r1, r2]; rfl) rfl ?_
                  exact ⟨by rw [HRR.out, tri_agg, one_add_int], HW.out _ _ _⟩
                · have hR := HB.out.2 g5
                  have hEQ : (((⟨(encNum (m : Int)).toArray⟩ : ByteArray).toList == (⟨(B.take (1 + j)).toArray⟩ : ByteArray).toList)) = false := by rw [HSB.out]; simpa using g5
                  have HRR := Lib.hid hR
                  clear hR HB HSB g5 HST
                  generalize (⟨(encNum (m : Int)).toArray⟩ : ByteArray) = T at *
                  generalize (⟨(B.take (1 + j)).toArray⟩ : ByteArray) = U at *
                  go_wp2_with fail
                  refine bodyPost_ret (by simp [results, Try.results14, go_sem, r0, r1, r2]; rfl) rfl ?_
                  exact ⟨by rw [HRR.out, tri_none], HW.out _ _ _⟩
        · have hb1' : ((S[1]'h1).toNat : Int) < 128 := by omega
          clear hb1 hlo
          go_enter Try.func14, Try.ntmps14
          go_wp2_with fail
          go_loop [9, 8] (fun i n => ∃ (j : Nat), i = .int .i64 ((j : Int) + 1) ∧ n = .int .i64 ((val (L.take j) : Nat) : Int) ∧ j ≤ k) (fun i _ => k + 1 - (intOf i).toNat)
          case atStart => exact ⟨0, rfl, rfl, Nat.zero_le _⟩
          case round =>
            obtain ⟨j, rfl, rfl, hj⟩ := hrel
            by_cases hlt : j < k
            · have hjs : j + 1 < S.size := by have := HSZ.out; omega
              have hjs' : (j : Int) + 1 < (S.size : Int) := by omega
              have hjv := HIX.out j hlt hjs
              have hvs := val_take_succ L j (by have := HLL.out; omega)
              have hvl := HVT.out (j + 1)
              have hg := HG3.out
              have hle : val (L.take j) * 256 + (L.getD j 0).toNat < 9223372036854775808 := by omega
              have hc := getD_lt L j
              have HVS := Lib.hid hvs
              generalize val (L.take j) = v at *
              generalize L.getD j 0 = cc at *
              clear hvl hg hvs
              go_wp2_with fail
              exact ⟨⟨j + 1, int_eq (by omega), int_eq (by rw [HVS.out]; omega), by omega⟩, by simp [intOf]; omega⟩
            · have hjk : j = k := by omega
              subst hjk
              have hmL : val (L.take j) = val L := by rw [List.take_of_length_le (by have := HLL.out; omega)]
              have hg := HG3.out
              rw [hmL]
              generalize val L = m at *
              have hmlt : m < 9223372036854775808 := by omega
              clear hg hmL HIX HVT
              by_cases g4 : x.toNat / 8 % 2 = 1
              · have h8 := HT8.out
                rw [decide_eq_true g4] at h8
                have HB := Lib.hid (HBK.out (-(m : Int) - 1) (by rw [if_pos g4]))
                have HIT := Lib.hid (item_num (-(m : Int) - 1) (by omega))
                clear HBK HT8 g4 HG3
                unfold It.v twoS at HIT
                simp only at HIT
                go_wp2_with fail
                refine (HIT.out _).mono ?_
                rintro e w1 ⟨rfl, hb1⟩
                have hsz3 : (((w.alloc Zit).alloc Zit).alloc (.cells #[.int .i64 1, .int .i64 (-(m : Int) - 1), .string ⟨#[]⟩] 30)).heap.size = w.heap.size + 3 := by simp
                unfold Zit at hsz3
                have hB0 := ((((blk_zit w).alloc Zit).alloc (.cells #[.int .i64 1, .int .i64 (-(m : Int) - 1), .string ⟨#[]⟩] 30)).below hb1 (by simp <;> omega))
                have hB1 := (((blk_zit (w.alloc Zit)).alloc (.cells #[.int .i64 1, .int .i64 (-(m : Int) - 1), .string ⟨#[]⟩] 30)).below hb1 (by simp <;> omega))
                have hB2 := ((Blk.new ((w.alloc Zit).alloc Zit) 30 #[.int .i64 1, .int .i64 (-(m : Int) - 1), .string ⟨#[]⟩]).below hb1 (by simp <;> omega))
                have e1 : (w.alloc Zit).heap.size = w.heap.size + 1 := by simp
                have e2 : ((w.alloc Zit).alloc Zit).heap.size = w.heap.size + 2 := by simp
                rw [e1] at hB1
                rw [e2] at hB2
                have HW := Lib.hid (below_store3w w (((((Below.refl w.heap.size w).alloc (Nat.le_refl _) Zit).alloc (by simp) Zit).alloc (by simp <;> omega) (.cells #[.int .i64 1, .int .i64 (-(m : Int) - 1), .string ⟨#[]⟩] 30)).trans (hb1.mono (by simp <;> omega))))
                clear hb1 hsz3 e1 e2
                obtain ⟨c0, c1, c2, f0, f1, f2, r0, r1', r2⟩ := blk3 hB0
                have r1 := fun u v => r1' _ u v rfl
                have d0 := hB1.cell 0
                have d1 := hB1.cell 1
                have d2 := hB1.cell 2
                have k0 := hB2.cell 0
                have k1 := hB2.cell 1
                have k2 := hB2.cell 2
                simp at d0 d1 d2 k0 k1 k2
                clear hB0 hB1 hB2 r1'
                have hst := HST.out
                have HSB := Lib.hid (str_beq (encNum (-(m : Int) - 1)) (B.take (1 + j)))
                by_cases g5 : encNum (-(m : Int) - 1) = B.take (1 + j)
                · have hR := HB.out.1 g5
                  have hEQ : (((⟨(encNum (-(m : Int) - 1)).toArray⟩ : ByteArray).toList == (⟨(B.take (1 + j)).toArray⟩ : ByteArray).toList)) = true := by rw [HSB.out, g5]; simp
                  have HRR := Lib.hid hR
                  clear hR HB HSB g5 HST
                  generalize (⟨(encNum (-(m : Int) - 1)).toArray⟩ : ByteArray) = T at *
                  generalize (⟨(B.take (1 + j)).toArray⟩ : ByteArray) = U at *
                  go_wp2_with fail
                  refine bodyPost_ret (by simp [results, Try.results14, go_sem, r0, r1, r2]; rfl) rfl ?_
                  exact ⟨by rw [HRR.out, tri_agg, one_add_int], HW.out _ _ _⟩
                · have hR := HB.out.2 g5
                  have hEQ : (((⟨(encNum (-(m : Int) - 1)).toArray⟩ : ByteArray).toList == (⟨(B.take (1 + j)).toArray⟩ : ByteArray).toList)) = false := by rw [HSB.out]; simpa using g5
                  have HRR := Lib.hid hR
                  clear hR HB HSB g5 HST
                  generalize (⟨(encNum (-(m : Int) - 1)).toArray⟩ : ByteArray) = T at *
                  generalize (⟨(B.take (1 + j)).toArray⟩ : ByteArray) = U at *
                  go_wp2_with fail
                  refine bodyPost_ret (by simp [results, Try.results14, go_sem, r0, r1, r2]; rfl) rfl ?_
                  exact ⟨by rw [HRR.out, tri_none], HW.out _ _ _⟩
              · have h8 := HT8.out
                rw [decide_eq_false g4] at h8
                have HB := Lib.hid (HBK.out (m : Int) (by rw [if_neg g4]))
                have HIT := Lib.hid (item_num (m : Int) (by omega))
                clear HBK HT8 g4 HG3
                unfold It.v twoS at HIT
                simp only at HIT
                go_wp2_with fail
                refine (HIT.out _).mono ?_
                rintro e w1 ⟨rfl, hb1⟩
                have hsz3 : (((w.alloc Zit).alloc Zit).alloc (.cells #[.int .i64 1, .int .i64 (m : Int), .string ⟨#[]⟩] 30)).heap.size = w.heap.size + 3 := by simp
                unfold Zit at hsz3
                have hB0 := ((((blk_zit w).alloc Zit).alloc (.cells #[.int .i64 1, .int .i64 (m : Int), .string ⟨#[]⟩] 30)).below hb1 (by simp <;> omega))
                have hB1 := (((blk_zit (w.alloc Zit)).alloc (.cells #[.int .i64 1, .int .i64 (m : Int), .string ⟨#[]⟩] 30)).below hb1 (by simp <;> omega))
                have hB2 := ((Blk.new ((w.alloc Zit).alloc Zit) 30 #[.int .i64 1, .int .i64 (m : Int), .string ⟨#[]⟩]).below hb1 (by simp <;> omega))
                have e1 : (w.alloc Zit).heap.size = w.heap.size + 1 := by simp
                have e2 : ((w.alloc Zit).alloc Zit).heap.size = w.heap.size + 2 := by simp
                rw [e1] at hB1
                rw [e2] at hB2
                have HW := Lib.hid (below_store3w w (((((Below.refl w.heap.size w).alloc (Nat.le_refl _) Zit).alloc (by simp) Zit).alloc (by simp <;> omega) (.cells #[.int .i64 1, .int .i64 (m : Int), .string ⟨#[]⟩] 30)).trans (hb1.mono (by simp <;> omega))))
                clear hb1 hsz3 e1 e2
                obtain ⟨c0, c1, c2, f0, f1, f2, r0, r1', r2⟩ := blk3 hB0
                have r1 := fun u v => r1' _ u v rfl
                have d0 := hB1.cell 0
                have d1 := hB1.cell 1
                have d2 := hB1.cell 2
                have k0 := hB2.cell 0
                have k1 := hB2.cell 1
                have k2 := hB2.cell 2
                simp at d0 d1 d2 k0 k1 k2
                clear hB0 hB1 hB2 r1'
                have hst := HST.out
                have HSB := Lib.hid (str_beq (encNum (m : Int)) (B.take (1 + j)))
                by_cases g5 : encNum (m : Int) = B.take (1 + j)
                · have hR := HB.out.1 g5
                  have hEQ : (((⟨(encNum (m : Int)).toArray⟩ : ByteArray).toList == (⟨(B.take (1 + j)).toArray⟩ : ByteArray).toList)) = true := by rw [HSB.out, g5]; simp
                  have HRR := Lib.hid hR
                  clear hR HB HSB g5 HST
                  generalize (⟨(encNum (m : Int)).toArray⟩ : ByteArray) = T at *
                  generalize (⟨(B.take (1 + j)).toArray⟩ : ByteArray) = U at *
                  go_wp2_with fail
                  refine bodyPost_ret (by simp [results, Try.results14, go_sem, r0, r1, r2]; rfl) rfl ?_
                  exact ⟨by rw [HRR.out, tri_agg, one_add_int], HW.out _ _ _⟩
                · have hR := HB.out.2 g5
                  have hEQ : (((⟨(encNum (m : Int)).toArray⟩ : ByteArray).toList == (⟨(B.take (1 + j)).toArray⟩ : ByteArray).toList)) = false := by rw [HSB.out]; simpa using g5
                  have HRR := Lib.hid hR
                  clear hR HB HSB g5 HST
                  generalize (⟨(encNum (m : Int)).toArray⟩ : ByteArray) = T at *
                  generalize (⟨(B.take (1 + j)).toArray⟩ : ByteArray) = U at *
                  go_wp2_with fail
                  refine bodyPost_ret (by simp [results, Try.results14, go_sem, r0, r1, r2]; rfl) rfl ?_
                  exact ⟨by rw [HRR.out, tri_none], HW.out _ _ _⟩
theorem docfirst_any (S : ByteArray) (w : World) (hm : S.size ≤ maxLen) : Calls Try.prog 14 #[.string S] w fun e w' => DFirst S w e w' := by
  cases hS : S.data.toList with
  | nil => exact docfirst_nil S w hS
  | cons x t =>
    by_cases h1 : x.toNat < 64
    · exact docfirst_low S w hm x t hS h1
    · by_cases h2 : x.toNat < 128
      · exact docfirst_wide S w hm x t hS h1 h2
      · by_cases h3 : x.toNat < 255
        · exact docfirst_run S w hm x t hS (by omega) h3
        · exact docfirst_long S w hm x t hS h3
end Go.Proofs.Ytikiahonhbpchaa
