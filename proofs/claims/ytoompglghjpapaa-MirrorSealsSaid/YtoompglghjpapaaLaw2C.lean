/-
  Walk: the law MirrorSeals: a seal tells where bytes were laid, how many, and their sums; a seal by hand is as good.
-/
import Derived.Test.YtoompglghjpapaaMirM
import Derived.Test.YtoompglghjpapaaNamesE
import Derived.Test.YtoompglghjpapaaSumsB
import Derived.Laws.StructEq
import Derived.Deep.RegionLaw
import Derived.Deep.CutBlock
import Derived.Deep.CutRange
namespace Go.Proofs.Ytoompglghjpapaa
open Go.RowKit Crc
set_option linter.unusedVariables false
set_option linter.unusedSimpArgs false
attribute [local go_sem ↓] Go.wp_at_zero Go.wp_at_succ

theorem str_pos {T : ByteArray} (h : 0 < T.size) : T.toList.isEmpty = false := by
  rw [ByteArray.toList_eq]
  have h1 : T.data.toList.length = T.size := str_len T
  cases hd : T.data.toList with
  | nil => rw [hd] at h1; simp at h1; omega
  | cons x l => rfl
theorem str_zero {T : ByteArray} (h : T.size = 0) : T.toList.isEmpty = true := by
  rw [ByteArray.toList_eq]
  have h1 : T.data.toList.length = T.size := str_len T
  rw [List.eq_nil_of_length_eq_zero (l := T.data.toList) (by omega)]; rfl
theorem bytes_back (T : ByteArray) : (⟨T.data.toList.toArray⟩ : ByteArray) = T := by apply ByteArray.ext; simp
/-- the reference's sums of a text -/
theorem refcrc_at (T : ByteArray) (X : Int) (w : World) (hm : T.size ≤ maxLen) (hX : crcI T.data.toList = X) : Calls Try.prog 16 #[.string T] w fun e w' => e = .returned (.int .i64 X) ∧ ∃ n, w' = w.drewN n := by
  rw [← hX]; exact refCrc32_any T w hm
theorem refmd5_at (T : ByteArray) (Y : ByteArray) (w : World) (hm : T.size ≤ 70368744177000) (hY : md5T T.data.toList = Y) : Calls Try.prog 17 #[.string T] w fun e w' => e = .returned (.string Y) ∧ Below w.heap.size w w' := by
  rw [← hY]; exact R4.refmd5_any T w hm
theorem run_eq_seal (o z c : Int) (t : ByteArray) (w : World) : (Op.equalIn 10000 28 (.agg #[.int .i64 o, .int .i64 z, .int .i64 c, .string t]) (.agg #[.int .i64 o, .int .i64 z, .int .i64 c, .string t])).run Try.prog w = .ok true w := by
  rw [run_equalIn_struct w 9999 28 _ _ (by kernel_rfl) (by kernel_rfl)]
  simp [Op.eqFields, Program.fieldsOf, Try.underlying28, go_sem]
theorem run_neq_seal (o z c : Int) (t : ByteArray) (w : World) : (binOp .neq 28 (.agg #[.int .i64 o, .int .i64 z, .int .i64 c, .string t]) (.agg #[.int .i64 o, .int .i64 z, .int .i64 c, .string t])).run Try.prog w = .ok (.bool false) w := by
  rw [run_neq_struct, run_eq_seal]; rfl
set_option maxRecDepth 100000 in
set_option maxHeartbeats 8000000 in
theorem MirrorSeals_walk (B1 : ByteArray) (xo xt : Int) (w : World) (h1 : B1.size ≤ maxLen) (hxo : -9223372036854775808 ≤ xo ∧ xo ≤ 9223372036854775807) (hxt : -9223372036854775808 ≤ xt ∧ xt ≤ 9223372036854775807) :
    Calls Try.prog 3 #[.string B1, .int .i64 xo, .int .i64 xt] w fun e w' => e = .returned (.bool true) ∧ Below w.heap.size w w' := by
  unfold maxLen at h1
  obtain ⟨T, hT⟩ : ∃ T, B1.extract 0 (min (B1.size : Int) 500).toNat = T := ⟨_, rfl⟩
  obtain ⟨t, ht⟩ : ∃ t, T.size = t := ⟨_, rfl⟩
  have ht9 : t ≤ 500 := by rw [← ht, ← hT]; simp [ByteArray.size_extract]; omega
  obtain ⟨off, hoff, hoff1⟩ := cut_mod xo 139 (by omega)
  rw [show ((139 : Nat) : Int) + 1 = 140 from rfl] at hoff
  go_enter Try.func3, Try.ntmps3
  go_wp2_with fail
  refine (bright_any w).mono ?_
  rintro e w1 ⟨rfl, hb1⟩
  have HW1 := Lib.hid hb1
  clear hb1
  go_wp2_with fail
  refine (build_any w1 2 (by omega) (by omega)).mono ?_
  rintro e w3 ⟨p, G, as_, m, F, rfl, hm, hlen⟩
  have HM3 : Hid (Mr w1 w3 p G as_ (onN 2 (Dk.fresh 5)) m F) := Lib.hid hm
  have HLEN := Lib.hid hlen
  have HEND3 : Hid (Below w.heap.size w w3) := Lib.hid (HW1.out.trans (HM3.out.lw.be.mono HW1.out.size))
  clear hm hlen
  by_cases z1 : t = 0
  · have e1 := str_zero (T := T) (by omega)
    go_wp2_with fail
    go_ret
    exact ⟨rfl, HEND3.out⟩
  have e1 := str_pos (T := T) (by omega)
  have HZ : Hid (1 ≤ t) := Lib.hid (by omega)
  have HT1 : Hid (T.data.toList.length = t) := Lib.hid (by rw [str_len]; exact ht)
  have HTS : Hid (T.size = t) := Lib.hid ht
  have hcv := fun W => conv_run T W
  obtain ⟨_, _, _, _, g2, _⟩ := HM3.out.glass HLEN.out (by omega)
  clear z1
  go_wp2_with fail
  have hlay := lay_any (HM3.out.below (conv_below T w3)) HLEN.out (by omega) (off : Int) (some ⟨w3.heap.size, 0, none⟩) T.data.toList t (convC T w3) HT1.out HZ.out (by omega) (by omega) (OwnM.rd (conv_own T w3 (by omega))) (fun x e => by cases e; exact HM3.out.lw.notin (.inr (Nat.le_refl _)))
  refine hlay.mono ?_
  intro e w4 hsp
  obtain ⟨X, hX⟩ : ∃ X, crcI T.data.toList = X := ⟨_, rfl⟩
  obtain ⟨Y, hY⟩ : ∃ Y, md5T T.data.toList = Y := ⟨_, rfl⟩
  unfold MLaySpec at hsp
  rw [seal_lay (off := off) rfl (by rw [HT1.out]; omega), if_pos rfl, show sealV (off : Int) T.data.toList = .agg #[.int .i64 (off : Int), .int .i64 (t : Int), .int .i64 X, .string Y] by unfold sealV; rw [hX, hY, HT1.out]] at hsp
  obtain ⟨rfl, F4, hm4, hs4⟩ := hsp
  have HXY : Hid (crcI T.data.toList = X ∧ md5T T.data.toList = Y) := Lib.hid ⟨hX, hY⟩
  have HM4 : Hid (Mr w1 w4 p G as_ (seal1 off T.data.toList) m F4) := Lib.hid hm4
  clear hX hY hm4 hs4 hlay g2 hcv hT
  go_wp2_with fail
  have hb5 : Below w4.heap.size w4 (w4.alloc (.cells #[.int .i64 (off : Int), .int .i64 (t : Int), .int .i64 X, .string Y] 28)) := (Below.refl _ _).alloc (Nat.le_refl _) _
  have HM5 := Lib.hid (HM4.out.below hb5)
  have HBK5 : Hid (Blk (w4.alloc (.cells #[.int .i64 (off : Int), .int .i64 (t : Int), .int .i64 X, .string Y] 28)) w4.heap.size 28 #[.int .i64 (off : Int), .int .i64 (t : Int), .int .i64 X, .string Y] ∧ ¬ F4 w4.heap.size) := Lib.hid ⟨Blk.new _ _ _, HM4.out.lw.notin (.inr (Nat.le_refl _))⟩
  obtain ⟨w5, hw5⟩ : ∃ x, w4.alloc (.cells #[.int .i64 (off : Int), .int .i64 (t : Int), .int .i64 X, .string Y] 28) = x := ⟨_, rfl⟩
  obtain ⟨b1, hb1⟩ : ∃ x, w4.heap.size = x := ⟨_, rfl⟩
  rw [hw5] at HM5 HBK5 ⊢
  rw [hb1] at HBK5 ⊢
  clear hw5 hb1 hb5 HM4
  refine (refcrc_at T X w5 (by unfold maxLen; omega) HXY.out.1).mono ?_
  rintro e w6 ⟨rfl, q6, hq6⟩
  have HB6 : Hid (Below w5.heap.size w5 w6) := Lib.hid (by rw [hq6]; exact below_drewN (Below.refl _ _) _)
  clear hq6
  go_wp2_with fail
  refine (refmd5_at T Y w6 (by omega) HXY.out.2).mono ?_
  rintro e w7 ⟨rfl, hb7⟩
  have HB7 : Hid (Below w5.heap.size w5 w7) := Lib.hid (HB6.out.trans (hb7.mono HB6.out.size))
  clear hb7 HB6
  have hb8 : Below w5.heap.size w5 (w7.alloc (.cells #[.int .i64 (off : Int), .int .i64 (t : Int), .int .i64 X, .string Y] 28)) := HB7.out.alloc HB7.out.size _
  have HM8 := Lib.hid (HM5.out.below hb8)
  have HBK8 : Hid ((Blk (w7.alloc (.cells #[.int .i64 (off : Int), .int .i64 (t : Int), .int .i64 X, .string Y] 28)) b1 28 #[.int .i64 (off : Int), .int .i64 (t : Int), .int .i64 X, .string Y] ∧ ¬ F4 b1) ∧ Blk (w7.alloc (.cells #[.int .i64 (off : Int), .int .i64 (t : Int), .int .i64 X, .string Y] 28)) w7.heap.size 28 #[.int .i64 (off : Int), .int .i64 (t : Int), .int .i64 X, .string Y]) := Lib.hid ⟨⟨HBK5.out.1.below_ hb8, HBK5.out.2⟩, Blk.new _ _ _⟩
  clear hb8 HM5 HBK5 HB7
  go_upto_region 10 with fail
  obtain ⟨w8, hw8⟩ : ∃ x, w7.alloc (.cells #[.int .i64 (off : Int), .int .i64 (t : Int), .int .i64 X, .string Y] 28) = x := ⟨_, rfl⟩
  obtain ⟨b2, hb2⟩ : ∃ x, w7.heap.size = x := ⟨_, rfl⟩
  rw [hw8] at HM8 HBK8 ⊢
  rw [hb2] at HBK8 ⊢
  clear hw8 hb2
  obtain ⟨_, _, _, _, g2, _⟩ := HM8.out.glass HLEN.out (by omega)
  have a0 : w8.cell? ⟨b1, 0, none⟩ = some (.int .i64 (off : Int)) := HBK8.out.1.1.cell 0
  have a1 : w8.cell? ⟨b1, 1, none⟩ = some (.int .i64 (t : Int)) := HBK8.out.1.1.cell 1
  have a2 : w8.cell? ⟨b1, 2, none⟩ = some (.int .i64 X) := HBK8.out.1.1.cell 2
  have a3 : w8.cell? ⟨b1, 3, none⟩ = some (.string Y) := HBK8.out.1.1.cell 3
  have c0 : w8.cell? ⟨b2, 0, none⟩ = some (.int .i64 (off : Int)) := HBK8.out.2.cell 0
  have c1 : w8.cell? ⟨b2, 1, none⟩ = some (.int .i64 (t : Int)) := HBK8.out.2.cell 1
  have c2 : w8.cell? ⟨b2, 2, none⟩ = some (.int .i64 X) := HBK8.out.2.cell 2
  have c3 : w8.cell? ⟨b2, 3, none⟩ = some (.string Y) := HBK8.out.2.cell 3
  have HFE : Hid (Calls Try.prog 18 #[ob m, .agg #[.int .i64 (off : Int), .int .i64 (t : Int), .int .i64 X, .string Y]] w8.drew fun e w' => ∃ A c, e = .returned (.tuple #[.slice A t c, .int .i64 0, .int .i64 0]) ∧ Below w8.heap.size w8 w' ∧ RdB w' A T.data.toList) :=
    Lib.hid ((fetch_any (HM8.out.below ((Below.refl w8.heap.size w8).drew)) HLEN.out (by omega) (off : Int) (t : Int) X Y (by omega) (by omega)).mono (by
      rintro e w' ⟨hb, hres⟩
      have hall := seal1_all (off := off) (oi := (off : Int)) (ni := (t : Int)) (T := T.data.toList) (n := t) rfl rfl HT1.out HZ.out (by omega)
      rw [hall.1, ← HXY.out.1, ← HXY.out.2, all_which (by omega) hall.2] at hres
      rcases hres with ⟨h, _⟩ | ⟨_, h, _⟩ | ⟨_, i, rfl, _, A, c, rfl, hrd, hfr⟩
      · exact absurd rfl h
      · exact absurd (by omega) h
      · rw [hall.2 0 (by omega)] at hrd ⊢
        rw [HT1.out]
        exact ⟨A, c, rfl, (Below.refl w8.heap.size w8).drew.trans hb, hrd⟩))
  go_region_held3 (fun W : World => W.cell? ⟨G, 2, none⟩ = some (ob m) ∧ W.cell? ⟨b2, 0, none⟩ = some (.int .i64 (off : Int)) ∧ W.cell? ⟨b2, 1, none⟩ = some (.int .i64 (t : Int)) ∧ W.cell? ⟨b2, 2, none⟩ = some (.int .i64 X) ∧ W.cell? ⟨b2, 3, none⟩ = some (.string Y)) (first | exact ⟨g2, c0, c1, c2, c3⟩ | exact ⟨below_cell HB9.out g2, below_cell HB9.out c0, below_cell HB9.out c1, below_cell HB9.out c2, below_cell HB9.out c3⟩) (first | (go_at_call 18; refine HFE.out.mono ?_; rintro e w9 ⟨A9, c9, rfl, hb9, hrd9⟩; have HB9 := Lib.hid hb9; have HR9 := Lib.hid hrd9))
  have HM9 := Lib.hid (HM8.out.below HB9.out)
  have HBK9 : Hid (Blk w9 b1 28 #[.int .i64 (off : Int), .int .i64 (t : Int), .int .i64 X, .string Y] ∧ ¬ F4 b1) := Lib.hid ⟨HBK8.out.1.1.below_ HB9.out, HBK8.out.1.2⟩
  have a09 := below_cell HB9.out a0
  have a19 := below_cell HB9.out a1
  have a29 := below_cell HB9.out a2
  have a39 := below_cell HB9.out a3
  have c09 := below_cell HB9.out c0
  have c19 := below_cell HB9.out c1
  have c29 := below_cell HB9.out c2
  have c39 := below_cell HB9.out c3
  have hneq := run_neq_seal (off : Int) (t : Int) X Y
  have hst : (convert 37 9 (.slice A9 t c9)).run Try.prog w9 = .ok (.string T) w9 := by
    have := run_str c9 (w := w9) HR9.out HT1.out.symm
    rwa [bytes_back] at this
  obtain ⟨k, hk, hk1⟩ := cut_mod xt (t - 1) (by omega)
  rw [show (((t - 1 : Nat) : Int)) + 1 = (t : Int) by have := HZ.out; omega] at hk
  have htn : ((t : Int) == 0) = false := by rw [beq_eq_false_iff_ne]; have := HZ.out; omega
  have hkt : k < t := by have := HZ.out; omega
  obtain ⟨gx, cx, _, g1, _, hd⟩ := HM9.out.glass HLEN.out (by omega)
  obtain ⟨d0, hd0, dc⟩ := hd 0 (by omega)
  have hrot := st_rot HM9.out.lw.pw hd0 ((off + k : Nat) : Int) 4 (by omega)
  unfold StSpec at hrot
  rw [(seal_rot (off := off) (k := k) (T := T.data.toList) (by rw [HT1.out]; omega) (by rw [HT1.out]; exact hkt)).1, show (((4 : UInt8).toNat : Nat) : Int) = 4 from rfl, show ((off + k : Nat) : Int) = (off : Int) + (k : Int) by push_cast; rfl] at hrot
  have HROT := Lib.hid hrot
  clear hrot hd0 hd HM8 HBK8 HFE HB9 g2 a0 a1 a2 a3 c0 c1 c2 c3
  go_wp2_with fail
  refine HROT.out.mono ?_
  rintro e w10 ⟨rfl, F10, hp10, hs10⟩
  have HM10 : Hid (Mr w1 w10 p G as_ (seal2 off T.data.toList k) m F10) := Lib.hid (HM9.out.step hs10 (by
    have := hp10
    rwa [show (off : Int) + (k : Int) = ((off + k : Nat) : Int) by push_cast; rfl] at this))
  have HBK10 : Hid (Blk w10 b1 28 #[.int .i64 (off : Int), .int .i64 (t : Int), .int .i64 X, .string Y] ∧ ¬ F10 b1) := Lib.hid ⟨HBK9.out.1.step hs10 HBK9.out.2, step_out hs10 HBK9.out.1.lt HBK9.out.2⟩
  have hcv := fun W => conv_run T W
  rename_i hh
  clear hp10 hs10 HM9 HBK9 HR9 HROT a09 a19 a29 a39 c09 c19 c29 c39 hneq hst g1 dc
  go_upto_region 17 with fail
  have HOW11 := Lib.hid (conv_own T w10 (by omega))
  have HB11 := Lib.hid (conv_below T w10)
  obtain ⟨w11, hw11⟩ : ∃ x, convW T w10 = x := ⟨_, rfl⟩
  obtain ⟨d11, hd11⟩ : ∃ x, convC T w10 = x := ⟨_, rfl⟩
  obtain ⟨x11, hx11⟩ : ∃ x, w10.heap.size = x := ⟨_, rfl⟩
  have HX11 := Lib.hid hx11
  rw [hw11] at HOW11 HB11 ⊢
  rw [hd11] at HOW11 ⊢
  rw [hx11] at HOW11 ⊢
  clear hw11 hd11 hx11 hcv
  obtain ⟨hc1, hc2⟩ := OwnM.cell_ HOW11.out k (by rw [HT1.out]; exact hkt)
  have hset := OwnM.set_ HOW11.out k (by rw [HT1.out]; exact hkt) (T.data.toList.getD k 0 ^^^ 4)
  obtain ⟨xb, hxb⟩ : ∃ x, T.data.toList.getD k 0 = x := ⟨_, rfl⟩
  have hxor := u8xor xb 4
  rw [show (((4 : UInt8).toNat : Nat) : Int) = 4 from rfl] at hxor
  have HOW12 : Hid (OwnM (w11.setCell ⟨x11, k, none⟩ (.int .u8 (((xb ^^^ 4) : UInt8).toNat : Int))) x11 (some ⟨x11, 0, none⟩) d11 (turned T.data.toList k)) := Lib.hid (by
    rw [hxb] at hset
    unfold turned
    rw [hxb]
    exact hset)
  have HB12 : Hid (Below w10.heap.size w10 (w11.setCell ⟨x11, k, none⟩ (.int .u8 (((xb ^^^ 4) : UInt8).toNat : Int)))) := Lib.hid (HB11.out.setCell (p := ⟨x11, k, none⟩) (by show w10.heap.size ≤ x11; rw [HX11.out]; exact Nat.le_refl _) _)
  rw [hxb] at hc1
  have hki : (k : Int) < (t : Int) := by omega
  clear hset hxb HB11 HOW11
  go_upto_region 18 with fail
  have e4 : ((((xb ^^^ 4) : UInt8).toNat : Nat) : Int) = ((xb.toNat ^^^ 4 : Nat) : Int) := by rw [UInt8.toNat_xor]; rfl
  rw [e4] at HOW12 HB12
  obtain ⟨w12, hw12⟩ : ∃ x, w11.setCell ⟨x11, k, none⟩ (.int .u8 ((xb.toNat ^^^ 4 : Nat) : Int)) = x := ⟨_, rfl⟩
  rw [hw12] at HOW12 HB12 ⊢
  clear hw12 e4 hc1 hc2 hxor
  obtain ⟨V, hV⟩ : ∃ V : ByteArray, (⟨(turned T.data.toList k).toArray⟩ : ByteArray) = V := ⟨_, rfl⟩
  have HV : Hid ((⟨(turned T.data.toList k).toArray⟩ : ByteArray) = V ∧ V.data.toList = turned T.data.toList k ∧ V.size = t ∧ (turned T.data.toList k).length = t) := Lib.hid (by
    have h9 : (turned T.data.toList k).length = t := by rw [turned_len]; exact HT1.out
    refine ⟨hV, by rw [← hV], ?_, h9⟩
    rw [← hV]
    show (turned T.data.toList k).toArray.size = t
    simp [h9])
  clear hV
  obtain ⟨X', hX'⟩ : ∃ X, crcI (turned T.data.toList k) = X := ⟨_, rfl⟩
  obtain ⟨Y', hY'⟩ : ∃ Y, md5T (turned T.data.toList k) = Y := ⟨_, rfl⟩
  have HXY' : Hid (crcI (turned T.data.toList k) = X' ∧ md5T (turned T.data.toList k) = Y') := Lib.hid ⟨hX', hY'⟩
  clear hX' hY'
  have HSTG : Hid (∀ W, RdB W (some ⟨x11, 0, none⟩) (turned T.data.toList k) → (convert 37 9 (.slice (some ⟨x11, 0, none⟩) t d11)).run Try.prog W = .ok (.string V) W) := Lib.hid (fun W hW => by
    have := run_str d11 (w := W) hW HV.out.2.2.2.symm
    rwa [HV.out.1] at this)
  have hst18 := HSTG.out w12 (OwnM.rd HOW12.out)
  have hst18d := HSTG.out w12.drew (OwnM.rd HOW12.out)
  have hst18b := fun o => HSTG.out (w12.alloc o).drew ((OwnM.rd HOW12.out).below ((Below.refl _ _).alloc (Nat.le_refl _) _).drew)
  have hst18a := fun o => HSTG.out (w12.drew.alloc o) ((OwnM.rd HOW12.out).below ((Below.refl _ _).drew.alloc (Nat.le_refl _) _))
  have HCR : Hid (∀ W, Calls Try.prog 16 #[.string V] W fun e w' => e = .returned (.int .i64 X') ∧ ∃ n, w' = W.drewN n) := Lib.hid fun W => refcrc_at V X' W (by rw [HV.out.2.2.1]; unfold maxLen; omega) (by rw [HV.out.2.1]; exact HXY'.out.1)
  have HMD : Hid (∀ W, Calls Try.prog 17 #[.string V] W fun e w' => e = .returned (.string Y') ∧ Below W.heap.size W w') := Lib.hid fun W => refmd5_at V Y' W (by rw [HV.out.2.2.1]; omega) (by rw [HV.out.2.1]; exact HXY'.out.2)
  go_cut [17] from 121 to 130 (fun s17 wx => ∃ bo : Nat, s17 = .pointer (some ⟨bo, 0, none⟩) ∧ Hid (Below w12.heap.size w12 wx ∧ Blk wx bo 28 #[.int .i64 (off : Int), .int .i64 (t : Int), .int .i64 X', .string Y']))
  case first =>
    go_region_law (first
      | (go_simp; go_at_call 16
         refine (HCR.out _).mono ?_
         rintro e w13 ⟨rfl, q13, hq13⟩
         have HQ13 := Lib.hid hq13
         have hrd13 : RdB w13 (some ⟨x11, 0, none⟩) (turned T.data.toList k) := by rw [hq13]; first | exact OwnM.rd HOW12.out | exact (OwnM.rd HOW12.out).below (below_drewN ((Below.refl _ _).drew.alloc (Nat.le_refl _) _) _) | exact (OwnM.rd HOW12.out).below (below_drewN ((Below.refl _ _).alloc (Nat.le_refl _) _).drew _)
         have hst13 := HSTG.out w13 hrd13
         have hst13a := fun o => HSTG.out (w13.alloc o) (hrd13.below ((Below.refl _ _).alloc (Nat.le_refl _) _))
         clear hrd13
         have hb13 : Below w12.heap.size w12 w13 := by rw [hq13]; first | exact below_drewN (Below.refl _ _).drew _ | exact below_drewN ((Below.refl _ _).drew.alloc (Nat.le_refl _) _) _ | exact below_drewN ((Below.refl _ _).alloc (Nat.le_refl _) _).drew _
         have HB13 := Lib.hid hb13
         clear hb13
         try (have kb13 : Blk w13 w12.heap.size 28 #[.int .i64 0, .int .i64 0, .int .i64 0, .string ⟨#[]⟩] := by rw [hq13]; first | exact Blk.new w12.drew _ _ | exact Blk.new w12 _ _)
         clear hq13)
      | (go_simp; go_at_call 17
         refine (HMD.out _).mono ?_
         rintro e w14 ⟨rfl, hb14⟩
         have hbe14 : Below w12.heap.size w12 w14 := by first | exact HB13.out.trans (hb14.mono HB13.out.size) | exact (HB13.out.alloc HB13.out.size _).trans (hb14.mono (by simp; have := HB13.out.size; omega))
         have HB14 := Lib.hid hbe14
         clear hbe14
         try (have kb14 : Blk w14 w12.heap.size 28 #[.int .i64 0, .int .i64 0, .int .i64 0, .string ⟨#[]⟩] := Blk.below_ kb13 hb14)
         try (have kb14 : Blk w14 w13.heap.size 28 #[.int .i64 0, .int .i64 0, .int .i64 0, .string ⟨#[]⟩] := Blk.below_ (Blk.new w13 _ _) hb14)
         try (have r0 := kb14.cell 0; have r1 := kb14.cell 1; have r2 := kb14.cell 2; have r3 := kb14.cell 3; simp at r0 r1 r2 r3; have f0 := kb14.frozen 0; have f1 := kb14.frozen 1; have f2 := kb14.frozen 2; have f3 := kb14.frozen 3)))
    all_goals
      go_wp2_with fail
      first
        | (go_meet; exact ⟨w14.heap.size, rfl, Lib.hid ⟨HB14.out.alloc HB14.out.size _, Blk.new _ _ _⟩⟩)
        | (go_meet; exact ⟨w13.heap.size, rfl, Lib.hid ⟨(((HB14.out.setCell (p := ⟨w13.heap.size, 0, none⟩) HB13.out.size _).setCell (p := ⟨w13.heap.size, 1, none⟩) HB13.out.size _).setCell (p := ⟨w13.heap.size, 2, none⟩) HB13.out.size _).setCell (p := ⟨w13.heap.size, 3, none⟩) HB13.out.size _, ((((kb14.set_ 0 _).set_ 1 _).set_ 2 _).set_ 3 _)⟩⟩)
        | (go_meet; exact ⟨w12.heap.size, rfl, Lib.hid ⟨(((HB14.out.setCell (p := ⟨w12.heap.size, 0, none⟩) (Nat.le_refl _) _).setCell (p := ⟨w12.heap.size, 1, none⟩) (Nat.le_refl _) _).setCell (p := ⟨w12.heap.size, 2, none⟩) (Nat.le_refl _) _).setCell (p := ⟨w12.heap.size, 3, none⟩) (Nat.le_refl _) _, ((((kb14.set_ 0 _).set_ 1 _).set_ 2 _).set_ 3 _)⟩⟩)
        | (go_meet; trace_state; sorry)
  case rest =>
    obtain ⟨bo, rfl, HCUT⟩ := hcut
    have hbw : Below w10.heap.size w10 _ := HB12.out.trans (HCUT.out.1.mono HB12.out.size)
    have HM15 := Lib.hid (HM10.out.below hbw)
    have HBK15 := Lib.hid (HBK10.out.1.below_ hbw)
    have HWR15 := Lib.hid ((OwnM.rd HOW12.out).below HCUT.out.1)
    obtain ⟨w15, hw15⟩ : ∃ x, wc = x := ⟨_, rfl⟩
    rw [hw15] at HM15 HBK15 HWR15 HCUT ⊢
    clear hw15 hbw hst18 hst18d hst18a hst18b HB12 HOW12
    obtain ⟨_, _, _, _, g2, _⟩ := HM15.out.glass HLEN.out (by omega)
    have a0 : w15.cell? ⟨b1, 0, none⟩ = some (.int .i64 (off : Int)) := HBK15.out.cell 0
    have a1 : w15.cell? ⟨b1, 1, none⟩ = some (.int .i64 (t : Int)) := HBK15.out.cell 1
    have a2 : w15.cell? ⟨b1, 2, none⟩ = some (.int .i64 X) := HBK15.out.cell 2
    have a3 : w15.cell? ⟨b1, 3, none⟩ = some (.string Y) := HBK15.out.cell 3
    have c0 : w15.cell? ⟨bo, 0, none⟩ = some (.int .i64 (off : Int)) := HCUT.out.2.cell 0
    have c1 : w15.cell? ⟨bo, 1, none⟩ = some (.int .i64 (t : Int)) := HCUT.out.2.cell 1
    have c2 : w15.cell? ⟨bo, 2, none⟩ = some (.int .i64 X') := HCUT.out.2.cell 2
    have c3 : w15.cell? ⟨bo, 3, none⟩ = some (.string Y') := HCUT.out.2.cell 3
    have HLK := Lib.hid (seal2_look (off := off) (k := k) (oi := (off : Int)) (ni := (t : Int)) (T := T.data.toList) (n := t) rfl rfl HT1.out HZ.out (by omega) hkt)
    have HW1N : Hid (whichN (seal2 off T.data.toList k) (off : Int) (t : Int) X Y 2 = 1) := Lib.hid (by rw [← HXY.out.1, ← HXY.out.2]; exact seal2_old rfl rfl HT1.out HZ.out (by omega) hkt)
    have HW2N : Hid (whichN (seal2 off T.data.toList k) (off : Int) (t : Int) X' Y' 2 = 0) := Lib.hid (by rw [← HXY'.out.1, ← HXY'.out.2]; exact seal2_new rfl rfl HT1.out HZ.out (by omega) hkt)
    have HF1 : Hid (Calls Try.prog 18 #[ob m, .agg #[.int .i64 (off : Int), .int .i64 (t : Int), .int .i64 X, .string Y]] w15.drew fun e w' => ∃ A c, e = .returned (.tuple #[.slice A t c, .int .i64 1, .int .i64 0]) ∧ Below w15.heap.size w15 w' ∧ RdB w' A T.data.toList) :=
      Lib.hid ((fetch_any (HM15.out.below ((Below.refl w15.heap.size w15).drew)) HLEN.out (by omega) (off : Int) (t : Int) X Y (by omega) (by omega)).mono (by
        rintro e w' ⟨hb, hres⟩
        rw [HLK.out.1, HW1N.out] at hres
        rcases hres with ⟨h, _⟩ | ⟨_, h, _⟩ | ⟨_, i, rfl, _, A, c, rfl, hrd, hfr⟩
        · exact absurd rfl h
        · exact absurd (by omega) h
        · rw [HLK.out.2.2] at hrd ⊢
          rw [HT1.out]
          exact ⟨A, c, rfl, (Below.refl w15.heap.size w15).drew.trans hb, hrd⟩))
    go_upto_region 19 with fail
    go_region_held3 (fun W : World => W.cell? ⟨G, 2, none⟩ = some (ob m) ∧ W.cell? ⟨b1, 0, none⟩ = some (.int .i64 (off : Int)) ∧ W.cell? ⟨b1, 1, none⟩ = some (.int .i64 (t : Int)) ∧ W.cell? ⟨b1, 2, none⟩ = some (.int .i64 X) ∧ W.cell? ⟨b1, 3, none⟩ = some (.string Y)) (first | exact ⟨g2, a0, a1, a2, a3⟩ | exact ⟨below_cell HB16.out g2, below_cell HB16.out a0, below_cell HB16.out a1, below_cell HB16.out a2, below_cell HB16.out a3⟩) (first | (go_at_call 18; refine HF1.out.mono ?_; rintro e w16 ⟨A16, c16, rfl, hb16, hrd16⟩; have HB16 := Lib.hid hb16; have HR16 := Lib.hid hrd16))
    have HM16 := Lib.hid (HM15.out.below HB16.out)
    have HWR16 := Lib.hid (HWR15.out.below HB16.out)
    have g26 := below_cell HB16.out g2
    have c06 := below_cell HB16.out c0
    have c16a := below_cell HB16.out c1
    have c26 := below_cell HB16.out c2
    have c36 := below_cell HB16.out c3
    have HF2 : Hid (Calls Try.prog 18 #[ob m, .agg #[.int .i64 (off : Int), .int .i64 (t : Int), .int .i64 X', .string Y']] w16.drew fun e w' => ∃ A c, e = .returned (.tuple #[.slice A t c, .int .i64 0, .int .i64 0]) ∧ Below w16.heap.size w16 w' ∧ RdB w' A (turned T.data.toList k)) :=
      Lib.hid ((fetch_any (HM16.out.below ((Below.refl w16.heap.size w16).drew)) HLEN.out (by omega) (off : Int) (t : Int) X' Y' (by omega) (by omega)).mono (by
        rintro e w' ⟨hb, hres⟩
        rw [HLK.out.1, HW2N.out] at hres
        rcases hres with ⟨h, _⟩ | ⟨_, h, _⟩ | ⟨_, i, rfl, _, A, c, rfl, hrd, hfr⟩
        · exact absurd rfl h
        · exact absurd (by omega) h
        · rw [HLK.out.2.1] at hrd ⊢
          rw [HV.out.2.2.2]
          exact ⟨A, c, rfl, (Below.refl w16.heap.size w16).drew.trans hb, hrd⟩))
    clear HM15 HWR15 HBK15 HCUT HF1 g2 a0 a1 a2 a3 c0 c1 c2 c3
    go_upto_region 20 with fail
    go_region_held3 (fun W : World => W.cell? ⟨G, 2, none⟩ = some (ob m) ∧ W.cell? ⟨bo, 0, none⟩ = some (.int .i64 (off : Int)) ∧ W.cell? ⟨bo, 1, none⟩ = some (.int .i64 (t : Int)) ∧ W.cell? ⟨bo, 2, none⟩ = some (.int .i64 X') ∧ W.cell? ⟨bo, 3, none⟩ = some (.string Y')) (first | exact ⟨g26, c06, c16a, c26, c36⟩ | exact ⟨below_cell HB17.out g26, below_cell HB17.out c06, below_cell HB17.out c16a, below_cell HB17.out c26, below_cell HB17.out c36⟩) (first | (go_at_call 18; refine HF2.out.mono ?_; rintro e w17 ⟨A17, c17, rfl, hb17, hrd17⟩; have HB17 := Lib.hid hb17; have HR17 := Lib.hid hrd17))
    have hsx : (convert 37 9 (.slice A16 t c16)).run Try.prog w17 = .ok (.string T) w17 := by
      have := run_str c16 (w := w17) (HR16.out.below HB17.out) HT1.out.symm
      rwa [bytes_back] at this
    have hsy : (convert 37 9 (.slice A17 t c17)).run Try.prog w17 = .ok (.string V) w17 := by
      have := run_str c17 (w := w17) HR17.out HV.out.2.2.2.symm
      rwa [HV.out.1] at this
    have hsz := HSTG.out w17 (HWR16.out.below HB17.out)
    have HEND : Hid (Below w.heap.size w w17) := Lib.hid (HW1.out.trans ((HM16.out.lw.be.trans (HB17.out.mono HM16.out.lw.be.size)).mono HW1.out.size))
    go_wp2_with fail
    go_ret
    exact ⟨rfl, HEND.out⟩
end Go.Proofs.Ytoompglghjpapaa
