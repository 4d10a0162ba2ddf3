/-
  Walk: the law DiskRots: rot is read, and lasts, though nothing was written; twice it is none; other bytes stay.
-/
import Derived.Test.YtoompglghjpapaaLaw1B
namespace Go.Proofs.Ytoompglghjpapaa
open Go.RowKit
set_option linter.unusedVariables false
set_option linter.unusedSimpArgs false
attribute [local go_sem ↓] Go.wp_at_zero Go.wp_at_succ

def rots0 (T : ByteArray) : St := (pair0.write 0 0 T.data.toList).2
def rots1 (T : ByteArray) : St := ((rots0 T).sync 0).2
def rots2 (T : ByteArray) (ko : Nat) (m : UInt8) : St := ((rots1 T).rot 0 ko m).2
def rots3 (T : ByteArray) (ko : Nat) (m : UInt8) : St := (rots2 T ko m).crash []
def rots4 (T : ByteArray) (ko : Nat) (m : UInt8) : St := ((rots3 T ko m).rot 0 ko m).2
/-- the bytes ahead of the rot -/
def rotsL (T : ByteArray) : List UInt8 := T.data.toList ++ zeroB (512 - T.size)
structure RotsFacts (T : ByteArray) (ko : Nat) (m : UInt8) : Prop where
  e0 : (pair0.write 0 0 T.data.toList).1 = 0
  e1 : ((rots0 T).sync 0).1 = 0
  e2 : ((rots1 T).rot 0 ko m).1 = 0
  e4 : ((rots3 T ko m).rot 0 ko m).1 = 0
  off2 : (rots2 T ko m).off = false
  off3 : (rots3 T ko m).off = false
  off4 : (rots4 T ko m).off = false
  s2 : ((rots2 T ko m).at_ 0).size = 512
  s3 : ((rots3 T ko m).at_ 0).size = 512
  s4 : ((rots4 T ko m).at_ 0).size = 512
  u2 : ((rots2 T ko m).at_ 0).uns = []
  r2 : ((rots2 T ko m).at_ 0).rd = xorAt (rotsL T) ko m
  r3 : ((rots3 T ko m).at_ 0).rd = xorAt (rotsL T) ko m
  r4 : ((rots4 T ko m).at_ 0).rd = rotsL T
theorem rotsL_length (T : ByteArray) (hT : T.size ≤ 512) : (rotsL T).length = 512 := by
  unfold rotsL
  rw [List.length_append, str_len, zeroB_length]; omega
theorem put_start (T : ByteArray) (hT : T.size ≤ 512) : putAt (zeroB 512) 0 T.data.toList = rotsL T := by
  unfold putAt rotsL
  rw [List.take_zero, List.nil_append, Nat.zero_add, str_len]
  congr 1
  unfold zeroB
  rw [List.drop_replicate]
theorem rd_made0' (w : World) (n : Nat) : RdB (w.alloc (.cells (madeCells #[.int .u8 0] n) 5)) (some ⟨w.heap.size, 0, none⟩) (zeroB n) := by
  rw [made_zero]; exact rd_blk (Blk.new w _ _) 0
theorem rots_zero (T : ByteArray) (hT : T.size ≤ 512) : T ++ (⟨(zeroB (512 - T.size)).toArray⟩ : ByteArray) = ⟨(rotsL T).toArray⟩ := by
  apply ByteArray.ext
  rw [ByteArray.data_append]
  apply Array.ext'
  simp [rotsL]
theorem run_makeI (n : Nat) (i : Int) (h : i = (n : Int)) (hn : n ≤ 140737488355328) (w : World) :
    (Instr.makeSlice 37 (.int .i64 i) (.int .i64 i)).run Try.prog w = .ok (.slice (some ⟨w.heap.size, 0, none⟩) n n) (w.alloc (.cells (madeCells #[.int .u8 0] n) 5)) := by
  subst h; exact run_makeB n hn w
theorem rots_facts (T : ByteArray) (ko : Nat) (m : UInt8) (hT : T.size ≤ 512) (hko : ko < 512) : RotsFacts T ko m := by
  have hl : T.data.toList.length = T.size := str_len T
  have hp0 : (pair0.at_ 0).size = 512 := fresh_size 4
  have h0 := St.write_on (S := pair0) (k := 0) (o := 0) (oi := 0) (b := T.data.toList) rfl rfl rfl (by rw [hp0, hl]; omega)
  have e0 : rots0 T = ⟨pair0.ds.set 0 ((Dk.fresh 4).write 0 T.data.toList), false, -1⟩ := by unfold rots0; rw [h0]; rfl
  have hw : ((Dk.fresh 4).write 0 T.data.toList).Ok := write_ok (fresh_ok 4) (by rw [fresh_size, hl]; omega)
  have hws : ((Dk.fresh 4).write 0 T.data.toList).size = 512 := by rw [write_size _ (by rw [fresh_size, hl]; omega), fresh_size]
  have hwr : ((Dk.fresh 4).write 0 T.data.toList).rd = rotsL T := put_start T hT
  generalize (Dk.fresh 4).write 0 T.data.toList = D at *
  have h1 := St.sync_on (S := rots0 T) (k := 0) (by rw [e0]) (by rw [e0])
  have e1 : rots1 T = ⟨[D.sync, Dk.fresh 2], false, -1⟩ := by unfold rots1; rw [h1, e0]; rfl
  have hss : D.sync.size = 512 := hws
  have h2 := rot_on (S := rots1 T) (k := 0) (o := ko) (oi := (ko : Int)) (m := m) (by rw [e1]) rfl (by rw [e1]; show ko < D.sync.size; rw [hss]; exact hko)
  have e2 : rots2 T ko m = ⟨[D.sync.rot ko m, Dk.fresh 2], false, -1⟩ := by unfold rots2; rw [h2, e1]; rfl
  have hnew : ∀ s, (D.sync.rot ko m).new s = false := fun s => sync_new D s
  have hok : (D.sync.rot ko m).Ok := rot_ok (sync_ok hw) ko m
  have hcr := crashed_synced hok hnew [] 0
  have hrd : (D.sync.rot ko m).rd = xorAt (rotsL T) ko m := by show xorAt D.rd ko m = _; rw [hwr]
  have hrs : (D.sync.rot ko m).size = 512 := by
    show (xorAt D.rd ko m).length = 512
    rw [xorAt_length]; exact hws
  have hc3 : ((D.sync.rot ko m).crash [] 0).rd = xorAt (rotsL T) ko m := by rw [← hrd, ← hcr]; rfl
  have e3 : rots3 T ko m = ⟨[(D.sync.rot ko m).crash [] 0, (Dk.fresh 2).crash [] (0 + (D.sync.rot ko m).all)], false, -1⟩ := by unfold rots3; rw [e2]; rfl
  have hc3s : ((D.sync.rot ko m).crash [] 0).size = 512 := by unfold Dk.size; rw [hc3, xorAt_length]; exact rotsL_length T hT
  have h4 := rot_on (S := rots3 T ko m) (k := 0) (o := ko) (oi := (ko : Int)) (m := m) (by rw [e3]) rfl (by rw [e3]; show ko < ((D.sync.rot ko m).crash [] 0).size; rw [hc3s]; exact hko)
  have e4 : rots4 T ko m = ⟨[((D.sync.rot ko m).crash [] 0).rot ko m, (Dk.fresh 2).crash [] (0 + (D.sync.rot ko m).all)], false, -1⟩ := by unfold rots4; rw [h4, e3]; rfl
  have hr4 : (((D.sync.rot ko m).crash [] 0).rot ko m).rd = rotsL T := by
    show xorAt ((D.sync.rot ko m).crash [] 0).rd ko m = _
    rw [hc3, xor_twice]
  exact ⟨by rw [h0], by rw [h1], by rw [h2], by rw [h4], by rw [e2], by rw [e3], by rw [e4], by rw [e2]; exact hrs, by rw [e3]; exact hc3s, by
    rw [e4]; show ((((D.sync.rot ko m).crash [] 0).rot ko m).rd).length = 512; rw [hr4]; exact rotsL_length T hT, by rw [e2]; exact uns_synced hnew, by rw [e2]; exact hrd, by rw [e3]; exact hc3, by rw [e4]; exact hr4⟩
set_option maxRecDepth 100000 in
set_option maxHeartbeats 2000000 in
theorem DiskRots_walk (s : ByteArray) (o : Int) (m : UInt8) (w : World) (hs : s.size ≤ maxLen) (ho : -9223372036854775808 ≤ o ∧ o ≤ 9223372036854775807) :
    Calls Try.prog 9 #[.string s, .int .i64 o, .int .u8 (m.toNat : Int)] w fun e w' => e = .returned (.bool true) ∧ Below w.heap.size w w' := by
  unfold maxLen at hs
  go_enter Try.func9, Try.ntmps9
  go_wp2_with fail
  refine (known_any w).mono ?_
  rintro e w1 ⟨rfl, hb1⟩
  have HW1 := Lib.hid hb1
  clear hb1
  go_wp2_with fail
  refine (pair_any w1).mono ?_
  intro e w2 hpr
  obtain ⟨p, a, b, ad, cc, F, rfl, hl, ca, cb, hn, hge, hlt⟩ := hpr.open_
  have HL := Lib.hid hl
  have HN := Lib.hid hn
  clear hl hn hpr cb
  obtain ⟨T, hT⟩ : ∃ T, s.extract 0 (min (s.size : Int) 512).toNat = T := ⟨_, rfl⟩
  have hTs : T.size ≤ 512 := by rw [← hT]; simp [ByteArray.size_extract]; omega
  obtain ⟨ko, hko, hko2⟩ := cut_mod o 511 (by omega)
  rw [show ((511 : Nat) : Int) + 1 = 512 from rfl] at hko
  have HRF := Lib.hid (rots_facts T ko m hTs (by omega))
  have hcv := fun W => conv_run T W
  have hmk := fun W => run_makeI (512 - T.size) (512 - (T.size : Int)) (by omega) (by omega) W
  have hms := fun W => run_str (n := 512 - T.size) (512 - T.size) (rd_made0' W (512 - T.size)) (zeroB_length _).symm
  have hcat : ¬ 9223372036854775807 < T.size + (zeroB (512 - T.size)).length := by rw [zeroB_length]; omega
  obtain ⟨WS, hWS⟩ : ∃ WS : ByteArray, (⟨(rotsL T).toArray⟩ : ByteArray) = WS := ⟨_, rfl⟩
  have hzc := rots_zero T hTs
  rw [hWS] at hzc
  have HWL : Hid (WS.data.toList = rotsL T ∧ WS.size = 512) := Lib.hid (by
    have h1 := rotsL_length T hTs
    rw [← hWS]; exact ⟨rfl, by rw [str_size]; exact h1⟩)
  have HK := Lib.hid hko
  have HRO : Hid ((0 : Int) ≤ ko ∧ (ko : Int) ≤ 511) := Lib.hid (by omega)
  clear hWS
  go_wp2_with fail
  rw [HK.out]
  clear hT hko
  refine (lw_write_conv HL.out (k := 0) rfl 0 T T.size _ _ rfl rfl rfl (by omega) (by omega)).mono ?_
  rintro e w3 ⟨rfl, F3, hl3, hk3⟩
  rw [HRF.out.e0]
  obtain ⟨ca3, hn3⟩ := hk3 _ _ ca HN.out
  have HL3 : Hid (LW w1 w3 p [a, b] (rots0 T) F3) := Lib.hid hl3
  have HN3 := Lib.hid hn3
  clear hl3 hk3 hn3
  go_wp2_with fail
  refine (lw_sync HL3.out (k := 0) rfl).mono ?_
  rintro e w4 ⟨rfl, F4, hl4, hk4⟩
  rw [HRF.out.e1]
  obtain ⟨ca4, hn4⟩ := hk4 _ _ ca3 HN3.out
  have HL4 : Hid (LW w1 w4 p [a, b] (rots1 T) F4) := Lib.hid hl4
  have HN4 := Lib.hid hn4
  clear hl4 hk4 hn4 ca3
  go_wp2_with fail
  refine (lw_rot HL4.out (k := 0) rfl ko m _ rfl (by have := HRO.out; omega)).mono ?_
  rintro e w5 ⟨rfl, F5, hl5, hk5⟩
  rw [HRF.out.e2]
  obtain ⟨ca5, hn5⟩ := hk5 _ _ ca4 HN4.out
  have HL5 : Hid (LW w1 w5 p [a, b] (rots2 T ko m) F5) := Lib.hid hl5
  have HN5 := Lib.hid hn5
  clear hl5 hk5 hn5 ca4
  go_wp2_with fail
  refine (st_uns HL5.out.pw (k := 0) rfl).mono ?_
  rintro e w6 ⟨A6, c6, rfl, _, hb6⟩
  rw [HRF.out.u2]
  have ca6 := below_cell hb6 ca5
  have HL6 := Lib.hid (HL5.out.below hb6)
  obtain ⟨c7, w7, hc7, hm7, hb7⟩ := own_conv WS (w6.alloc (.cells (madeCells #[.int .u8 0] (512 - T.size)) 5)) (by rw [HWL.out.2]; omega)
  have hz7 : (w6.alloc (.cells (madeCells #[.int .u8 0] (512 - T.size)) 5)).heap.size = w6.heap.size + 1 := by simp
  rw [hz7, HWL.out.2] at hc7
  rw [hz7, HWL.out.1] at hm7
  have hb67 : Below w6.heap.size w6 w7 := ((Below.refl _ _).alloc (Nat.le_refl _) _).trans (hb7.mono (by simp))
  have ca7 := below_cell hb67 ca6
  have HL7 := Lib.hid (HL6.out.below hb67)
  have HM7 := Lib.hid hm7
  obtain ⟨cx, fx⟩ := hm7.cell_ ko (by rw [rotsL_length T hTs]; have := HRO.out; omega)
  obtain ⟨x, hx⟩ : ∃ x, (rotsL T).getD ko 0 = x := ⟨_, rfl⟩
  have HX : Hid ((rotsL T).getD ko 0 = x) := Lib.hid hx
  rw [hx] at cx
  have hne7 : ad.block ≠ w6.heap.size + 1 := by have := World.block_lt_of_cell? _ _ ca6; omega
  have ca8 : ∀ v, (w7.setCell ⟨w6.heap.size + 1, ko, none⟩ v).cell? ad = some (ob a) := fun v => (World.cell?_of_block (a := ad) (Below.heap_setCell w7 ⟨w6.heap.size + 1, ko, none⟩ v ad.block hne7)).trans ca7
  have HN7 : Hid (¬ F5 ad.block ∧ ¬ F5 (w6.heap.size + 1) ∧ w1.heap.size ≤ w6.heap.size + 1) := Lib.hid ⟨HN5.out, HL6.out.notin (.inr (by omega)), by have := HL6.out.size; omega⟩
  obtain ⟨L, hL⟩ : ∃ L, xorAt (rotsL T) ko m = L := ⟨_, rfl⟩
  have HLL : Hid (xorAt (rotsL T) ko m = L ∧ L.length = 512) := Lib.hid ⟨hL, by rw [← hL, xorAt_length]; exact rotsL_length T hTs⟩
  have HTK : Hid ((((rots4 T ko m).at_ 0).rd.drop 0).take T.size = T.data.toList) := Lib.hid (by
    rw [HRF.out.r4, List.drop_zero]
    unfold rotsL
    rw [List.take_append_of_le_length (by rw [str_len]; omega), List.take_of_length_le (by rw [str_len]; omega)])
  have HT4 : Hid (0 + T.size ≤ ((rots4 T ko m).at_ 0).size) := Lib.hid (by rw [HRF.out.s4]; omega)
  have HHS := Lib.hid hTs
  clear hb6 ca5 hz7 hm7 hx hb67 hb7 hne7 hL
  go_wp2_with fail
  clear hmk hms hcat hzc hc7 hcv
  rw [u8xor]
  have HM8 := Lib.hid (OwnM.rd (HM7.out.set_ ko (by rw [rotsL_length T HHS.out]; have := HRO.out; omega) (x ^^^ m)))
  have HL8 := Lib.hid (HL7.out.own (x := ⟨w6.heap.size + 1, ko, none⟩) HN7.out.2.1 HN7.out.2.2 (.int .u8 ((x ^^^ m).toNat : Int)))
  have ca8' := ca8 (.int .u8 ((x ^^^ m).toNat : Int))
  have HXL : Hid ((rotsL T).set ko (x ^^^ m) = L) := Lib.hid (by rw [← HLL.out.1]; unfold xorAt; rw [HX.out])
  obtain ⟨w8, hw8⟩ : ∃ w8, w7.setCell ⟨w6.heap.size + 1, ko, none⟩ (.int .u8 ((x ^^^ m).toNat : Int)) = w8 := ⟨_, rfl⟩
  rw [hw8] at HM8 HL8 ca8' ⊢
  rw [HXL.out] at HM8
  obtain ⟨g, hg⟩ : ∃ g, w6.heap.size + 1 = g := ⟨_, rfl⟩
  have HG := Lib.hid hg
  rw [hg] at HM8 HN7 ⊢
  clear hw8 hg ca8 cx fx ca7
  refine (lw_read_on HL8.out (k := 0) rfl 0 512 0 512 HRF.out.off2 rfl rfl (by rw [HRF.out.s2]; omega) (by rw [HRF.out.s2]; omega) L (by rw [HRF.out.r2, HLL.out.1, List.drop_zero, List.take_of_length_le (by rw [HLL.out.2]; omega)])).mono ?_
  rintro e w9 ⟨A9, c9, rfl, hown9, hl9, hc9, hb⟩
  have HA9 : Hid (RdB w9 A9 L ∧ ∀ ad, A9 = some ad → ¬ F5 ad.block) := Lib.hid ⟨OwnB.rd hown9, fun x hx => HL8.out.notin (.inr (OwnR.lt hown9 x.block (by rw [hx]; rfl)).1)⟩
  have HM9 := Lib.hid (HM8.out.below hb)
  have HL9 := Lib.hid (HL8.out.below hb)
  have ca9 := below_cell hb ca8'
  clear hown9 hl9 hc9 hb ca8'
  go_wp2_with fail
  refine (lw_crash0 HL9.out).mono ?_
  rintro e w10 ⟨rfl, F10, hl10, hk10⟩
  have HA10 := Lib.hid (hk10.rd HA9.out.1 HA9.out.2)
  have HM10 := Lib.hid (hk10.rd HM9.out fun x hx => by cases hx; exact HN7.out.2.1)
  have HL10 : Hid (LW w1 w10 p [a, b] (rots3 T ko m) F10) := Lib.hid hl10
  obtain ⟨ca10, hn10⟩ := hk10 _ _ ca9 HN7.out.1
  have HN10 := Lib.hid hn10
  clear hl10 hk10 hn10 ca9
  go_wp2_with fail
  refine (lw_read_on HL10.out (k := 0) rfl 0 512 0 512 HRF.out.off3 rfl rfl (by rw [HRF.out.s3]; omega) (by rw [HRF.out.s3]; omega) L (by rw [HRF.out.r3, HLL.out.1, List.drop_zero, List.take_of_length_le (by rw [HLL.out.2]; omega)])).mono ?_
  rintro e w11 ⟨A11, c11, rfl, hown11, hl11, hc11, hb⟩
  have hs1 := run_str (n := 512) c9 (HA10.out.below hb) HLL.out.2.symm
  have hs2 := run_str (n := 512) c7 (HM10.out.below hb) HLL.out.2.symm
  have hs3 := run_str (n := 512) c11 (OwnB.rd hown11) HLL.out.2.symm
  have HL11 := Lib.hid (HL10.out.below hb)
  have ca11 := below_cell hb ca10
  clear hown11 hl11 hc11 hb ca10
  go_wp2_with fail
  refine (lw_rot HL11.out (k := 0) rfl ko m _ rfl (by have := HRO.out; omega)).mono ?_
  rintro e w12 ⟨rfl, F12, hl12, hk12⟩
  rw [HRF.out.e4]
  have HL12 : Hid (LW w1 w12 p [a, b] (rots4 T ko m) F12) := Lib.hid hl12
  obtain ⟨ca12, _⟩ := hk12 _ _ ca11 HN10.out
  clear hl12 hk12 ca11 hs1 hs2 hs3
  go_wp2_with fail
  refine (lw_read_on HL12.out (k := 0) rfl 0 T.size 0 (T.size : Int) HRF.out.off4 rfl rfl HT4.out (by rw [HRF.out.s4]; omega) T.data.toList HTK.out).mono ?_
  rintro e w13 ⟨A13, c13, rfl, hown13, hl13, hc13, hb⟩
  have hs4 := run_str (n := T.size) c13 (OwnB.rd hown13) hl13.symm
  have HL13 := Lib.hid (HL12.out.below hb)
  have HEND := Lib.hid (HW1.out.trans (HL13.out.be.mono HW1.out.size))
  clear hown13 hl13 hc13 hb ca12
  go_wp2_with fail
  go_ret
  exact ⟨by simp, HEND.out⟩
end Go.Proofs.Ytoompglghjpapaa
