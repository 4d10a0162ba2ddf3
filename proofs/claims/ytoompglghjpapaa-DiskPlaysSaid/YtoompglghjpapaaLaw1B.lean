/-
  Walk: the law DiskParts: bytes that are written in parts are the bytes written at once; what is read in parts is what is read at once.
-/
import Derived.Test.YtoompglghjpapaaLaw1A
import Derived.Test.YtoompglghjpapaaConv
import Derived.IntWalk
namespace Go.Proofs.Ytoompglghjpapaa
open Go.RowKit
set_option linter.unusedVariables false
set_option linter.unusedSimpArgs false
attribute [local go_sem ↓] Go.wp_at_zero Go.wp_at_succ

/-- what pair gives, taken apart -/
theorem PairSpec.open_ {w w' : World} {e : Ending} (h : PairSpec w e w') : ∃ p a b ad c F, e = .returned (.tuple #[ob p, .slice (some ad) 2 c, .bool true]) ∧ LW w w' p [a, b] pair0 F ∧ w'.cell? ad = some (ob a) ∧ w'.cell? ⟨ad.block, ad.off + 1, none⟩ = some (ob b) ∧ ¬ F ad.block ∧ w.heap.size ≤ ad.block ∧ ad.block < w'.heap.size := by
  obtain ⟨p, a, b, ad, c, F, h1, h2, h3, h4, h5, h6, h7⟩ := h
  rw [addr_add0] at h3
  rw [add_pos ad 1 (by omega)] at h4
  exact ⟨p, a, b, ad, c, F, h1, h2, h3, h4, h5, h6, h7⟩
def parts0 (T : ByteArray) (ko : Nat) : St := (pair0.write 0 ko T.data.toList).2
def parts1 (T : ByteArray) (ko kc : Nat) : St := ((parts0 T ko).write 1 ((ko : Int) + kc) (T.extract kc T.size).data.toList).2
def parts2 (T : ByteArray) (ko kc : Nat) : St := ((parts1 T ko kc).write 1 ko (T.extract 0 kc).data.toList).2
theorem ext_tail (T : ByteArray) (k : Nat) : (T.extract k T.size).data.toList = T.data.toList.drop k := by
  simp [ByteArray.data_extract]
  rw [List.take_of_length_le (by simp)]
theorem ext_head (T : ByteArray) (k : Nat) : (T.extract 0 k).data.toList = T.data.toList.take k := by
  simp [ByteArray.data_extract]
theorem parts_facts (T : ByteArray) (ko kc : Nat) (hT : T.size ≤ 200) (hko : ko ≤ 55) (hkc : kc ≤ T.size) :
    (pair0.write 0 ko T.data.toList).1 = 0 ∧ ((parts0 T ko).write 1 ((ko : Int) + kc) (T.extract kc T.size).data.toList).1 = 0 ∧ ((parts1 T ko kc).write 1 ko (T.extract 0 kc).data.toList).1 = 0 ∧ (parts2 T ko kc).off = false ∧
      (parts2 T ko kc).at_ 0 = (Dk.fresh 4).write ko T.data.toList ∧ (parts2 T ko kc).at_ 1 = ((Dk.fresh 2).write (ko + kc) (T.data.toList.drop kc)).write ko (T.data.toList.take kc) := by
  have hl : T.data.toList.length = T.size := str_len T
  have h0 := St.write_on (S := pair0) (k := 0) (o := ko) (oi := ko) (b := T.data.toList) rfl rfl rfl (by
    have : (pair0.at_ 0).size = 512 := by decide +kernel
    rw [this, hl]; omega)
  have e0 : parts0 T ko = ⟨pair0.ds.set 0 ((pair0.at_ 0).write ko T.data.toList), false, -1⟩ := by unfold parts0; rw [h0]
  have a01 : (parts0 T ko).at_ 1 = Dk.fresh 2 := by rw [e0]; rfl
  have h1 := St.write_on (S := parts0 T ko) (k := 1) (o := ko + kc) (oi := (ko : Int) + kc) (b := (T.extract kc T.size).data.toList) (by rw [e0]) (by rw [e0]) (by omega) (by
    rw [a01, fresh_size, ext_tail, List.length_drop, hl]; omega)
  have e1 : parts1 T ko kc = ⟨(parts0 T ko).ds.set 1 ((Dk.fresh 2).write (ko + kc) (T.data.toList.drop kc)), false, -1⟩ := by unfold parts1; rw [h1, a01, ext_tail]
  have l0 : (parts0 T ko).ds.length = 2 := by rw [e0]; rfl
  have a11 : (parts1 T ko kc).at_ 1 = (Dk.fresh 2).write (ko + kc) (T.data.toList.drop kc) := by rw [e1]; exact at_set_same (by omega)
  have a10 : (parts1 T ko kc).at_ 0 = (Dk.fresh 4).write ko T.data.toList := by rw [e1, at_set_other (by omega), e0]; rfl
  have hs1 : ((Dk.fresh 2).write (ko + kc) (T.data.toList.drop kc)).size = 256 := by
    rw [write_size _ (by rw [fresh_size, List.length_drop, hl]; omega), fresh_size]
  have h2 := St.write_on (S := parts1 T ko kc) (k := 1) (o := ko) (oi := ko) (b := (T.extract 0 kc).data.toList) (by rw [e1]) (by rw [e1]) rfl (by
    rw [a11, hs1, ext_head, List.length_take, hl]; omega)
  have l1 : (parts1 T ko kc).ds.length = 2 := by rw [e1]; simp [l0]
  have e2 : parts2 T ko kc = ⟨(parts1 T ko kc).ds.set 1 (((Dk.fresh 2).write (ko + kc) (T.data.toList.drop kc)).write ko (T.data.toList.take kc)), false, -1⟩ := by unfold parts2; rw [h2, a11, ext_head]
  exact ⟨by rw [h0], by rw [h1], by rw [h2], by rw [e2], by rw [e2, at_set_other (by omega), a10], by rw [e2]; exact at_set_same (by omega)⟩
theorem two_cuts {α : Type} (l : List α) {k n : Nat} (h : k ≤ n) : l.take k ++ (l.drop k).take (n - k) = l.take n := by
  have := List.take_append_drop k (l.take n)
  rw [List.take_take, List.drop_take, Nat.min_eq_left h] at this
  exact this
theorem cat_bytes {a b : List UInt8} {T : ByteArray} (h : a ++ b = T.data.toList) : (⟨a.toArray⟩ : ByteArray) ++ (⟨b.toArray⟩ : ByteArray) = T := by
  apply ByteArray.ext
  rw [ByteArray.data_append]
  apply Array.ext'
  simpa using h
/-- two parts are the whole -/
theorem parts_rd (l : List UInt8) (ko kc : Nat) (h : ko + l.length ≤ 256) (hk : kc ≤ l.length) :
    (((Dk.fresh 2).write (ko + kc) (l.drop kc)).write ko (l.take kc)).rd.take 256 = ((Dk.fresh 4).write ko l).rd.take 256 := by
  show (putAt (putAt (zeroB 256) (ko + kc) (l.drop kc)) ko (l.take kc)).take 256 = (putAt (zeroB 512) ko l).take 256
  have hz2 := zeroB_length 256
  have hz4 := zeroB_length 512
  have hdl : (l.drop kc).length = l.length - kc := List.length_drop
  have htl : (l.take kc).length = kc := by rw [List.length_take]; omega
  have hp : (putAt (zeroB 256) (ko + kc) (l.drop kc)).length = 256 := by rw [putAt_length (by omega), hz2]
  apply List.ext_getElem?
  intro i
  rw [List.getElem?_take, List.getElem?_take]
  by_cases hi : i < 256
  · rw [if_pos hi, if_pos hi, putAt_get (by omega), putAt_get (by omega), putAt_get (by omega), hdl, htl]
    by_cases h1 : ko ≤ i ∧ i < ko + kc
    · rw [if_pos h1, if_pos (by omega), List.getElem?_take, if_pos (by omega)]
    · rw [if_neg h1]
      by_cases h2 : ko + kc ≤ i ∧ i < ko + kc + (l.length - kc)
      · rw [if_pos h2, if_pos (by omega), List.getElem?_drop]
        congr 1; omega
      · rw [if_neg h2, if_neg (by omega)]
        rw [zeroB_get hi, zeroB_get (by omega)]
  · rw [if_neg hi, if_neg hi]
set_option maxRecDepth 100000 in
set_option maxHeartbeats 2000000 in
theorem DiskParts_walk (s : ByteArray) (o c : Int) (w : World) (hs : s.size ≤ maxLen) (ho : -9223372036854775808 ≤ o ∧ o ≤ 9223372036854775807) (hc : -9223372036854775808 ≤ c ∧ c ≤ 9223372036854775807) :
    Calls Try.prog 5 #[.string s, .int .i64 o, .int .i64 c] w fun e w' => e = .returned (.bool true) ∧ Below w.heap.size w w' := by
  unfold maxLen at hs
  go_enter Try.func5, Try.ntmps5
  go_wp2_with fail
  refine (known_any w).mono ?_
  rintro e w1 ⟨rfl, hb1⟩
  have HW1 := Lib.hid hb1
  clear hb1
  go_wp2_with fail
  refine (pair_any w1).mono ?_
  intro e w2 hpr
  obtain ⟨p, a, b, ad, cc, F, rfl, hl, ca, cb, hn, hge, hlt⟩ := hpr.open_
  have HL := Lib.hid hl
  have HN := Lib.hid hn
  clear hl hn hpr
  go_wp2_with fail
  obtain ⟨T, hT⟩ : ∃ T, s.extract 0 (min (s.size : Int) 200).toNat = T := ⟨_, rfl⟩
  have hTs : T.size ≤ 200 := by rw [← hT]; simp [ByteArray.size_extract]; omega
  rw [hT]
  clear hT
  obtain ⟨ko, hko, hko2⟩ := cut_mod o 55 (by omega)
  obtain ⟨kc, hkc, hkc2⟩ := cut_mod c T.size (by omega)
  have HKO := Lib.hid hko
  have HKC := Lib.hid hkc
  clear hko hkc
  go_quiet (fail)
  rw [show (56 : Int) = ((55 : Nat) : Int) + 1 from rfl, HKO.out, HKC.out]
  have HL3 := Lib.hid (HL.out.drewN nq)
  have ca : (w2.drewN nq).cell? ad = some (ob a) := ca
  have cb : (w2.drewN nq).cell? ⟨ad.block, ad.off + 1, none⟩ = some (ob b) := cb
  have hlt : ad.block < (w2.drewN nq).heap.size := hlt
  clear HL HKO HKC
  obtain ⟨w3, hw3⟩ : ∃ w3, w2.drewN nq = w3 := ⟨_, rfl⟩
  rw [hw3] at HL3 ca cb hlt ⊢
  clear hw3
  have hcv := fun W => conv_run T W
  have hcv1 := fun W => conv_run (T.extract kc T.size) W
  have hcv2 := fun W => conv_run (T.extract 0 kc) W
  have HEL : Hid ((T.data.toList.drop kc).length = T.size - kc) := Lib.hid (by rw [List.length_drop, str_len])
  have HEH : Hid ((T.data.toList.take kc).length = kc) := Lib.hid (by rw [List.length_take, str_len]; omega)
  have HEL' : Hid ((T.extract kc T.size).size = T.size - kc) := Lib.hid (by rw [← str_len, ext_tail]; exact HEL.out)
  have HEH' : Hid ((T.extract 0 kc).size = kc) := Lib.hid (by rw [← str_len, ext_head]; exact HEH.out)
  have HE0 : Hid ((pair0.write 0 ko T.data.toList).1 = 0) := Lib.hid (parts_facts T ko kc hTs hko2 hkc2).1
  have HE1 : Hid (((parts0 T ko).write 1 ((ko : Int) + kc) (T.extract kc T.size).data.toList).1 = 0) := Lib.hid (parts_facts T ko kc hTs hko2 hkc2).2.1
  have HE2 : Hid (((parts1 T ko kc).write 1 ko (T.extract 0 kc).data.toList).1 = 0) := Lib.hid (parts_facts T ko kc hTs hko2 hkc2).2.2.1
  go_wp2_with fail
  have HR0 : Hid (-9223372036854775808 ≤ (ko : Int) ∧ (ko : Int) ≤ 9223372036854775807) := Lib.hid (by omega)
  have HR1 : Hid (-9223372036854775808 ≤ (ko : Int) + kc ∧ (ko : Int) + kc ≤ 9223372036854775807) := Lib.hid (by omega)
  have HSZ0 : Hid (T.size ≤ 70368744177664) := Lib.hid (by omega)
  have HSZ1 : Hid ((T.extract kc T.size).size ≤ 70368744177664) := Lib.hid (by rw [HEL'.out]; omega)
  have HSZ2 : Hid ((T.extract 0 kc).size ≤ 70368744177664) := Lib.hid (by rw [HEH'.out]; omega)
  have hsum : IntKind.i64.wrap ((ko : Int) + kc) = (ko : Int) + kc := IntWalk.i64_in _ (by omega)
  go_region_held (fun W : World => W.cell? ad = some (ob a) ∧ W.cell? ⟨ad.block, ad.off + 1, none⟩ = some (ob b)) (first | exact ⟨ca, cb⟩ | (refine ⟨conv_cell ?_, conv_cell ?_⟩ <;> assumption) | exact ⟨ca5, cb5⟩ | exact ⟨ca6, cb6⟩ | exact ⟨ca7, cb7⟩) (first | (go_at_call 28; refine (lw_write_conv HL6.out (k := 1) rfl (ko : Int) (T.extract 0 kc) kc _ _ rfl rfl HEH'.out HSZ2.out HR0.out).mono ?_; rintro e w7 ⟨rfl, F7, hl7, hk7⟩; rw [HE2.out]; have HL7 : Hid (LW w1 w7 p [a, b] (parts2 T ko kc) F7) := Lib.hid hl7; have HN7 := Lib.hid (hk7 _ _ ca6 HN6.out).2; have ca7 := (hk7 _ _ ca6 HN6.out).1; have cb7 := (hk7 _ _ cb6 HN6.out).1; clear hk7 hl7) | (go_at_call 28; refine (lw_write_conv HL5.out (k := 1) rfl ((ko : Int) + kc) (T.extract kc T.size) (T.size - kc) _ _ rfl rfl HEL'.out HSZ1.out HR1.out).mono ?_; rintro e w6 ⟨rfl, F6, hl6, hk6⟩; rw [HE1.out]; have HL6 : Hid (LW w1 w6 p [a, b] (parts1 T ko kc) F6) := Lib.hid hl6; have HN6 := Lib.hid (hk6 _ _ ca5 HN5.out).2; have ca6 := (hk6 _ _ ca5 HN5.out).1; have cb6 := (hk6 _ _ cb5 HN5.out).1; clear hk6 hl6) | (go_at_call 28; refine (lw_write_conv HL3.out.drew (k := 0) rfl (ko : Int) T T.size _ _ rfl rfl rfl HSZ0.out HR0.out).mono ?_; rintro e w5 ⟨rfl, F5, hl5, hk5⟩; rw [HE0.out]; have HL5 : Hid (LW w1 w5 p [a, b] (parts0 T ko) F5) := Lib.hid hl5; have HN5 := Lib.hid (hk5 _ _ ca HN.out).2; have ca5 := (hk5 _ _ ca HN.out).1; have cb5 := (hk5 _ _ cb HN.out).1; clear hk5 hl5))
  have HF := Lib.hid (parts_facts T ko kc hTs hko2 hkc2)
  have HTL : Hid (T.data.toList.length = T.size) := Lib.hid (str_len T)
  have HSA : Hid (((parts2 T ko kc).at_ 0).size = 512) := Lib.hid (by
    rw [HF.out.2.2.2.2.1, write_size _ (by rw [fresh_size, HTL.out]; omega), fresh_size])
  have HSB : Hid (((parts2 T ko kc).at_ 1).size = 256) := Lib.hid (by
    have h1 : ((Dk.fresh 2).write (ko + kc) (T.data.toList.drop kc)).size = 256 := by rw [write_size _ (by rw [fresh_size, HEL.out]; omega), fresh_size]
    rw [HF.out.2.2.2.2.2, write_size _ (by rw [h1, HEH.out]; omega), h1])
  have HEQ : Hid ((((parts2 T ko kc).at_ 0).rd.drop 0).take 256 = (((parts2 T ko kc).at_ 1).rd.drop 0).take 256) := Lib.hid (by
    rw [HF.out.2.2.2.2.1, HF.out.2.2.2.2.2, List.drop_zero, List.drop_zero]
    exact (parts_rd T.data.toList ko kc (by rw [HTL.out]; omega) (by rw [HTL.out]; exact hkc2)).symm)
  have HXY : Hid ((((parts2 T ko kc).at_ 0).rd.drop ko).take kc ++ (((parts2 T ko kc).at_ 0).rd.drop (ko + kc)).take (T.size - kc) = T.data.toList) := Lib.hid (by
    have h1 := putAt_take_drop (l := zeroB 512) (b := T.data.toList) (o := ko) (by rw [zeroB_length, HTL.out]; omega)
    rw [HF.out.2.2.2.2.1]
    show ((putAt (zeroB 512) ko T.data.toList).drop ko).take kc ++ ((putAt (zeroB 512) ko T.data.toList).drop (ko + kc)).take (T.size - kc) = T.data.toList
    rw [← List.drop_drop, two_cuts _ hkc2]
    rw [HTL.out] at h1; exact h1)
  have HOFF : Hid ((parts2 T ko kc).off = false) := Lib.hid HF.out.2.2.2.1
  have HSA2 : Hid (((parts2 T ko kc).at_ 0).size ≤ 2097152) := Lib.hid (by rw [HSA.out]; omega)
  have HSB2 : Hid (((parts2 T ko kc).at_ 1).size ≤ 2097152) := Lib.hid (by rw [HSB.out]; omega)
  obtain ⟨LA, hLA⟩ : ∃ l, (((parts2 T ko kc).at_ 0).rd.drop 0).take 256 = l := ⟨_, rfl⟩
  obtain ⟨LX, hLX⟩ : ∃ l, (((parts2 T ko kc).at_ 0).rd.drop ko).take kc = l := ⟨_, rfl⟩
  obtain ⟨LY, hLY⟩ : ∃ l, (((parts2 T ko kc).at_ 0).rd.drop (ko + kc)).take (T.size - kc) = l := ⟨_, rfl⟩
  rw [hLA] at HEQ
  rw [hLX, hLY] at HXY
  have HLA := Lib.hid hLA
  have HLX := Lib.hid hLX
  have HLY := Lib.hid hLY
  have HR1 := Lib.hid fun W (h : LW w1 W p [a, b] (parts2 T ko kc) F7) => lw_read_on h (k := 0) rfl 0 256 0 256 HOFF.out rfl rfl (by rw [HSA.out]; omega) HSA2.out LA HLA.out
  have HR2 := Lib.hid fun W (h : LW w1 W p [a, b] (parts2 T ko kc) F7) => lw_read_on h (k := 1) rfl 0 256 0 256 HOFF.out rfl rfl (by rw [HSB.out]; omega) HSB2.out LA HEQ.out.symm
  have HR3 := Lib.hid fun W (h : LW w1 W p [a, b] (parts2 T ko kc) F7) => lw_read_on h (k := 0) rfl ko kc ko kc HOFF.out rfl rfl (by rw [HSA.out]; omega) HSA2.out LX HLX.out
  have HR4 := Lib.hid fun W (h : LW w1 W p [a, b] (parts2 T ko kc) F7) => lw_read_on h (k := 0) rfl (ko + kc) (T.size - kc) ((ko : Int) + kc) ((T.size : Int) - kc) HOFF.out (by omega) (by omega) (by rw [HSA.out]; omega) HSA2.out LY HLY.out
  clear hLA hLX hLY HLA HLX HLY HOFF HSA HSB HSA2 HSB2 HEQ HF hsum hcv hcv1 hcv2 ca cb ca5 cb5 ca6 cb6 HE0 HE1 HE2 HL3 HL5 HL6 HN5 HN6 HEL HEH HEL' HEH' HR0 HSZ0 HSZ1 HSZ2
  go_simp
  go_wp2_with fail
  refine (HR1.out _ HL7.out).mono ?_
  rintro e w8 ⟨A8, c8, rfl, hown8, hl8, hc8, hb⟩
  have HO8 := Lib.hid hown8
  have HL8 := Lib.hid (HL7.out.below hb)
  have ca8 := below_cell hb ca7
  have cb8 := below_cell hb cb7
  clear hown8 hb ca7 cb7 hl8 hc8 HR1
  go_wp2_with fail
  refine (HR2.out _ HL8.out).mono ?_
  rintro e w9 ⟨A9, c9, rfl, hown9, hl9, hc9, hb⟩
  have HO8 := Lib.hid (OwnB.below HO8.out hb)
  have HO9 := Lib.hid hown9
  have HL9 := Lib.hid (HL8.out.below hb)
  have ca9 := below_cell hb ca8
  have cb9 := below_cell hb cb8
  clear hown9 hb ca8 cb8 hc9 HR2
  go_wp2_with fail
  refine (HR3.out _ HL9.out).mono ?_
  rintro e w10 ⟨A10, c10, rfl, hown10, hl10, hc10, hb⟩
  have HO8 := Lib.hid (OwnB.below HO8.out hb)
  have HO9 := Lib.hid (OwnB.below HO9.out hb)
  have HO10 := Lib.hid hown10
  have HL10 := Lib.hid (HL9.out.below hb)
  have ca10 := below_cell hb ca9
  clear hown10 hb ca9 cb9 hc10 HR3
  go_wp2_with fail
  refine (HR4.out _ HL10.out).mono ?_
  rintro e w11 ⟨A11, c11, rfl, hown11, hl11, hc11, hb⟩
  have HO8 := Lib.hid (OwnB.below HO8.out hb)
  have HO9 := Lib.hid (OwnB.below HO9.out hb)
  have HO10 := Lib.hid (OwnB.below HO10.out hb)
  have HL11 := Lib.hid (HL10.out.below hb)
  have hs1 := run_str (n := 256) c8 (OwnB.rd HO8.out) hl9.symm
  have hs2 := run_str (n := 256) c9 (OwnB.rd HO9.out) hl9.symm
  have hs3 := run_str (n := kc) c10 (OwnB.rd HO10.out) hl10.symm
  have hs4 := run_str (n := T.size - kc) c11 (OwnB.rd hown11) hl11.symm
  have HL9' := Lib.hid hl9
  have hcat : ¬ 9223372036854775807 < LX.length + LY.length := by omega
  have HC : Hid ((⟨LX.toArray⟩ : ByteArray) ++ (⟨LY.toArray⟩ : ByteArray) = T) := Lib.hid (cat_bytes HXY.out)
  have HEND := Lib.hid (HW1.out.trans (HL11.out.be.mono HW1.out.size))
  clear hb ca10 hown11 hl9 hl10 hl11 hc11 HR4 HO8 HO9 HO10
  go_wp2_with fail
  go_ret
  rw [HC.out]
  exact ⟨by simp, HEND.out⟩
end Go.Proofs.Ytoompglghjpapaa
