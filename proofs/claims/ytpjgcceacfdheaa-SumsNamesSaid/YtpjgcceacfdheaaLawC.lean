/-
  Walk: the law SumsSeal: bytes with their own sum behind have the sums 0; sums of sums of bytes of one length add up.
-/
import Derived.Test.YtpjgcceacfdheaaLawB
import Derived.Deep.DrawnRows
import Derived.Deep.RegionHeld3
import Derived.Deep.RegionWith
namespace Go.Proofs.Ytpjgcceacfdheaa
open Go.RowKit Crc
set_option linter.unusedVariables false
set_option linter.unusedSimpArgs false

theorem one_val (l : List UInt8) : ((crc8 l).toNat : Int) = ((UInt8.ofNat (crc8 l).toNat).toNat : Int) := by
  have := (crc8 l).isLt
  have e : (UInt8.ofNat (crc8 l).toNat).toNat = (crc8 l).toNat := by simp
  omega
theorem one_seal (l : List UInt8) : crc8 (l ++ [UInt8.ofNat (crc8 l).toNat]) = 0#8 := by
  refine crc8_seal l _ ?_
  apply BitVec.eq_of_toNat_eq
  have := (crc8 l).isLt
  unfold byteV
  have e : (UInt8.ofNat (crc8 l).toNat).toNat = (crc8 l).toNat := by simp
  rw [BitVec.toNat_ofNat, e]; omega
theorem two_seal (l : List UInt8) : crc16 (l ++ [UInt8.ofNat ((crc16 l).toNat / 256), UInt8.ofNat (crc16 l).toNat]) = 0#16 := by
  refine crc16_seal l _ _ ?_
  have h : ∀ v : BitVec 16, byteV 16 (UInt8.ofNat (v.toNat / 256)) <<< 8 ^^^ byteV 16 (UInt8.ofNat v.toNat) = v := by
    intro v
    have hv := v.isLt
    have e1 : (UInt8.ofNat (v.toNat / 256)).toNat = v.toNat / 256 % 2 ^ 8 := by simp
    have e2 : (UInt8.ofNat v.toNat).toNat = v.toNat % 2 ^ 8 := by simp
    unfold byteV
    rw [e1, e2]
    apply BitVec.eq_of_getLsbD_eq
    intro i hi
    rw [BitVec.getLsbD_xor, BitVec.getLsbD_shiftLeft, BitVec.getLsbD_ofNat, BitVec.getLsbD_ofNat, Nat.testBit_mod_two_pow, Nat.testBit_mod_two_pow, BitVec.getLsbD]
    by_cases h8 : i < 8
    · simp [h8, hi]
    · have h9 : i - 8 < 8 := by omega
      have h10 : i - 8 < 16 := by omega
      have h11 : (v.toNat / 256).testBit (i - 8) = v.toNat.testBit i := by
        rw [show 256 = 2 ^ 8 by rfl, Nat.testBit_div_two_pow]; congr 1; omega
      simp [h8, hi, h9, h10, h11]
  exact h _

theorem one_cells (w : World) (l : List UInt8) : ∀ j u, (bc [UInt8.ofNat (crc8 l).toNat])[j]? = some u → (w.alloc (.cells #[.int .u8 ((crc8 l).toNat : Int)] 5)).cell? ((⟨w.heap.size, 0, none⟩ : Addr).add j) = some u := by
  rw [one_val]; exact cells_new w _ _
theorem two_cells (w : World) (v : BitVec 16) : ∀ j u, (bc [UInt8.ofNat (v.toNat / 256), UInt8.ofNat v.toNat])[j]? = some u → (w.alloc (.cells #[.int .u8 ((v.toNat : Int) / 256), .int .u8 ((v.toNat : Int) % 256)] 5)).cell? ((⟨w.heap.size, 0, none⟩ : Addr).add j) = some u := by
  have hv := v.isLt
  have e1 : (v.toNat : Int) / 256 = ((UInt8.ofNat (v.toNat / 256)).toNat : Int) := by
    have : (UInt8.ofNat (v.toNat / 256)).toNat = v.toNat / 256 % 256 := by simp
    omega
  have e2 : (v.toNat : Int) % 256 = ((UInt8.ofNat v.toNat).toNat : Int) := by
    have : (UInt8.ofNat v.toNat).toNat = v.toNat % 256 := by simp
    omega
  rw [e1, e2]; exact cells_new w _ _
theorem zero8 : (((0#8 : BitVec 8).toNat : Int) != 0) = false := by decide
theorem zero16 : (((0#16 : BitVec 16).toNat : Int) != 0) = false := by decide

/-- the first k bytes put together, the others as they were -/
def xorTo (a b : List UInt8) (k : Nat) : List UInt8 := xorB (a.take k) (b.take k) ++ a.drop k
theorem xorTo_zero (a b : List UInt8) : xorTo a b 0 = a := by simp [xorTo, xorB]
theorem xorTo_length (a b : List UInt8) (k : Nat) (h : a.length = b.length) : (xorTo a b k).length = a.length := by
  simp [xorTo, xorB]; omega
theorem xorTo_all (a b : List UInt8) (k : Nat) (hk : ¬ k < a.length) (h : a.length = b.length) : xorTo a b k = xorB a b := by
  unfold xorTo
  rw [List.take_of_length_le (by omega), List.take_of_length_le (by omega), List.drop_eq_nil_of_le (by omega), List.append_nil]
theorem xorTo_get (a b : List UInt8) (k : Nat) (hk : k < a.length) (h : a.length = b.length) : (xorTo a b k).getD k 0 = a[k] := by
  have hl : (xorB (a.take k) (b.take k)).length = k := by simp [xorB]; omega
  unfold xorTo
  rw [List.getD, List.getElem?_append_right (by omega), hl]
  simp [hk]
theorem xorTo_set (a b : List UInt8) (k : Nat) (hk : k < a.length) (h : a.length = b.length) :
    (xorTo a b k).set k ((xorTo a b k).getD k 0 ^^^ b.getD k 0) = xorTo a b (k + 1) := by
  rw [xorTo_get a b k hk h, getD_eq b k 0 (by omega)]
  have hl : (xorB (a.take k) (b.take k)).length = k := by simp [xorB]; omega
  unfold xorTo
  rw [List.set_append_right _ _ (by omega), hl, Nat.sub_self, take_snoc a k hk, take_snoc b k (by omega)]
  have e : xorB (a.take k ++ [a[k]]) (b.take k ++ [b[k]]) = xorB (a.take k) (b.take k) ++ [a[k] ^^^ b[k]] := by
    unfold xorB
    rw [List.zipWith_append (by simp; omega)]; rfl
  rw [e, List.append_assoc]
  congr 1
  rw [List.drop_eq_getElem_cons hk]; rfl

theorem u8x (x y : UInt8) : bits .xor .u8 (x.toNat : Int) (y.toNat : Int) = ((x ^^^ y).toNat : Int) := by
  have hx := x.toNat_lt
  have hy := y.toNat_lt
  rw [u8_xor_nat _ _ (by omega) (by omega), UInt8.toNat_xor]
theorem i64x {n : Nat} (hn : n ≤ 32) (x y : BitVec n) : bits .xor .i64 (x.toNat : Int) (y.toNat : Int) = ((x ^^^ y).toNat : Int) := by
  have hx := x.isLt
  have hy := y.isLt
  have : 2 ^ n ≤ 2 ^ 32 := Nat.pow_le_pow_right (by omega) hn
  rw [i64_xor_nat _ _ (by omega) (by omega), BitVec.toNat_xor]
theorem eq8 (a b : List UInt8) (h : a.length = b.length) : (((crc8 (xorB a b)).toNat : Int) == bits .xor .i64 ((crc8 a).toNat : Int) ((crc8 b).toNat : Int)) = true := by
  rw [i64x (by omega), crc8, crcL_sum _ _ a b h]; exact beq_self_eq_true _
theorem eq16 (a b : List UInt8) (h : a.length = b.length) : (((crc16 (xorB a b)).toNat : Int) == bits .xor .i64 ((crc16 a).toNat : Int) ((crc16 b).toNat : Int)) = true := by
  rw [i64x (by omega), crc16, crcL_sum _ _ a b h]; exact beq_self_eq_true _
theorem eq32 (a b : List UInt8) (h : a.length = b.length) : (((crc32 (xorB a b)).toNat : Int) == bits .xor .i64 (bits .xor .i64 ((crc32 a).toNat : Int) ((crc32 b).toNat : Int)) ((crc32 (zeros a.length)).toNat : Int)) = true := by
  rw [i64x (by omega), i64x (by omega), crc32_sum a b h]; exact beq_self_eq_true _
theorem rd_made (w : World) (n : Nat) : RdB (w.alloc (.cells (madeCells #[.int .u8 0] n) 5)) (some ⟨w.heap.size, 0, none⟩) (zeros n) := fun hl => by
  refine ⟨_, rfl, fun k hk => ?_⟩
  have : (⟨w.heap.size, 0, none⟩ : Addr).add k = ⟨w.heap.size, k, none⟩ := by unfold Addr.add; split <;> simp_all
  rw [this, World.cell?_alloc_new]
  have hk' : k < n := by simpa [zeros] using hk
  rw [← Array.getElem?_toList, toList_madeCells_one]
  simp [zeros, hk']

theorem run_make_u8 (n : Nat) (hn : n ≤ 140737488355328) (w : World) :
    (Instr.makeSlice 22 (.int .i64 (n : Int)) (.int .i64 (n : Int))).run Try.prog w = .ok (.slice (some ⟨w.heap.size, 0, none⟩) n n) (w.alloc (.cells (madeCells #[.int .u8 0] n) 5)) := by
  obtain ⟨i, hi0, hz0, hz1, hz2⟩ := info_parts info_u8
  have hr := run_make (P := Try.prog) w 22 5 i (.int .u8 0) Try.underlying22 hi0 hz0 .i64 .i64 n n (by omega) (by omega) (by rw [hz2]; omega) (by omega)
  simp only [Int.toNat_natCast, hz1, Nat.mul_one] at hr
  exact hr

attribute [local go_sem ↓] Go.wp_at_zero Go.wp_at_succ
set_option maxRecDepth 100000 in
set_option maxHeartbeats 8000000 in
theorem SumsSeal_walk (A B : Option Addr) (a b : List UInt8) (ca cb : Nat) (w : World) (hma : a.length ≤ maxLen) (hmb : b.length ≤ maxLen) (ha : RdB w A a) (hb : RdB w B b) :
    Calls Try.prog 5 #[.slice A a.length ca, .slice B b.length cb] w fun e w' => e = .returned (.bool true) ∧ Below w.heap.size w w' := by
  unfold maxLen at hma hmb
  have HA := Lib.hid ha; clear ha
  have HB := Lib.hid hb; clear hb
  go_enter Try.func5, Try.ntmps5
  go_wp2_with fail
  refine (known_any w).mono ?_
  rintro e w1 ⟨rfl, hb1⟩
  have HW := Lib.hid hb1
  have HA1 := Lib.hid (HA.out.below hb1)
  have HB1 := Lib.hid (HB.out.below hb1)
  clear hb1
  by_cases hl : 2000 < a.length
  · go_wp2_with fail
    refine (known_any w1).mono ?_
    rintro e w2 ⟨rfl, hb2⟩
    have HB2 := Lib.hid (HW.out.trans (hb2.mono HW.out.size))
    clear hb2
    go_wp2
    go_ret
    exact ⟨rfl, HB2.out⟩
  by_cases hl2 : 2000 < b.length
  · go_wp2_with fail
    refine (known_any w1).mono ?_
    rintro e w2 ⟨rfl, hb2⟩
    have HB2 := Lib.hid (HW.out.trans (hb2.mono HW.out.size))
    clear hb2
    go_wp2
    go_ret
    exact ⟨rfl, HB2.out⟩
  go_wp2_with fail
  refine (Crc8_at A a a.length ca _ rfl (by unfold maxLen; omega) HA1.out).mono ?_
  rintro e w' ⟨rfl, rfl⟩
  go_wp2_with fail
  refine (Crc16_at A a a.length ca _ rfl (by unfold maxLen; omega) HA1.out).mono ?_
  rintro e w' ⟨rfl, rfl⟩
  have hx8 := (crc8 a).isLt
  have hx16 := (crc16 a).isLt
  have HE1 := Lib.hid (HA1.out.below ((Below.refl w1.heap.size w1).alloc (Nat.le_refl _) (.cells #[] 5)))
  have HC1 := Lib.hid (fun w => one_cells w a)
  have HC2 := Lib.hid (fun w => two_cells w (crc16 a))
  go_wp2_with (first
    | (at_builtin; refine wpList_appRd (.inl rfl) (.tmp 26) (.tmp 27) rfl w.heap.size _ 0 0 [] rfl rfl (own_empty w1 HW.out.size) A a.length ca a rfl rfl HE1.out (by simp; omega) (by have := HW.out.size; simp; omega) ?_; (intro A2 c2 w2 hown2 hg2 hat2))
    | (at_builtin; refine wpList_appB_g rfl (.tmp 28) (.tmp 31) rfl w.heap.size A2 a.length c2 a rfl rfl (OwnR.alloc hown2 _) ⟨w2.heap.size, 0, none⟩ 1 1 [UInt8.ofNat (crc8 a).toNat] rfl rfl (HC1.out w2) (by simp; omega) (by have := hg2.size; have := HW.out.size; simp at *; omega) ?_; (intro A3 c3 w3 hown3 hg3 hat3)))
  have HW2 := Lib.hid (show Below w1.heap.size w1 w2 from ((Below.refl w1.heap.size w1).alloc (Nat.le_refl _) _).grown hg2 (by simp) (fun k hk => by simp [blk] at hk; omega))
  have hA2 : ∀ k, blk A2 = some k → w1.heap.size ≤ k := by
    intro k hk
    rcases hat2 with e | e <;> rw [hk] at e <;> simp [blk] at e <;> omega
  have HW3 := Lib.hid (show Below w1.heap.size w1 w3 from (HW2.out.alloc HW2.out.size _).grown hg3 (by have := HW2.out.size; simp; omega) hA2)
  have HO3 := Lib.hid hown3
  clear hown2 hg2 hat2 hown3 hg3 hat3 hA2
  refine (Crc8_at A3 (a ++ [UInt8.ofNat (crc8 a).toNat]) _ c3 _ (by simp) (by unfold maxLen; omega) (OwnB.rd HO3.out)).mono ?_
  rintro e w' ⟨rfl, rfl⟩
  rw [one_seal]
  have HE3 := Lib.hid (HA1.out.below (HW3.out.alloc HW3.out.size (.cells #[] 5)))
  have z8 := zero8
  go_wp2_with (first
    | (at_builtin; refine wpList_appRd (.inr rfl) (.tmp 36) (.tmp 37) rfl w.heap.size _ 0 0 [] rfl rfl (own_empty w3 (by have := HW3.out.size; have := HW.out.size; omega)) A a.length ca a rfl rfl HE3.out (by simp; omega) (by have := HW3.out.size; have := HW.out.size; simp; omega) ?_; (intro A4 c4 w4 hown4 hg4 hat4))
    | (at_builtin; refine wpList_appB_g rfl (.tmp 38) (.tmp 44) rfl w.heap.size A4 a.length c4 a rfl rfl (OwnR.alloc hown4 _) ⟨w4.heap.size, 0, none⟩ 2 2 _ rfl rfl (HC2.out w4) (by simp; omega) (by have := hg4.size; have := HW3.out.size; have := HW.out.size; simp at *; omega) ?_; (intro A5 c5 w5 hown5 hg5 hat5)))
  have HW4 := Lib.hid (show Below w1.heap.size w1 w4 from (HW3.out.alloc HW3.out.size _).grown hg4 (by have := HW3.out.size; simp; omega) (fun k hk => by simp [blk] at hk; have := HW3.out.size; omega))
  have hA4 : ∀ k, blk A4 = some k → w1.heap.size ≤ k := by
    intro k hk
    have := HW3.out.size
    rcases hat4 with e | e <;> rw [hk] at e <;> simp [blk] at e <;> omega
  have HW5 := Lib.hid (show Below w1.heap.size w1 w5 from (HW4.out.alloc HW4.out.size _).grown hg5 (by have := HW4.out.size; simp; omega) hA4)
  have HO5 := Lib.hid hown5
  clear hown4 hg4 hat4 hown5 hg5 hat5 hA4
  refine (Crc16_at A5 _ _ c5 _ (by simp) (by unfold maxLen; omega) (OwnB.rd HO5.out)).mono ?_
  rintro e w' ⟨rfl, rfl⟩
  rw [two_seal]
  have z16 := zero16
  by_cases hab : a.length = b.length
  · have hne : ((a.length : Int) != (b.length : Int)) = false := by rw [bne_eq_false_iff_eq]; omega
    have Hab := Lib.hid hab; clear hab
    have HE5 := Lib.hid (HA1.out.below (HW5.out.alloc HW5.out.size (.cells #[] 5)))
    go_wp2_with (at_builtin; refine wpList_appRd (.inl rfl) (.tmp 54) (.tmp 55) rfl w.heap.size _ 0 0 [] rfl rfl (own_empty w5 (by have := HW5.out.size; have := HW.out.size; omega)) A a.length ca a rfl rfl HE5.out (by simp; omega) (by have := HW5.out.size; have := HW.out.size; simp; omega) ?_; (intro A6 c6 w6 hown6 hg6 hat6))
    have HW6 := Lib.hid (show Below w1.heap.size w1 w6 from (HW5.out.alloc HW5.out.size _).grown hg6 (by have := HW5.out.size; simp; omega) (fun k hk => by simp [blk] at hk; have := HW5.out.size; omega))
    have HA6 := Lib.hid (show ∀ k, blk A6 = some k → w1.heap.size ≤ k from by
      intro k hk
      have := HW5.out.size
      rcases hat6 with e | e <;> rw [hk] at e <;> simp [blk] at e <;> omega)
    have HO6 := Lib.hid (show OwnB w6 w.heap.size A6 c6 a from hown6)
    clear hown6 hg6 hat6
    go_loopw [8] (fun i wr => ∃ k : Nat, i = .int .i64 k ∧ k ≤ a.length ∧ Hid (OwnB wr w.heap.size A6 c6 (xorTo a b k)) ∧ Hid (Below w1.heap.size w1 wr)) (fun i _ => a.length - (intOf i).toNat)
    case atStart => exact ⟨0, rfl, Nat.zero_le _, by rw [xorTo_zero]; exact HO6, HW6⟩
    case round =>
      obtain ⟨k, rfl, hk, HO, HWr⟩ := hrel
      have HX := Lib.hid (xorTo_length a b k Hab.out)
      by_cases hlt : k < a.length
      · obtain ⟨g, rfl⟩ := OwnR.some_ HO.out (by rw [HX.out]; omega)
        have HG := Lib.hid (HA6.out g rfl)
        have cc := HO.out.cell_ k (by rw [HX.out]; exact hlt)
        have cf := HO.out.free_ k
        obtain ⟨bd, rfl, cb0⟩ := (HB1.out.below HWr.out).at_ (k := k) (by rw [← Hab.out]; exact hlt)
        have hkb : (k : Int) < (b.length : Int) := by have := Hab.out; omega
        have HS := Lib.hid (xorTo_set a b k hlt Hab.out)
        have b1 := getD_lt (xorTo a b k) k
        have b2 := getD_lt b k
        generalize (xorTo a b k).getD k 0 = x at *
        generalize b.getD k 0 = y at *
        go_wp2
        go_region
        go_wp2
        rw [u8x]
        have HO9 := OwnB.drew (HO.out.set_ k (x ^^^ y))
        rw [HS.out] at HO9
        exact ⟨⟨k + 1, by go_num, by omega, HO9, (HWr.out.setCell (p := ⟨g, k, none⟩) HG.out _).drew⟩, by simp [intOf]; omega⟩
      · have HXB := Lib.hid (xorTo_all a b k hlt Hab.out)
        rw [HXB.out] at HO HX
        have HR6 := Lib.hid (OwnB.rd HO.out)
        have HRA := Lib.hid (HA1.out.below HWr.out)
        have HRB := Lib.hid (HB1.out.below HWr.out)
        have t8 := eq8 a b Hab.out
        have t16 := eq16 a b Hab.out
        have t32 := eq32 a b Hab.out
        generalize hc : xorB a b = cc at *
        have Hc := Lib.hid hc; clear hc
        have HB2 := Lib.hid (show b.length ≤ maxLen by unfold maxLen; omega)
        have HA2 := Lib.hid (show a.length ≤ maxLen by unfold maxLen; omega)
        have hmk := fun W => run_make_u8 a.length (by omega) W
        have HMK := Lib.hid (fun W => rd_made W a.length)
        have HZL := Lib.hid (show (zeros a.length).length = a.length by simp [zeros])
        have HEND := Lib.hid (HW.out.trans (HWr.out.mono HW.out.size))
        clear HA HA1 HB1 HE1 HC1 HC2 HE3 HE5 HW2 HW3 HW4 HW5 HO3 HO5 HO6 HA6 hx8 hx16 z8 z16 hne HWr HO
        go_wp2
        go_region_held3 (fun _ => True) (trivial) (first
          | (go_at_call_of 10 A6; refine (Crc8_at A6 cc _ c6 _ HX.out.symm HA2.out ?_).mono ?_; (first | exact HR6.out | exact HR6.out.below ((Below.refl _ _).alloc (Nat.le_refl _) _) | exact (HR6.out.below ((Below.refl _ _).alloc (Nat.le_refl _) _)).drew | exact HR6.out.below (((Below.refl _ _).alloc (Nat.le_refl _) _).drew) | exact HR6.out.below (((Below.refl _ _).drew.alloc (Nat.le_refl _) _))); rintro e w' ⟨rfl, rfl⟩)
          | (go_at_call_of 10 B; refine (Crc8_at B b _ cb _ rfl HB2.out ?_).mono ?_; (first | exact HRB.out | exact HRB.out.below ((Below.refl _ _).alloc (Nat.le_refl _) _) | exact (HRB.out.below ((Below.refl _ _).alloc (Nat.le_refl _) _)).drew | exact HRB.out.below (((Below.refl _ _).alloc (Nat.le_refl _) _).drew) | exact HRB.out.below (((Below.refl _ _).drew.alloc (Nat.le_refl _) _))); rintro e w' ⟨rfl, rfl⟩)
          | (go_at_call_of 12 A6; refine (Crc16_at A6 cc _ c6 _ HX.out.symm HA2.out ?_).mono ?_; (first | exact HR6.out | exact HR6.out.below ((Below.refl _ _).alloc (Nat.le_refl _) _) | exact (HR6.out.below ((Below.refl _ _).alloc (Nat.le_refl _) _)).drew | exact HR6.out.below (((Below.refl _ _).alloc (Nat.le_refl _) _).drew) | exact HR6.out.below (((Below.refl _ _).drew.alloc (Nat.le_refl _) _))); rintro e w' ⟨rfl, rfl⟩)
          | (go_at_call_of 12 B; refine (Crc16_at B b _ cb _ rfl HB2.out ?_).mono ?_; (first | exact HRB.out | exact HRB.out.below ((Below.refl _ _).alloc (Nat.le_refl _) _) | exact (HRB.out.below ((Below.refl _ _).alloc (Nat.le_refl _) _)).drew | exact HRB.out.below (((Below.refl _ _).alloc (Nat.le_refl _) _).drew) | exact HRB.out.below (((Below.refl _ _).drew.alloc (Nat.le_refl _) _))); rintro e w' ⟨rfl, rfl⟩)
          | (go_at_call_of 14 A6; refine (Crc32_at A6 cc _ c6 _ HX.out.symm HA2.out ?_).mono ?_; (first | exact HR6.out | exact HR6.out.below ((Below.refl _ _).alloc (Nat.le_refl _) _) | exact (HR6.out.below ((Below.refl _ _).alloc (Nat.le_refl _) _)).drew | exact HR6.out.below (((Below.refl _ _).alloc (Nat.le_refl _) _).drew) | exact HR6.out.below (((Below.refl _ _).drew.alloc (Nat.le_refl _) _))); rintro e w' ⟨rfl, rfl⟩)
          | (go_at_call_of 14 A; refine (Crc32_at A a _ ca _ rfl HA2.out ?_).mono ?_; (first | exact HRA.out | exact HRA.out.below ((Below.refl _ _).alloc (Nat.le_refl _) _) | exact (HRA.out.below ((Below.refl _ _).alloc (Nat.le_refl _) _)).drew | exact HRA.out.below (((Below.refl _ _).alloc (Nat.le_refl _) _).drew) | exact HRA.out.below (((Below.refl _ _).drew.alloc (Nat.le_refl _) _))); rintro e w' ⟨rfl, rfl⟩)
          | (go_at_call_of 14 B; refine (Crc32_at B b _ cb _ rfl HB2.out ?_).mono ?_; (first | exact HRB.out | exact HRB.out.below ((Below.refl _ _).alloc (Nat.le_refl _) _) | exact (HRB.out.below ((Below.refl _ _).alloc (Nat.le_refl _) _)).drew | exact HRB.out.below (((Below.refl _ _).alloc (Nat.le_refl _) _).drew) | exact HRB.out.below (((Below.refl _ _).drew.alloc (Nat.le_refl _) _))); rintro e w' ⟨rfl, rfl⟩)
          | (go_at_call_of 14 wr; refine (Crc32_at (some ⟨wr.heap.size, 0, none⟩) (zeros a.length) _ a.length _ HZL.out.symm HA2.out ?_).mono ?_; exact HMK.out _; rintro e w' ⟨rfl, rfl⟩))
        all_goals
          go_simp
          go_wp2_with fail
          go_ret
          refine ⟨rfl, ?_⟩
          (first | exact HEND.out.drew.alloc HEND.out.size _ | exact (HEND.out.alloc HEND.out.size _).drew)
  · have hne : ((a.length : Int) != (b.length : Int)) = true := by rw [bne_iff_ne]; omega
    go_wp2
    go_ret
    exact ⟨rfl, HW.out.trans (HW5.out.mono HW.out.size)⟩
end Go.Proofs.Ytpjgcceacfdheaa
