/-
  Walk: the law SumsTell: one bit that is turned turns each sum; turned back it is as it was.
-/
import Derived.Test.YtpjgcceacfdheaaKnown
namespace Go.Proofs.Ytpjgcceacfdheaa
open Go.RowKit Crc
set_option linter.unusedVariables false
set_option linter.unusedSimpArgs false

def mask (k : Nat) : UInt8 := UInt8.ofNat (2 ^ (k % 8))
theorem mask_nat (k : Nat) : (mask k).toNat = 2 ^ (k % 8) % 256 := by simp [mask]
theorem mask_ne (k : Nat) : mask k ≠ 0 := by
  have h : ∀ j : Fin 8, UInt8.ofNat (2 ^ j.val) ≠ 0 := by decide
  exact h ⟨k % 8, Nat.mod_lt _ (by omega)⟩
theorem flip_val (y : UInt8) (k : Nat) : bits .xor .u8 (y.toNat : Int) (2 ^ (k % 8) % 256) = ((y ^^^ mask k).toNat : Int) := by
  have hy := y.toNat_lt
  have h2 : (2 : Int) ^ (k % 8) % 256 = ((2 ^ (k % 8) % 256 : Nat) : Int) := by rw [Int.natCast_emod, Int.natCast_pow]; rfl
  have h3 : 2 ^ (k % 8) % 256 < 256 := Nat.mod_lt _ (by omega)
  rw [h2, u8_xor_nat _ _ (by omega) h3, UInt8.toNat_xor, mask_nat]
theorem flip_back (y : UInt8) (k : Nat) : (y ^^^ mask k) ^^^ mask k = y := by rw [UInt8.xor_assoc, UInt8.xor_self, UInt8.xor_zero]
theorem flip_ne (y : UInt8) (k : Nat) : y ^^^ (y ^^^ mask k) ≠ 0 := by rw [← UInt8.xor_assoc, UInt8.xor_self, UInt8.zero_xor]; exact mask_ne k
theorem set_set (l : List UInt8) (j : Nat) (z : UInt8) (h : j < l.length) : (l.set j z).set j (l.getD j 0) = l := by
  rw [List.set_set, getD_eq l j 0 h, List.set_getElem_self]
theorem toNat_ne {n : Nat} {a b : BitVec n} (h : a ≠ b) : ((a.toNat : Int) == (b.toNat : Int)) = false := by
  rw [beq_eq_false_iff_ne]
  intro e
  exact h (BitVec.eq_of_toNat_eq (by omega))

set_option maxRecDepth 100000 in
set_option maxHeartbeats 1000000 in
theorem SumsTell_walk (A : Option Addr) (l : List UInt8) (cap : Nat) (x : Int) (w : World) (hm : l.length ≤ maxLen) (h : RdB w A l) :
    Calls Try.prog 4 #[.slice A l.length cap, .int .i64 x] w fun e w' => e = .returned (.bool true) ∧ Below w.heap.size w w' := by
  unfold maxLen at hm
  have H := Lib.hid h; clear h
  go_enter Try.func4, Try.ntmps4
  go_wp2_with fail
  refine (known_any w).mono ?_
  rintro e w1 ⟨rfl, hb1⟩
  have HB := Lib.hid hb1
  have HR := Lib.hid (H.out.below hb1)
  clear hb1
  by_cases h0 : l.length = 0
  · have h0' : ((l.length : Int) == 0) = true := by rw [beq_iff_eq]; omega
    clear h0
    go_wp2_with fail
    refine (known_any w1).mono ?_
    rintro e w2 ⟨rfl, hb2⟩
    have HB2 := Lib.hid (HB.out.trans (hb2.mono HB.out.size))
    clear hb2
    go_wp2
    go_ret
    exact ⟨rfl, HB2.out⟩
  have h0' : ((l.length : Int) == 0) = false := by rw [beq_eq_false_iff_ne]; omega
  by_cases hl : 5000 < l.length
  · go_wp2_with fail
    refine (known_any w1).mono ?_
    rintro e w2 ⟨rfl, hb2⟩
    have HB2 := Lib.hid (HB.out.trans (hb2.mono HB.out.size))
    clear hb2
    go_wp2
    go_ret
    exact ⟨rfl, HB2.out⟩
  · obtain ⟨k, hq, hk⟩ : ∃ k : Nat, (IntKind.u64.wrap x).tmod (8 * (l.length : Int)) = k ∧ k < 8 * l.length := by
      have h1 : 0 ≤ IntKind.u64.wrap x := by rw [IntKind.wrap_u64]; omega
      have h2 : (IntKind.u64.wrap x).tmod (8 * (l.length : Int)) = (IntKind.u64.wrap x) % (8 * (l.length : Int)) := Int.tmod_eq_emod_of_nonneg h1
      have h3 : 0 ≤ (IntKind.u64.wrap x) % (8 * (l.length : Int)) := Int.emod_nonneg _ (by omega)
      have h4 : (IntKind.u64.wrap x) % (8 * (l.length : Int)) < 8 * (l.length : Int) := Int.emod_lt_of_pos _ (by omega)
      exact ⟨((IntKind.u64.wrap x) % (8 * (l.length : Int))).toNat, by rw [h2]; omega, by omega⟩
    have HR1 := Lib.hid (HR.out.below ((Below.refl w1.heap.size w1).alloc (Nat.le_refl _) (.cells #[] 5)))
    go_wp2_with (at_builtin; refine wpList_appRd (.inl rfl) (.tmp 28) (.tmp 29) rfl w.heap.size _ 0 0 [] rfl rfl (own_empty w1 HB.out.size) A l.length cap l rfl rfl HR1.out (by simp; omega) (by have := HB.out.size; simp; omega) ?_; (intro A2 c2 w2 hown2 hg2 hat2))
    obtain ⟨g, rfl⟩ := OwnR.some_ hown2 (by simp; omega)
    have hgl : w1.heap.size ≤ g := by
      rcases hat2 with e | e <;> simp [blk] at e <;> omega
    have HB2 := Lib.hid (show Below w1.heap.size w1 w2 from ((Below.refl w1.heap.size w1).alloc (Nat.le_refl _) _).grown hg2 (by simp) (fun k hk => by simp [blk] at hk; omega))
    have HO2 := Lib.hid (show OwnB w2 w.heap.size (some ⟨g, 0, none⟩) c2 l from hown2)
    clear hown2 hg2 hat2 HR1
    have c0 := HO2.out.cell_ (k / 8) (by omega)
    have f0 := HO2.out.free_ (k / 8)
    have hb0 := getD_lt l (k / 8)
    generalize hy : l.getD (k / 8) 0 = y at *
    have Hy := Lib.hid hy; clear hy
    have Hq := Lib.hid hq; clear hq
    have d1 : (k : Int) / 8 < (l.length : Int) := by omega
    have d2 : 0 ≤ (k : Int) / 8 := by omega
    go_region
    go_wp2_with fail
    have HV := Lib.hid (flip_val y k)
    rw [flip_val]
    have HJ := Lib.hid (show k / 8 < l.length by omega)
    have Hz := Lib.hid (show l[k / 8]'(HJ.out) ^^^ (y ^^^ mask k) ≠ 0 by rw [← getD_eq l (k / 8) 0 HJ.out, Hy.out]; exact flip_ne y k)
    have HE := Lib.hid (show (l.set (k / 8) (y ^^^ mask k)).set (k / 8) ((y ^^^ mask k) ^^^ mask k) = l by rw [flip_back, ← Hy.out]; exact set_set l _ _ HJ.out)
    generalize y ^^^ mask k = z at *
    have HO3 := Lib.hid (OwnB.drew (HO2.out.set_ (k / 8) z))
    have HB3 := Lib.hid (HB2.out.setCell (p := ⟨g, k / 8, none⟩) hgl (.int .u8 (z.toNat : Int))).drew
    have HR3 := Lib.hid (HR.out.below HB3.out)
    have n8 := toNat_ne (crc8_tell l (k / 8) HJ.out z Hz.out)
    have n16 := toNat_ne (crc16_tell l (k / 8) HJ.out z Hz.out)
    have n32 := toNat_ne (crc32_tell l (k / 8) HJ.out z Hz.out)
    have HM := Lib.hid (show (l.set (k / 8) z).length = l.length by simp)
    clear c0 f0
    generalize (w2.setCell ⟨g, k / 8, none⟩ (.int .u8 (z.toNat : Int))).drew = w3 at *
    have Hc := Lib.hid (show (l.set (k / 8) z).getD (k / 8) 0 = z by rw [getD_eq _ _ _ (by simp; exact HJ.out)]; simp)
    generalize hmm : l.set (k / 8) z = m at *
    have Hmm := Lib.hid hmm; clear hmm
    refine (Crc8_at A l l.length cap _ rfl (by unfold maxLen; omega) HR3.out).mono ?_
    rintro e w' ⟨rfl, rfl⟩
    go_wp2_with fail
    refine (Crc8_at (some ⟨g, 0, none⟩) m l.length c2 _ HM.out.symm (by unfold maxLen; omega) (OwnB.rd HO3.out)).mono ?_
    rintro e w' ⟨rfl, rfl⟩
    go_wp2_with fail
    refine (Crc16_at A l l.length cap _ rfl (by unfold maxLen; omega) HR3.out).mono ?_
    rintro e w' ⟨rfl, rfl⟩
    go_wp2_with fail
    refine (Crc16_at (some ⟨g, 0, none⟩) m l.length c2 _ HM.out.symm (by unfold maxLen; omega) (OwnB.rd HO3.out)).mono ?_
    rintro e w' ⟨rfl, rfl⟩
    go_wp2_with fail
    refine (Crc32_at A l l.length cap _ rfl (by unfold maxLen; omega) HR3.out).mono ?_
    rintro e w' ⟨rfl, rfl⟩
    go_wp2_with fail
    refine (Crc32_at (some ⟨g, 0, none⟩) m l.length c2 _ HM.out.symm (by unfold maxLen; omega) (OwnB.rd HO3.out)).mono ?_
    rintro e w' ⟨rfl, rfl⟩
    go_wp2_with fail
    have c0 := HO3.out.cell_ (k / 8) (by rw [HM.out]; exact HJ.out)
    rw [Hc.out] at c0
    have f0 := HO3.out.free_ (k / 8)
    have hz0 : (z.toNat : Int) < 256 := by have := z.toNat_lt; omega
    clear n8 n16 n32
    go_region
    go_wp2_with fail
    rw [flip_val]
    have HO4 := Lib.hid (OwnB.drew (HO3.out.set_ (k / 8) (z ^^^ mask k)))
    rw [HE.out] at HO4
    have HB4 := Lib.hid ((HB3.out.setCell (p := ⟨g, k / 8, none⟩) hgl (.int .u8 ((z ^^^ mask k).toNat : Int))).drew)
    have HR4 := Lib.hid (HR.out.below HB4.out)
    clear c0 f0
    generalize (w3.setCell ⟨g, k / 8, none⟩ (.int .u8 ((z ^^^ mask k).toNat : Int))).drew = w4 at *
    refine (Crc8_at A l l.length cap _ rfl (by unfold maxLen; omega) HR4.out).mono ?_
    rintro e w' ⟨rfl, rfl⟩
    go_wp2_with fail
    refine (Crc8_at (some ⟨g, 0, none⟩) l l.length c2 _ rfl (by unfold maxLen; omega) (OwnB.rd HO4.out)).mono ?_
    rintro e w' ⟨rfl, rfl⟩
    go_wp2_with fail
    refine (Crc16_at A l l.length cap _ rfl (by unfold maxLen; omega) HR4.out).mono ?_
    rintro e w' ⟨rfl, rfl⟩
    go_wp2_with fail
    refine (Crc16_at (some ⟨g, 0, none⟩) l l.length c2 _ rfl (by unfold maxLen; omega) (OwnB.rd HO4.out)).mono ?_
    rintro e w' ⟨rfl, rfl⟩
    go_wp2_with fail
    refine (Crc32_at A l l.length cap _ rfl (by unfold maxLen; omega) HR4.out).mono ?_
    rintro e w' ⟨rfl, rfl⟩
    go_wp2_with fail
    refine (Crc32_at (some ⟨g, 0, none⟩) l l.length c2 _ rfl (by unfold maxLen; omega) (OwnB.rd HO4.out)).mono ?_
    rintro e w' ⟨rfl, rfl⟩
    go_wp2
    go_ret
    exact ⟨rfl, HB.out.trans (HB4.out.mono HB.out.size)⟩
end Go.Proofs.Ytpjgcceacfdheaa
