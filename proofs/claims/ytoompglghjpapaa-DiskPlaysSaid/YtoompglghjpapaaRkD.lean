/-
  Walks of the reference's disks: DocRot.
-/
import Derived.Test.YtoompglghjpapaaRkC
import Derived.Test.YtoompglghjpapaaLaw1A
import Derived.BigRegion
namespace Go.Proofs.Ytoompglghjpapaa
open Go.RowKit
set_option linter.unusedVariables false
set_option linter.unusedSimpArgs false
attribute [local go_sem ↓] Go.wp_at_zero Go.wp_at_succ

theorem xorAt_parts (l : List UInt8) (o : Nat) (m : UInt8) (h : o < l.length) : xorAt l o m = l.take o ++ [l.getD o 0 ^^^ m] ++ l.drop (o + 1) := by
  unfold xorAt
  rw [List.set_eq_take_append_cons_drop, if_pos h]
  simp
theorem index_bs (W : World) (b : List UInt8) (i : Int) (k : Nat) (hi : i = k) (hb : k < b.length) :
    (Instr.index 9 (.string (bs b)) (.int .i64 i)).run Try.prog W = .ok (.int .u8 ((b.getD k 0).toNat : Int)) W := by
  subst hi
  have hsz := bs_size b
  rw [run_index_string W 9 (bs b) .i64 (k : Int) Try.underlying9, dif_pos ⟨by omega, by omega⟩]
  simp [bs, List.getD, hb]
  rfl
set_option maxRecDepth 100000 in
set_option maxHeartbeats 1000000 in
theorem rrot_at {p d nb : Nat} {D : Dk} {sl : Value} {off : Bool} {arm : Int} (o : Int) (m : UInt8) (w : World) (h : RkAt w p d D nb) (hp : QwSelf w p sl off arm) (hn : ¬ rkF d nb p) (ho : -9223372036854775808 ≤ o ∧ o ≤ 9223372036854775807) :
    Calls Try.prog 42 #[ob d, .int .i64 o, .int .u8 (m.toNat : Int)] w fun e w' => RtSpec p d nb sl (rotE D off o) off arm (rotD D off o m) w e w' := by
  have hlim : D.size ≤ 2097152 := by have := h.size; have := h.lim; omega
  have HI := Lib.hid (rin_any d D.size (ob p) _ _ (bs D.rd) o 1 w h.self (by rw [bs_size]; rfl) hlim ho (by omega))
  have c0 := h.self.cell 0
  have c1 := h.self.cell 1
  have c2 := h.self.cell 2
  have f1 := h.self.frozen 1
  have f2 := h.self.frozen 2
  have hpb : Blk w p _ _ := hp
  have p1 := hpb.cell 1
  simp at c0 c1 c2 p1
  have HH := Lib.hid h
  have HP := Lib.hid hp
  have HN := Lib.hid hn
  have HL : Hid (D.rd.length = D.size) := Lib.hid rfl
  clear h hp hn hpb
  by_cases hin : inB D.size o 1 = true
  · rw [hin] at HI
    have hin' := hin
    simp only [inB, decide_eq_true_eq] at hin'
    obtain ⟨o, rfl⟩ := Int.eq_ofNat_of_zero_le hin'.1
    have hlt : o < D.size := by omega
    cases off
    · have HE : Hid (rotE D false o = 0) := Lib.hid (by simp [rotE, hin])
      have HR : Hid (rotD D false o m = D.rot o m) := Lib.hid (by simp [rotD, HE.out])
      have HLA : Hid (D.la.length = D.size) := Lib.hid (by rw [HH.out.ok.la, HH.out.size])
      clear hin hin'
      obtain ⟨q, hq⟩ : ∃ q, o + 1 = q := ⟨_, rfl⟩
      have hs1 := fun W => slice_bsh W D.rd (o : Int) o rfl (by rw [HL.out]; omega)
      have hs2 := fun W => slice_bsl W D.rd (q : Int) q rfl (by rw [HL.out]; omega)
      have ht1 := fun W => slice_bsh W D.la (o : Int) o rfl (by rw [HLA.out]; omega)
      have ht2 := fun W => slice_bsl W D.la (q : Int) q rfl (by rw [HLA.out]; omega)
      have hon : IntKind.i64.wrap ((o : Int) + 1) = (q : Int) := by rw [IntWalk.i64_in _ (by omega)]; omega
      go_enter Try.func42, Try.ntmps42
      go_wp2_with fail
      refine HI.out.mono ?_
      rintro e w1 ⟨rfl, rfl⟩
      go_upto_region 5 with fail
      obtain ⟨R, hR⟩ : ∃ R, bs D.rd = R := ⟨_, rfl⟩
      obtain ⟨L, hL⟩ : ∃ R, bs D.la = R := ⟨_, rfl⟩
      rw [hR] at hs1 hs2 c1
      rw [hL] at ht1 ht2 c2
      obtain ⟨X1, hX1⟩ : ∃ X, bs (D.rd.take o) = X := ⟨_, rfl⟩
      obtain ⟨X2, hX2⟩ : ∃ X, bs (D.rd.drop q) = X := ⟨_, rfl⟩
      rw [hX1] at hs1
      rw [hX2] at hs2
      have hix := fun W : World => index_bs W D.rd (o : Int) o rfl (by rw [HL.out]; exact hlt)
      rw [hR] at hix
      obtain ⟨x, hx⟩ : ∃ x, D.rd.getD o 0 = x := ⟨_, rfl⟩
      rw [hx] at hix
      have hcv : (convert 37 9 (.slice (some ⟨w.heap.size, 0, none⟩) 1 1)).run Try.prog (w.alloc (.cells #[.int .u8 (bits .xor .u8 (x.toNat : Int) (m.toNat : Int))] 5)).drew = .ok (.string (bs [x ^^^ m])) (w.alloc (.cells #[.int .u8 (bits .xor .u8 (x.toNat : Int) (m.toNat : Int))] 5)).drew := by
        have h0 := run_str (w := w.drew.alloc (.cells #[.int .u8 ((x ^^^ m).toNat : Int)] 5)) (l := [x ^^^ m]) (n := 1) 1 (rd_lit w.drew [x ^^^ m] rfl) rfl
        rw [← u8xor] at h0
        exact h0
      obtain ⟨Y, hY⟩ : ∃ Y, bs [x ^^^ m] = Y := ⟨_, rfl⟩
      obtain ⟨X3, hX3⟩ : ∃ X, X1 ++ Y = X := ⟨_, rfl⟩
      rw [hY] at hcv
      have z1 : X1.size = o := by rw [← hX1, bs_size, List.length_take, HL.out]; omega
      have z2 : X2.size = D.size - q := by rw [← hX2, bs_size, List.length_drop, HL.out]
      have z0 : Y.size = 1 := by rw [← hY, bs_size]; rfl
      have z3 : X3.size = q := by rw [← hX3, ByteArray.size_append, z1, z0]; exact hq
      have k1 : ¬ 9223372036854775807 < X1.size + Y.size := by omega
      have k2 : ¬ 9223372036854775807 < X3.size + X2.size := by omega
      clear z1 z2 z0 z3
      have c1a : (w.alloc (.cells #[.int .u8 (bits .xor .u8 (x.toNat : Int) (m.toNat : Int))] 5)).drew.cell? ⟨d, 1, none⟩ = some (.string R) := below_cell ((Below.refl _ _).alloc (Nat.le_refl _) _).drew c1
      have f1a : (w.alloc (.cells #[.int .u8 (bits .xor .u8 (x.toNat : Int) (m.toNat : Int))] 5)).drew.frozen? ⟨d, 1, none⟩ = false := (HH.out.self.alloc _).frozen 1
      go_region
      have HX : Hid (X3 ++ X2 = bs (xorAt D.rd o m)) := Lib.hid (by
        rw [xorAt_parts D.rd o m (by rw [HL.out]; exact hlt), hx, hq, ← bs_cat, ← bs_cat, hX1, hY, hX2, hX3])
      rw [HX.out]
      clear hs1 hs2 hix hcv c1a f1a k1 k2 hX3 hX1 hX2 hY hx
      have hpd : p ≠ d := fun e => HN.out (.inl e)
      have hpn : p ≠ nb := fun e => HN.out (.inr e)
      have hdn : nb ≠ d := Ne.symm (Blk.ne_ HH.out.self HH.out.bits (by decide))
      have hq1 : Blk w p 81 _ := HP.out
      have HA : Hid (Blk (((w.alloc (.cells #[.int .u8 (bits .xor .u8 (x.toNat : Int) (m.toNat : Int))] 5)).setCell ⟨d, 1, none⟩ (.string (bs (xorAt D.rd o m)))).drew) d 84 #[ob p, .string (bs (xorAt D.rd o m)), .string L, .slice (some ⟨nb, 0, none⟩) D.nw.length D.nw.length] ∧
          Blk (((w.alloc (.cells #[.int .u8 (bits .xor .u8 (x.toNat : Int) (m.toNat : Int))] 5)).setCell ⟨d, 1, none⟩ (.string (bs (xorAt D.rd o m)))).drew) nb 4 (boolsL D.nw) ∧
          QwSelf (((w.alloc (.cells #[.int .u8 (bits .xor .u8 (x.toNat : Int) (m.toNat : Int))] 5)).setCell ⟨d, 1, none⟩ (.string (bs (xorAt D.rd o m)))).drew) p sl false arm ∧
          Step (Un (one p) (rkF d nb)) (Un (one p) (rkF d nb)) w (((w.alloc (.cells #[.int .u8 (bits .xor .u8 (x.toNat : Int) (m.toNat : Int))] 5)).setCell ⟨d, 1, none⟩ (.string (bs (xorAt D.rd o m)))).drew)) := Lib.hid (by
        have b1 := (HH.out.self.alloc (.cells #[.int .u8 (bits .xor .u8 (x.toNat : Int) (m.toNat : Int))] 5)).set_ 1 (.string (bs (xorAt D.rd o m)))
        rw [← hL]
        exact ⟨by simpa using b1.drew, (HH.out.bits.alloc _).far (p := ⟨d, 1, none⟩) hdn _, (hq1.alloc _).far (p := ⟨d, 1, none⟩) hpd _, (((Step.refl (Un (one p) (rkF d nb)) w).alloc' _).setCell (a := ⟨d, 1, none⟩) (.inl (.inr (.inl rfl))) _).drew⟩)
      obtain ⟨wA, hwA⟩ : ∃ wA, ((w.alloc (.cells #[.int .u8 (bits .xor .u8 (x.toNat : Int) (m.toNat : Int))] 5)).setCell ⟨d, 1, none⟩ (.string (bs (xorAt D.rd o m)))).drew = wA := ⟨_, rfl⟩
      rw [hwA] at HA ⊢
      clear hwA c1 c2 f1 f2 hq1 c0 p1 hR
      have c2 := HA.out.1.cell 2
      have f2 := HA.out.1.frozen 2
      simp at c2
      obtain ⟨X1', hX1'⟩ : ∃ X, bs (D.la.take o) = X := ⟨_, rfl⟩
      obtain ⟨X2', hX2'⟩ : ∃ X, bs (D.la.drop q) = X := ⟨_, rfl⟩
      rw [hX1'] at ht1
      rw [hX2'] at ht2
      have hix := fun W : World => index_bs W D.la (o : Int) o rfl (by rw [HLA.out]; exact hlt)
      rw [hL] at hix
      obtain ⟨y, hy⟩ : ∃ y, D.la.getD o 0 = y := ⟨_, rfl⟩
      rw [hy] at hix
      have hcv : (convert 37 9 (.slice (some ⟨wA.heap.size, 0, none⟩) 1 1)).run Try.prog (wA.alloc (.cells #[.int .u8 (bits .xor .u8 (y.toNat : Int) (m.toNat : Int))] 5)).drew = .ok (.string (bs [y ^^^ m])) (wA.alloc (.cells #[.int .u8 (bits .xor .u8 (y.toNat : Int) (m.toNat : Int))] 5)).drew := by
        have h0 := run_str (w := wA.drew.alloc (.cells #[.int .u8 ((y ^^^ m).toNat : Int)] 5)) (l := [y ^^^ m]) (n := 1) 1 (rd_lit wA.drew [y ^^^ m] rfl) rfl
        rw [← u8xor] at h0
        exact h0
      obtain ⟨Y', hY'⟩ : ∃ Y, bs [y ^^^ m] = Y := ⟨_, rfl⟩
      obtain ⟨X3', hX3'⟩ : ∃ X, X1' ++ Y' = X := ⟨_, rfl⟩
      rw [hY'] at hcv
      have z1 : X1'.size = o := by rw [← hX1', bs_size, List.length_take, HLA.out]; omega
      have z2 : X2'.size = D.size - q := by rw [← hX2', bs_size, List.length_drop, HLA.out]
      have z0 : Y'.size = 1 := by rw [← hY', bs_size]; rfl
      have z3 : X3'.size = q := by rw [← hX3', ByteArray.size_append, z1, z0]; exact hq
      have k1 : ¬ 9223372036854775807 < X1'.size + Y'.size := by omega
      have k2 : ¬ 9223372036854775807 < X3'.size + X2'.size := by omega
      clear z1 z2 z0 z3
      have c2a : (wA.alloc (.cells #[.int .u8 (bits .xor .u8 (y.toNat : Int) (m.toNat : Int))] 5)).drew.cell? ⟨d, 2, none⟩ = some (.string L) := below_cell ((Below.refl _ _).alloc (Nat.le_refl _) _).drew c2
      have f2a : (wA.alloc (.cells #[.int .u8 (bits .xor .u8 (y.toNat : Int) (m.toNat : Int))] 5)).drew.frozen? ⟨d, 2, none⟩ = false := (HA.out.1.alloc _).frozen 2
      go_upto_region 6 with fail
      go_region
      have HX' : Hid (X3' ++ X2' = bs (xorAt D.la o m)) := Lib.hid (by
        rw [xorAt_parts D.la o m (by rw [HLA.out]; exact hlt), hy, hq, ← bs_cat, ← bs_cat, hX1', hY', hX2', hX3'])
      rw [HX'.out]
      clear ht1 ht2 hix hcv c2a f2a k1 k2 hX3' hX1' hX2' hY' hy
      go_wp2_with fail
      go_ret
      rw [HE.out, HR.out]
      obtain ⟨g1, g2, g3, g4⟩ := HA.out
      have g3' : Blk wA p 81 _ := g3
      have b1 := (g1.alloc (.cells #[.int .u8 (bits .xor .u8 (y.toNat : Int) (m.toNat : Int))] 5)).set_ 2 (.string (bs (xorAt D.la o m)))
      refine ⟨rfl, (g3'.alloc _).far (p := ⟨d, 2, none⟩) hpd _, nb, ⟨rot_ok HH.out.ok o m, HH.out.pos, HH.out.lim, ?_, (g2.alloc _).far (p := ⟨d, 2, none⟩) hdn _⟩, ((g4.alloc' _).setCell (a := ⟨d, 2, none⟩) (.inl (.inr (.inl rfl))) _).drew⟩
      show Blk _ _ _ #[ob p, .string (bs (xorAt D.rd o m)), .string (bs (xorAt D.la o m)), .slice (some ⟨nb, 0, none⟩) D.nw.length D.nw.length]
      simpa using b1.drew
    · have HE : Hid (rotE D true o = 4) := Lib.hid (by simp [rotE, hin])
      have HR : Hid (rotD D true o m = D) := Lib.hid (by simp [rotD, HE.out])
      clear hin hin'
      go_enter Try.func42, Try.ntmps42
      go_wp2_with fail
      refine HI.out.mono ?_
      rintro e w1 ⟨rfl, rfl⟩
      go_wp2_with fail
      go_ret
      rw [HE.out, HR.out]
      exact ⟨rfl, HP.out, nb, HH.out, Step.refl _ _⟩
  · have hin' : inB D.size o 1 = false := by simpa using hin
    rw [hin'] at HI
    have HE : Hid (rotE D off o = 1) := Lib.hid (by simp [rotE, hin'])
    have HR : Hid (rotD D off o m = D) := Lib.hid (by simp [rotD, HE.out])
    clear hin hin'
    go_enter Try.func42, Try.ntmps42
    go_wp2_with fail
    refine HI.out.mono ?_
    rintro e w1 ⟨rfl, rfl⟩
    go_wp2_with fail
    go_ret
    rw [HE.out, HR.out]
    exact ⟨rfl, HP.out, nb, HH.out, Step.refl _ _⟩
end Go.Proofs.Ytoompglghjpapaa
