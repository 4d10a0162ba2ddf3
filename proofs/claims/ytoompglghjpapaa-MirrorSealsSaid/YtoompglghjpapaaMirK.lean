/-
  Walk: the laws' first question of a mirror: bright.
-/
import Derived.Test.YtoompglghjpapaaMirJ
namespace Go.Proofs.Ytoompglghjpapaa
open Go.RowKit Crc
set_option linter.unusedVariables false
set_option linter.unusedSimpArgs false
attribute [local go_sem ↓] Go.wp_at_zero Go.wp_at_succ

theorem rdm_mark (w : World) (l : List UInt8) (C : Array Value) (fr : Nat × Nat) (h : C.toList = bc l) : RdB (w.alloc (.cells C 5 fr)) (some ⟨w.heap.size, 0, none⟩) l := fun hl => by
  refine ⟨_, rfl, fun k hk => ?_⟩
  have : (⟨w.heap.size, 0, none⟩ : Addr).add k = ⟨w.heap.size, k, none⟩ := by unfold Addr.add; split <;> simp_all
  rw [this, World.cell?_alloc_mark, ← Array.getElem?_toList, h, bc_get l k hk]
theorem conv_abc (w : World) : (convert 37 37 (.slice (some ⟨w.heap.size, 0, none⟩) 3 3)).run Try.prog (w.alloc (.cells #[.int .u8 97, .int .u8 98, .int .u8 99] 5)) = .ok (.slice (some ⟨w.heap.size, 0, none⟩) 3 3) (w.alloc (.cells #[.int .u8 97, .int .u8 98, .int .u8 99] 5 (3, 4))) :=
  Lib.run_convert_bytes_const (P := Try.prog) w 37 5 #[.int .u8 97, .int .u8 98, .int .u8 99] 3 3 Try.underlying37 Try.underlying5
/-- the glass as a walk meets it -/
theorem Mr.glass {w0 w : World} {p G m N : Nat} {as_ : List Nat} {S : St} {F : Nat → Prop} (h : Mr w0 w p G as_ S m F) (hN : as_.length = N) (hN1 : 0 < N) :
    ∃ gx c, w.cell? ⟨G, 0, none⟩ = some (ob p) ∧ w.cell? ⟨G, 1, none⟩ = some (.slice (some ⟨gx, 0, none⟩) N c) ∧ w.cell? ⟨G, 2, none⟩ = some (ob m) ∧ ∀ k, k < N → ∃ d, as_[k]? = some d ∧ w.cell? ⟨gx, k, none⟩ = some (ob d) := by
  obtain ⟨A, c, hg⟩ := h.gl
  obtain ⟨gx, rfl⟩ := OwnR.some_ hg.own (by omega)
  have g0 := hg.gb.cell 0
  have g1 := hg.gb.cell 1
  have g2 := hg.gb.cell 2
  simp at g0 g1 g2
  rw [hN] at g1
  refine ⟨gx, c, g0, g1, g2, fun k hk => ?_⟩
  have hkl : k < as_.length := by omega
  refine ⟨as_[k], List.getElem?_eq_getElem hkl, ?_⟩
  obtain ⟨ad, e, hc⟩ := OwnR.cellAt hg.own k (ob as_[k]) (by simp [hkl])
  cases e
  have e0 : (⟨gx, 0, none⟩ : Addr).add k = ⟨gx, k, none⟩ := by unfold Addr.add; split <;> simp_all
  rw [e0] at hc
  exact hc
set_option maxRecDepth 100000 in
set_option maxHeartbeats 4000000 in
theorem bright_any (w : World) : Calls Try.prog 13 #[] w fun e w' => e = .returned (.bool true) ∧ Below w.heap.size w w' := by
  obtain ⟨X, hX⟩ : ∃ X, crcI abc = X := ⟨_, rfl⟩
  obtain ⟨Y, hY⟩ : ∃ Y, md5T abc = Y := ⟨_, rfl⟩
  have HSV : Hid (sealV 5 abc = .agg #[.int .i64 5, .int .i64 3, .int .i64 X, .string Y]) := Lib.hid (by unfold sealV; rw [hX, hY]; rfl)
  have HW : Hid (whichN br2 5 3 X Y 3 = 1) := Lib.hid (by rw [← hX, ← hY]; exact br_which)
  have HS : Hid (sickN br2 5 3 X Y 3 = [0]) := Lib.hid (by rw [← hX, ← hY]; exact br_sick)
  have HC : Hid ((cureR br2 5 3 X Y 3).1 = 0) := Lib.hid (by rw [← hX, ← hY]; exact br_cure)
  clear hX hY
  go_enter Try.func13, Try.ntmps13
  go_wp2_with fail
  refine (build_any w 3 (by omega) (by omega)).mono ?_
  rintro e w1 ⟨p, G, as_, m, F, rfl, hm, hlen⟩
  obtain ⟨gx1, c1, _, _, g2, _⟩ := hm.glass hlen (by omega)
  have HM1 := Lib.hid hm
  have HLEN := Lib.hid hlen
  have kcv := conv_abc
  have g2a := below_cell ((Below.refl w1.heap.size w1).alloc (Nat.le_refl _) (.cells #[.int .u8 97, .int .u8 98, .int .u8 99] 5)) g2
  clear hm hlen
  go_wp2_with fail
  have hm1b := HM1.out.below ((Below.refl w1.heap.size w1).alloc (Nat.le_refl _) (.cells #[.int .u8 97, .int .u8 98, .int .u8 99] 5 (3, 4)))
  refine (lay_any hm1b HLEN.out (by omega) 5 _ abc 3 3 rfl (by omega) (by omega) (by omega) (rdm_mark w1 abc _ _ rfl) (fun x e => by cases e; exact HM1.out.lw.notin (.inr (Nat.le_refl _)))).mono ?_
  intro e w2 hsp
  unfold MLaySpec at hsp
  rw [br_lay, if_pos rfl, HSV.out] at hsp
  obtain ⟨rfl, F2, hm2, hs2⟩ := hsp
  have HM2 : Hid (Mr w w2 p G as_ br1 m F2) := Lib.hid hm2
  clear hm2 hs2 hm1b g2 g2a HM1 kcv
  have hbx : Below w2.heap.size w2 (w2.alloc (.cells #[.int .i64 5, .int .i64 3, .int .i64 X, .string Y] 28)) := (Below.refl _ _).alloc (Nat.le_refl _) _
  have hm3 := HM2.out.below hbx
  obtain ⟨gx3, c3, _, g1, _, hd⟩ := hm3.glass HLEN.out (by omega)
  obtain ⟨d0, hd0, dc⟩ := hd 0 (by omega)
  have hrot := st_rot hm3.lw.pw hd0 6 1 (by omega)
  unfold StSpec at hrot
  rw [br_rot, show (((1 : UInt8).toNat : Nat) : Int) = 1 from rfl] at hrot
  have HROT := Lib.hid hrot
  have HM3 := Lib.hid hm3
  have hbk := Blk.new w2 28 #[.int .i64 5, .int .i64 3, .int .i64 X, .string Y]
  have HBK : Hid (Blk (w2.alloc (.cells #[.int .i64 5, .int .i64 3, .int .i64 X, .string Y] 28)) w2.heap.size 28 #[.int .i64 5, .int .i64 3, .int .i64 X, .string Y] ∧ ¬ F2 w2.heap.size) := Lib.hid ⟨hbk, HM2.out.lw.notin (.inr (Nat.le_refl _))⟩
  clear hbx hm3 hd hd0 hrot hbk
  go_wp2_with fail
  refine HROT.out.mono ?_
  rintro e w4 ⟨rfl, F4, hp4, hs4⟩
  have HM4 : Hid (Mr w w4 p G as_ br2 m F4) := Lib.hid (HM3.out.step hs4 hp4)
  have HBK4 : Hid (Blk w4 w2.heap.size 28 #[.int .i64 5, .int .i64 3, .int .i64 X, .string Y] ∧ ¬ F4 w2.heap.size) := Lib.hid ⟨HBK.out.1.step hs4 HBK.out.2, step_out hs4 HBK.out.1.lt HBK.out.2⟩
  clear hp4 hs4 HM3 HBK HROT dc g1
  obtain ⟨bx, hbx⟩ : ∃ x, w2.heap.size = x := ⟨_, rfl⟩
  rw [hbx] at HBK4 ⊢
  clear hbx
  obtain ⟨gx4, c4, _, _, g2, _⟩ := HM4.out.glass HLEN.out (by omega)
  have b0 : w4.cell? ⟨bx, 0, none⟩ = some (.int .i64 5) := HBK4.out.1.cell 0
  have b1 : w4.cell? ⟨bx, 1, none⟩ = some (.int .i64 3) := HBK4.out.1.cell 1
  have b2 : w4.cell? ⟨bx, 2, none⟩ = some (.int .i64 X) := HBK4.out.1.cell 2
  have b3 : w4.cell? ⟨bx, 3, none⟩ = some (.string Y) := HBK4.out.1.cell 3
  have HFE : Hid (Calls Try.prog 18 #[ob m, .agg #[.int .i64 5, .int .i64 3, .int .i64 X, .string Y]] w4.drew fun e w' => ∃ A c, e = .returned (.tuple #[.slice A 3 c, .int .i64 1, .int .i64 0]) ∧ Below w4.heap.size w4 w' ∧ RdB w' A abc ∧ ∀ x, A = some x → w4.heap.size ≤ x.block) :=
    Lib.hid ((fetch_any (HM4.out.below ((Below.refl w4.heap.size w4).drew)) HLEN.out (by omega) 5 3 X Y (by omega) (by omega)).mono (by
      rintro e w' ⟨hb, hres⟩
      rw [br_look, HW.out] at hres
      rcases hres with ⟨h, _⟩ | ⟨_, h, _⟩ | ⟨_, i, rfl, _, A, c, rfl, hrd, hfr⟩
      · exact absurd rfl h
      · exact absurd (by omega) h
      · rw [br_c1] at hrd ⊢
        exact ⟨A, c, rfl, (Below.refl w4.heap.size w4).drew.trans hb, hrd, hfr⟩))
  go_upto_region 7 with fail
  go_region_held3 (fun W : World => W.cell? ⟨G, 2, none⟩ = some (ob m) ∧ W.cell? ⟨bx, 0, none⟩ = some (.int .i64 5) ∧ W.cell? ⟨bx, 1, none⟩ = some (.int .i64 3) ∧ W.cell? ⟨bx, 2, none⟩ = some (.int .i64 X) ∧ W.cell? ⟨bx, 3, none⟩ = some (.string Y)) (first | exact ⟨g2, b0, b1, b2, b3⟩ | exact ⟨below_cell HB5.out g2, below_cell HB5.out b0, below_cell HB5.out b1, below_cell HB5.out b2, below_cell HB5.out b3⟩) (first | (go_at_call 18; refine HFE.out.mono ?_; rintro e w5 ⟨A5, c5, rfl, hb5, hrd5, hfr5⟩; have HB5 := Lib.hid hb5; have HR5 := Lib.hid (And.intro hrd5 hfr5)))
  have HM5 := Lib.hid (HM4.out.below HB5.out)
  have hng : ¬ F4 G := by obtain ⟨_, _, hg⟩ := HM4.out.gl; exact hg.ng
  have HNG := Lib.hid hng
  have g25 := below_cell HB5.out g2
  have b05 := below_cell HB5.out b0
  have b15 := below_cell HB5.out b1
  have b25 := below_cell HB5.out b2
  have b35 := below_cell HB5.out b3
  have HNB := Lib.hid HBK4.out.2
  have hrn : ∀ x, A5 = some x → ¬ F4 x.block := fun x hx => HM4.out.lw.notin (.inr (HR5.out.2 x hx))
  have HR6 := Lib.hid (And.intro HR5.out.1 hrn)
  have HCU : Hid (Calls Try.prog 55 #[ob m, .agg #[.int .i64 5, .int .i64 3, .int .i64 X, .string Y]] w5.drew fun e w' => ∃ A c F', e = .returned (.tuple #[.slice A 1 c, .int .i64 0]) ∧ Mr w w' p G as_ (cureR br2 5 3 X Y 3).2 m F' ∧ Step F4 F' w5 w' ∧ RdZ w' A [0]) :=
    Lib.hid ((cure_any (HM5.out.below ((Below.refl w5.heap.size w5).drew)) HLEN.out (by omega) 5 3 X Y (by omega) (by omega)).mono (by
      rintro e w' ⟨v, F', rfl, hm6, hs6, _, hok⟩
      obtain ⟨A, c, rfl, hrz⟩ := hok HC.out
      rw [HC.out, HS.out] at *
      exact ⟨A, c, F', rfl, hm6, (Step.refl F4 w5).drew.trans hs6, hrz⟩))
  clear HM4 HM2 HBK4 HFE HB5 g2 b0 b1 b2 b3 hng hrn HR5
  go_upto_region 8 with fail
  go_region_held3 (fun W : World => W.cell? ⟨G, 2, none⟩ = some (ob m) ∧ W.cell? ⟨bx, 0, none⟩ = some (.int .i64 5) ∧ W.cell? ⟨bx, 1, none⟩ = some (.int .i64 3) ∧ W.cell? ⟨bx, 2, none⟩ = some (.int .i64 X) ∧ W.cell? ⟨bx, 3, none⟩ = some (.string Y)) (first | exact ⟨g25, b05, b15, b25, b35⟩ | exact ⟨step_cell HS6.out g25 HNG.out, step_cell HS6.out b05 HNB.out, step_cell HS6.out b15 HNB.out, step_cell HS6.out b25 HNB.out, step_cell HS6.out b35 HNB.out⟩) (first | (go_at_call 55; refine HCU.out.mono ?_; rintro e w6 ⟨A6, c6, F6, rfl, hm6, hs6, hrz6⟩; have HS6 := Lib.hid hs6; have HM6 := Lib.hid hm6; have HZ6 := Lib.hid hrz6))
  have hst : (convert 37 9 (.slice A5 3 c5)).run Try.prog w6 = .ok (.string ⟨#[97, 98, 99]⟩) w6 := run_str c5 (w := w6) (l := abc) (HR6.out.1.step HS6.out HR6.out.2) rfl
  go_wp2_with fail
  refine (ints_any A6 _ [0] [0] c6 1 _ (HZ6.out.below ((Below.refl _ _).alloc (Nat.le_refl _) _)) (rdz_lit w6 [0] rfl) (by unfold maxLen; simp) (by unfold maxLen; simp)).mono ?_
  rintro e w7 ⟨rfl, q7, hq7⟩
  have HEND : Hid (Below w.heap.size w w7) := Lib.hid (by
    rw [hq7]
    exact below_drewN (HM6.out.lw.be.alloc HM6.out.lw.be.size _) _)
  rw [show decide (([0] : List Int) = [0]) = true by decide]
  clear hq7
  go_wp2_with fail
  go_ret
  exact ⟨rfl, HEND.out⟩
end Go.Proofs.Ytoompglghjpapaa
