/-
  Walk: bytes.Equal, trim of package journal.
-/
import Derived.Test.YtjmhfjioccljeaaJrI
namespace Go.Proofs.Ytjmhfjioccljeaa
open Go.RowKit
set_option linter.unusedVariables false
set_option linter.unusedSimpArgs false
attribute [local go_sem ↓] Go.wp_at_zero Go.wp_at_succ

theorem RdB.empty (w : World) (A : Option Addr) {l : List UInt8} (h : l.length = 0) : RdB w A l := fun hl => by omega
theorem putAt_zero {M : Nat} {s : List UInt8} (h : 128 ≤ M) (hs : s.length = 128) : putAt (zeroB M) 0 s = s ++ zeroB (M - 128) := by
  unfold putAt zeroB
  rw [List.take_zero, List.nil_append, hs, List.drop_replicate, Nat.zero_add]
theorem bequal_any (w : World) (A B : Option Addr) (a b : List UInt8) (n m c c' : Nat) (hn : n = a.length) (hm : m = b.length) (hA : RdB w A a) (hB : RdB w B b) :
    Calls Try.prog 105 #[.slice A n c, .slice B m c'] w fun e w' => e = .returned (.bool (decide (a = b))) ∧ w = w' := by
  have h1 : (convert 37 9 (.slice A n c)).run Try.prog w = .ok (.string (bs a)) w := run_str c hA hn
  have h2 : (convert 37 9 (.slice B m c')).run Try.prog w = .ok (.string (bs b)) w := run_str c' hB hm
  rw [← bs_beq]
  generalize bs a = x at *
  generalize bs b = y at *
  clear hA hB hn hm
  go_enter Try.func105, Try.ntmps105
  go_wp2_with fail
  go_ret
  exact ⟨rfl, rfl⟩
theorem area_at {w : World} {j first sectors g : Nat} (h1 : w.cell? ⟨j, 1, none⟩ = some (.int .i64 (first : Int))) (h2 : w.cell? ⟨j, 2, none⟩ = some (.int .i64 (sectors : Int))) (hf : first ≤ 2097152) (hs : sectors ≤ 2000) (hg : g ≤ 8796093022210) (a : Nat) (ha : areaN first sectors g = a) :
    Calls Try.prog 68 #[ob j, .int .i64 (g : Int)] w fun e w' => e = .returned (.int .i64 (a : Nat)) ∧ Below w.heap.size w w' := by
  subst ha
  exact jarea_any w j first sectors g h1 h2 hf hs hg
theorem rdb_blk0 {w : World} {g : Nat} {l : List UInt8} (h : Blk w g 5 (bc l).toArray) : RdB w (some ⟨g, 0, none⟩) l := rd_blk h 0
section
variable {w w' : World} {p k d j : Nat} {as_ : List Nat} {S : St} {J : Js} {F G : Nat → Prop}
set_option maxRecDepth 100000 in
set_option maxHeartbeats 4000000 in
theorem jtrim_any (h : PwS w p as_ S F) (hk : as_[k]? = some d) (hj : JrR w j d J G) (hO : J.Ok (S.at_ k).size) (hd : Dis F G) (gr cr L : Nat) (raw : List UInt8) (hL : J.sectors * 128 = L) (hr : RdB w (some ⟨gr, 0, none⟩) raw) (hrl : raw.length = L) (hcr : L ≤ cr) :
    Calls Try.prog 75 #[ob j, .slice (some ⟨gr, 0, none⟩) L cr] w fun e w' => StSpec p as_ F (trimF S k J.first J.sectors J.gen J.stream raw) w e w' := by
  obtain ⟨A, c, B, cB, hj, rfl⟩ := hj
  obtain ⟨c0, c1, c2, c3, c4, c5, c6⟩ := hj.cells
  have hsec := hO.secM
  have hsec2 := hO.sec2
  have hfill := hO.fill
  have hpl := hO.place
  have hsz := hO.size
  have hgen := hO.genM
  have hfirst : J.first ≤ 2097152 := by omega
  have HO := Lib.hid hO
  have HK := Lib.hid hk
  have HJ := Lib.hid hj
  have HP := Lib.hid h
  have HR := Lib.hid hr
  have HRL := Lib.hid hrl
  have HLS := Lib.hid hL
  have HNF : Hid (¬ F j) := Lib.hid (fun hf => hd j hf (.inl rfl))
  obtain ⟨sl, hsl⟩ : ∃ sl, J.stream.length = sl := ⟨_, rfl⟩
  obtain ⟨fr, hfr⟩ : ∃ fr, sl / 119 = fr := ⟨_, rfl⟩
  obtain ⟨M, hM⟩ : ∃ M, (J.sectors - fr) * 128 = M := ⟨_, rfl⟩
  have hfrs : fr ≤ J.sectors := by omega
  have hMi : ((J.sectors : Int) - (fr : Int)) * 128 = (M : Int) := by omega
  have hMl : M ≤ 512000 := by omega
  have hML : M + fr * 128 = L := by omega
  have hfri : (sl : Int) / 119 = (fr : Int) := by omega
  have hmk := run_makeB M (by omega)
  have hsl3 : sl ≤ 238000 := by omega
  rw [hsl] at c4
  have HSL := Lib.hid hsl
  have HFR := Lib.hid hfr
  have HM := Lib.hid hM
  have hcap : sl ≤ c := by rw [← hsl]; exact hj.cap
  obtain ⟨st, hst⟩ : ∃ st, J.stream = st := ⟨_, rfl⟩
  obtain ⟨tw, htw⟩ : ∃ tw, trimW J.sectors J.gen st = tw := ⟨_, rfl⟩
  obtain ⟨rt, hrt⟩ : ∃ rt, raw.drop (fr * 128) = rt := ⟨_, rfl⟩
  obtain ⟨at_, hat⟩ : ∃ a, areaN J.first J.sectors J.gen = a := ⟨_, rfl⟩
  have hat2 : at_ ≤ 2097152 := by rw [← hat]; exact Nat.le_trans (areaN_le hpl) hsz
  have hstl : st.length = sl := by rw [← hst]; exact hsl
  have HTF : Hid (trimF S k J.first J.sectors J.gen J.stream raw = if rt = tw then (0, S) else if (S.write k ((at_ + fr * 128 : Nat) : Int) tw).1 ≠ 0 then S.write k ((at_ + fr * 128 : Nat) : Int) tw else (S.write k ((at_ + fr * 128 : Nat) : Int) tw).2.sync k) := Lib.hid (by
    unfold trimF
    rw [hst, hstl, hfr, hrt, htw, hat])
  have HTWL : Hid (tw.length = M) := Lib.hid (by
    rw [← htw]
    have := trimW_len (m := J.sectors) (g := J.gen) (st := st) (by omega) (by omega)
    rw [this, hstl, hfr]; omega)
  have HTW : Hid (tw = if st.length % 119 ≠ 0 ∨ st.length = 0 then secL J.gen fr st ++ zeroB (M - 128) else zeroB M) := Lib.hid (by
    rw [← htw]
    unfold trimW
    rw [hstl, hfr, hM]
    split
    · rw [show (J.sectors - fr - 1) * 128 = M - 128 by omega]
    · rfl)
  have HAT := Lib.hid hat
  have HSTL := Lib.hid hstl
  have HRTL : Hid (rt.length = M) := Lib.hid (by rw [← hrt, List.length_drop, hrl]; omega)
  have HRT : Hid (∀ W, Below w.heap.size w W → RdB W (some ⟨gr, fr * 128, none⟩) rt) := Lib.hid (fun W hW => by rw [← hrt]; exact rd_at (hr.below hW))
  have hrst : RdB w A st := by rw [← hst]; exact hj.st
  have HRS := Lib.hid hrst
  obtain ⟨R, hR⟩ : ∃ R, trimF S k J.first J.sectors J.gen J.stream raw = R := ⟨_, rfl⟩
  rw [hR] at HTF ⊢
  have HRM : Hid (J.sectors * 128 = L) := HLS
  have hfr119 : fr * 119 ≤ sl ∧ sl < fr * 119 + 119 := by omega
  have hne0 : M = 0 → sl = J.sectors * 119 := fun e => by omega
  have HNE := Lib.hid hne0
  clear hR hO hk hj h hr hrl hL hd hsl hfr hM htw hat hstl hrt hrst hfill hst hne0
  go_enter Try.func75, Try.ntmps75
  by_cases hq : sl % 119 = 0
  · have hqi : (sl : Int) % 119 = 0 := by omega
    by_cases h0 : sl = 0
    · have h0t : ((sl : Int) == 0) = true := by rw [beq_iff_eq]; omega
      have HPQ : Hid (sl % 119 ≠ 0 ∨ sl = 0) := Lib.hid (.inr h0)
      clear h0 hq
      have hM128 : 128 ≤ M := by have h1 := HO.out.fill; rw [HSL.out] at h1; have h2 := HM.out; have h3 := HPQ.out; omega
      have hce : ¬ (cr = fr * 128) := by omega
      have htw2 : tw = secL J.gen fr st ++ zeroB (M - 128) := by rw [HTW.out, HSTL.out, if_pos HPQ.out]
      have HTW2 := Lib.hid htw2
      have HSE : Hid (∀ W, Below w.heap.size w W → Calls Try.prog 69 #[.int .i64 (J.gen : Int), .int .i64 (fr : Int), .slice A sl c] W fun e w' => ∃ A' c', e = .returned (.slice A' 128 c') ∧ RdB w' A' (secL J.gen fr st) ∧ Below W.heap.size W w' ∧ Below w.heap.size w w') := Lib.hid (fun W hW => by
        refine (jsector_any W J.gen fr A c st sl HSTL.out (by omega) hcap hgen (by omega) (HRS.out.below hW)).mono ?_
        rintro e w' ⟨A', c', rfl, hown, hb⟩
        exact ⟨A', c', rfl, hown.rd, hb, hW.trans (hb.mono hW.size)⟩)
      have hM2 : 128 ≤ (M : Int) := by omega
      clear htw2
      go_wp2_with fail
      obtain ⟨w1, hw1⟩ : ∃ w1, w1 = w.alloc (.cells (madeCells #[.int .u8 0] M) 5) := ⟨_, rfl⟩
      have hb01 : Below w.heap.size w w1 := by rw [hw1]; exact (Below.refl _ _).alloc (Nat.le_refl _) _
      have hbk1 : Blk w1 w.heap.size 5 (bc (zeroB M)).toArray := by rw [hw1]; exact made_blk w M
      rw [← hw1]
      have HB01 := Lib.hid hb01
      have HBK1 := Lib.hid hbk1
      have e3 := below_cell hb01 c3
      have e4 := below_cell hb01 c4
      clear hw1 hb01 hbk1
      go_region_held3 (fun W : World => W.cell? ⟨j, 3, none⟩ = some (.int .i64 (J.gen : Int)) ∧ W.cell? ⟨j, 4, none⟩ = some (.slice A sl c)) (first | exact ⟨e3, e4⟩ | exact ⟨below_cell hbS c3, below_cell hbS c4⟩ | exact ⟨below_cell hbC c3, below_cell hbC c4⟩) (first | (go_at_call 69; refine (HSE.out _ HB01.out.drew).mono ?_; rintro e wS ⟨A', c', rfl, hrS, hbS0, hbS⟩; obtain ⟨wc, hrun, hbkc, hgc⟩ := run_copyB (w := wS) 3 M M 128 c' w.heap.size 0 (zeroB M) (secL J.gen fr st) (HBK1.out.below_ (below_drew_trans hbS0)) (by rw [secL_length]; exact (Nat.min_eq_left hM128).symm) (by rw [secL_length]; decide) hrS (by rw [secL_length, zeroB_length]; omega); have hbC : Below w.heap.size w wc := hbS.grown hgc hbS.size (fun q hq => by injection hq with hq; omega)))
      have HBW := Lib.hid hbC
      have HWT : Hid (RdB wc (some ⟨w.heap.size, 0, none⟩) tw) := Lib.hid (by rw [HTW2.out, ← putAt_zero hM128 (secL_length _ _ _)]; exact rdb_blk0 hbkc)
      clear hrun hbkc hgc hbC hrS hbS0 hbS e3 e4
      go_wp2_with fail
      refine (bequal_any _ _ _ rt tw (L - fr * 128) M _ _ (by rw [HRTL.out]; omega) HTWL.out.symm (HRT.out _ HBW.out) HWT.out).mono ?_
      rintro e _ ⟨rfl, rfl⟩
      by_cases heq : rt = tw
      · have hR2 : R = (0, S) := by rw [HTF.out, if_pos heq]
        have HR2 := Lib.hid hR2
        have hdt : decide (rt = tw) = true := decide_eq_true heq
        clear heq hR2
        rw [hdt]
        go_wp2_with fail
        go_returns
        rw [HR2.out]
        exact ⟨rfl, F, HP.out.below HBW.out, Step.of_below HBW.out F⟩
      · have hR2 : R = if (S.write k ((at_ + fr * 128 : Nat) : Int) tw).1 ≠ 0 then S.write k ((at_ + fr * 128 : Nat) : Int) tw else (S.write k ((at_ + fr * 128 : Nat) : Int) tw).2.sync k := by rw [HTF.out, if_neg heq]
        obtain ⟨E, hE⟩ : ∃ E, (S.write k ((at_ + fr * 128 : Nat) : Int) tw).1 = E := ⟨_, rfl⟩
        obtain ⟨T2, hT2⟩ : ∃ T2, (S.write k ((at_ + fr * 128 : Nat) : Int) tw).2 = T2 := ⟨_, rfl⟩
        have HR2 : Hid (R = if E ≠ 0 then (E, T2) else T2.sync k) := Lib.hid (by
          rw [hR2, hE, hT2]
          split
          · rw [← hE, ← hT2]
          · rfl)
        have hdt : decide (rt = tw) = false := decide_eq_false heq
        have HAR2 : Hid (∀ W, Below wc.heap.size wc W → Calls Try.prog 68 #[ob j, .int .i64 (J.gen : Int)] W fun e w' => e = .returned (.int .i64 (at_ : Nat)) ∧ Below w.heap.size w w' ∧ Below wc.heap.size wc w') := Lib.hid (fun W hW => by
          have hbw := HBW.out.trans (hW.mono HBW.out.size)
          refine (area_at (below_cell hbw c1) (below_cell hbw c2) hfirst hsec (by omega) at_ HAT.out).mono ?_
          rintro e w' ⟨rfl, hb⟩
          exact ⟨rfl, hbw.trans (hb.mono hbw.size), hW.trans (hb.mono hW.size)⟩)
        have HWR : Hid (∀ W, Below wc.heap.size wc W → Calls Try.prog 67 #[ob d, .int .i64 ((at_ : Int) + (fr : Int) * 128), .slice (some ⟨w.heap.size, 0, none⟩) M M] W fun e w' => e = .returned (.int .i64 E) ∧ ∃ F4, PwS w' p as_ T2 F4 ∧ Step F F4 w w') := Lib.hid (fun W hW => by
          have hbw := HBW.out.trans (hW.mono HBW.out.size)
          have := st_writeN (HP.out.below hbw) HK.out ((at_ : Int) + (fr : Int) * 128) (some ⟨w.heap.size, 0, none⟩) tw M M HTWL.out (by omega) (by unfold maxLen; omega) (HWT.out.below hW) (fun ad e => by cases e; exact HP.out.notin (Nat.le_refl _))
          refine this.mono ?_
          rintro e w' ⟨rfl, F4, hp4, hst4⟩
          rw [show (at_ : Int) + (fr : Int) * 128 = ((at_ + fr * 128 : Nat) : Int) by omega, hE]
          rw [show (at_ : Int) + (fr : Int) * 128 = ((at_ + fr * 128 : Nat) : Int) by omega, hT2] at hp4
          exact ⟨rfl, F4, hp4, (Step.of_below hbw F).trans hst4⟩)
        have e0 := below_cell HBW.out c0
        have e3 := below_cell HBW.out c3
        clear heq hR2 hE hT2
        rw [hdt]
        go_wp2_with fail
        have hm1 : IntKind.i64.wrap ((fr : Int) * 128) = (fr : Int) * 128 := by rw [IntKind.wrap_i64]; omega
        have hm2 : IntKind.i64.wrap ((at_ : Int) + (fr : Int) * 128) = (at_ : Int) + (fr : Int) * 128 := by rw [IntKind.wrap_i64]; omega
        go_region_held3 (fun W : World => W.cell? ⟨j, 0, none⟩ = some (ob d) ∧ W.cell? ⟨j, 3, none⟩ = some (.int .i64 (J.gen : Int))) (first | exact ⟨e0, e3⟩ | exact ⟨below_cell hbA c0, below_cell hbA c3⟩ | exact ⟨step_cell hst4 c0 HNF.out, step_cell hst4 c3 HNF.out⟩) (first | (go_at_call 68; refine (HAR2.out _ (Below.refl _ _).drew).mono ?_; rintro e wA ⟨rfl, hbA, hbA2⟩) | (go_at_call 67; refine (HWR.out _ hbA2).mono ?_; rintro e w4 ⟨rfl, F4, hp4, hst4⟩))
        clear hm1 hm2
        have HP4 := Lib.hid hp4
        have HS4 := Lib.hid hst4
        have g0 := step_cell hst4 c0 HNF.out
        have HSY : Hid (Calls Try.prog 70 #[ob d] w4 fun e w' => StSpec p as_ F4 (T2.sync k) w4 e w') := Lib.hid (st_sync hp4 HK.out)
        clear hp4 hst4 e0 e3 hbA hbA2 c0 c1 c2 c3 c4 c5 c6
        by_cases hz : E = 0
        · subst hz
          obtain ⟨Q, hQ⟩ : ∃ Q, T2.sync k = Q := ⟨_, rfl⟩
          have hR3 : R = Q := by rw [HR2.out, ← hQ]; simp
          rw [hQ] at HSY
          have HR3 := Lib.hid hR3
          clear hQ hR3
          go_wp2_with fail
          refine HSY.out.mono ?_
          rintro e w5 ⟨rfl, F5, hp5, hst5⟩
          go_wp2_with fail
          go_returns
          rw [HR3.out]
          exact ⟨rfl, F5, hp5, HS4.out.trans hst5⟩
        · have hne : (E != 0) = true := by simpa using hz
          have hR3 : R = (E, T2) := by rw [HR2.out, if_pos hz]
          have HR3 := Lib.hid hR3
          clear hz hR3
          go_wp2_with fail
          go_returns
          rw [HR3.out]
          exact ⟨rfl, F4, HP4.out, HS4.out⟩
    · have h0b : ((sl : Int) == 0) = false := by rw [beq_eq_false_iff_ne]; omega
      have htw2 : tw = zeroB M := by rw [HTW.out, HSTL.out, if_neg (by omega)]
      have HTW2 := Lib.hid htw2
      have hb01 : Below w.heap.size w (w.alloc (.cells (madeCells #[.int .u8 0] M) 5)) := (Below.refl _ _).alloc (Nat.le_refl _) _
      have HB01 := Lib.hid hb01
      clear htw2 h0 hq hb01
      by_cases hcz : cr = fr * 128
      · have hM0 : M = 0 := by omega
        have HM0 := Lib.hid hM0
        subst hcz
        clear hM0
        go_wp2_with fail
        obtain ⟨w1, hw1⟩ : ∃ w1, w1 = w.alloc (.cells (madeCells #[.int .u8 0] M) 5) := ⟨_, rfl⟩
        have HBW : Hid (Below w.heap.size w w1) := Lib.hid (by rw [hw1]; exact HB01.out)
        have HWT : Hid (RdB w1 (some ⟨w.heap.size, 0, none⟩) tw) := Lib.hid (by rw [hw1, HTW2.out]; exact rd_zero w M)
        rw [← hw1]
        clear hw1
        refine (bequal_any _ _ _ rt tw 0 M _ _ (by rw [HRTL.out]; exact HM0.out.symm) HTWL.out.symm (RdB.empty _ _ (by rw [HRTL.out]; exact HM0.out)) HWT.out).mono ?_
        rintro e _ ⟨rfl, rfl⟩
        by_cases heq : rt = tw
        · have hR2 : R = (0, S) := by rw [HTF.out, if_pos heq]
          have HR2 := Lib.hid hR2
          have hdt : decide (rt = tw) = true := decide_eq_true heq
          clear heq hR2
          rw [hdt]
          go_wp2_with fail
          go_returns
          rw [HR2.out]
          exact ⟨rfl, F, HP.out.below HBW.out, Step.of_below HBW.out F⟩
        · have hR2 : R = if (S.write k ((at_ + fr * 128 : Nat) : Int) tw).1 ≠ 0 then S.write k ((at_ + fr * 128 : Nat) : Int) tw else (S.write k ((at_ + fr * 128 : Nat) : Int) tw).2.sync k := by rw [HTF.out, if_neg heq]
          obtain ⟨E, hE⟩ : ∃ E, (S.write k ((at_ + fr * 128 : Nat) : Int) tw).1 = E := ⟨_, rfl⟩
          obtain ⟨T2, hT2⟩ : ∃ T2, (S.write k ((at_ + fr * 128 : Nat) : Int) tw).2 = T2 := ⟨_, rfl⟩
          have HR2 : Hid (R = if E ≠ 0 then (E, T2) else T2.sync k) := Lib.hid (by
            rw [hR2, hE, hT2]
            split
            · rw [← hE, ← hT2]
            · rfl)
          have hdt : decide (rt = tw) = false := decide_eq_false heq
          have HAR2 : Hid (∀ W, Below w1.heap.size w1 W → Calls Try.prog 68 #[ob j, .int .i64 (J.gen : Int)] W fun e w' => e = .returned (.int .i64 (at_ : Nat)) ∧ Below w.heap.size w w' ∧ Below w1.heap.size w1 w') := Lib.hid (fun W hW => by
            have hbw := HBW.out.trans (hW.mono HBW.out.size)
            refine (area_at (below_cell hbw c1) (below_cell hbw c2) hfirst hsec (by omega) at_ HAT.out).mono ?_
            rintro e w' ⟨rfl, hb⟩
            exact ⟨rfl, hbw.trans (hb.mono hbw.size), hW.trans (hb.mono hW.size)⟩)
          have HWR : Hid (∀ W, Below w1.heap.size w1 W → Calls Try.prog 67 #[ob d, .int .i64 ((at_ : Int) + (fr : Int) * 128), .slice (some ⟨w.heap.size, 0, none⟩) M M] W fun e w' => e = .returned (.int .i64 E) ∧ ∃ F4, PwS w' p as_ T2 F4 ∧ Step F F4 w w') := Lib.hid (fun W hW => by
            have hbw := HBW.out.trans (hW.mono HBW.out.size)
            have := st_writeN (HP.out.below hbw) HK.out ((at_ : Int) + (fr : Int) * 128) (some ⟨w.heap.size, 0, none⟩) tw M M HTWL.out (by omega) (by unfold maxLen; omega) (HWT.out.below hW) (fun ad e => by cases e; exact HP.out.notin (Nat.le_refl _))
            refine this.mono ?_
            rintro e w' ⟨rfl, F4, hp4, hst4⟩
            rw [show (at_ : Int) + (fr : Int) * 128 = ((at_ + fr * 128 : Nat) : Int) by omega, hE]
            rw [show (at_ : Int) + (fr : Int) * 128 = ((at_ + fr * 128 : Nat) : Int) by omega, hT2] at hp4
            exact ⟨rfl, F4, hp4, (Step.of_below hbw F).trans hst4⟩)
          have e0 := below_cell HBW.out c0
          have e3 := below_cell HBW.out c3
          clear heq hR2 hE hT2
          rw [hdt]
          go_wp2_with fail
          have hm1 : IntKind.i64.wrap ((fr : Int) * 128) = (fr : Int) * 128 := by rw [IntKind.wrap_i64]; omega
          have hm2 : IntKind.i64.wrap ((at_ : Int) + (fr : Int) * 128) = (at_ : Int) + (fr : Int) * 128 := by rw [IntKind.wrap_i64]; omega
          go_region_held3 (fun W : World => W.cell? ⟨j, 0, none⟩ = some (ob d) ∧ W.cell? ⟨j, 3, none⟩ = some (.int .i64 (J.gen : Int))) (first | exact ⟨e0, e3⟩ | exact ⟨below_cell hbA c0, below_cell hbA c3⟩ | exact ⟨step_cell hst4 c0 HNF.out, step_cell hst4 c3 HNF.out⟩) (first | (go_at_call 68; refine (HAR2.out _ (Below.refl _ _).drew).mono ?_; rintro e wA ⟨rfl, hbA, hbA2⟩) | (go_at_call 67; refine (HWR.out _ hbA2).mono ?_; rintro e w4 ⟨rfl, F4, hp4, hst4⟩))
          clear hm1 hm2
          have HP4 := Lib.hid hp4
          have HS4 := Lib.hid hst4
          have g0 := step_cell hst4 c0 HNF.out
          have HSY : Hid (Calls Try.prog 70 #[ob d] w4 fun e w' => StSpec p as_ F4 (T2.sync k) w4 e w') := Lib.hid (st_sync hp4 HK.out)
          clear hp4 hst4 e0 e3 hbA hbA2 c0 c1 c2 c3 c4 c5 c6
          by_cases hz : E = 0
          · subst hz
            obtain ⟨Q, hQ⟩ : ∃ Q, T2.sync k = Q := ⟨_, rfl⟩
            have hR3 : R = Q := by rw [HR2.out, ← hQ]; simp
            rw [hQ] at HSY
            have HR3 := Lib.hid hR3
            clear hQ hR3
            go_wp2_with fail
            refine HSY.out.mono ?_
            rintro e w5 ⟨rfl, F5, hp5, hst5⟩
            go_wp2_with fail
            go_returns
            rw [HR3.out]
            exact ⟨rfl, F5, hp5, HS4.out.trans hst5⟩
          · have hne : (E != 0) = true := by simpa using hz
            have hR3 : R = (E, T2) := by rw [HR2.out, if_pos hz]
            have HR3 := Lib.hid hR3
            clear hz hR3
            go_wp2_with fail
            go_returns
            rw [HR3.out]
            exact ⟨rfl, F4, HP4.out, HS4.out⟩
      · go_wp2_with fail
        obtain ⟨w1, hw1⟩ : ∃ w1, w1 = w.alloc (.cells (madeCells #[.int .u8 0] M) 5) := ⟨_, rfl⟩
        have HBW : Hid (Below w.heap.size w w1) := Lib.hid (by rw [hw1]; exact HB01.out)
        have HWT : Hid (RdB w1 (some ⟨w.heap.size, 0, none⟩) tw) := Lib.hid (by rw [hw1, HTW2.out]; exact rd_zero w M)
        rw [← hw1]
        clear hw1
        refine (bequal_any _ _ _ rt tw (L - fr * 128) M _ _ (by rw [HRTL.out]; omega) HTWL.out.symm (HRT.out _ HBW.out) HWT.out).mono ?_
        rintro e _ ⟨rfl, rfl⟩
        by_cases heq : rt = tw
        · have hR2 : R = (0, S) := by rw [HTF.out, if_pos heq]
          have HR2 := Lib.hid hR2
          have hdt : decide (rt = tw) = true := decide_eq_true heq
          clear heq hR2
          rw [hdt]
          go_wp2_with fail
          go_returns
          rw [HR2.out]
          exact ⟨rfl, F, HP.out.below HBW.out, Step.of_below HBW.out F⟩
        · have hR2 : R = if (S.write k ((at_ + fr * 128 : Nat) : Int) tw).1 ≠ 0 then S.write k ((at_ + fr * 128 : Nat) : Int) tw else (S.write k ((at_ + fr * 128 : Nat) : Int) tw).2.sync k := by rw [HTF.out, if_neg heq]
          obtain ⟨E, hE⟩ : ∃ E, (S.write k ((at_ + fr * 128 : Nat) : Int) tw).1 = E := ⟨_, rfl⟩
          obtain ⟨T2, hT2⟩ : ∃ T2, (S.write k ((at_ + fr * 128 : Nat) : Int) tw).2 = T2 := ⟨_, rfl⟩
          have HR2 : Hid (R = if E ≠ 0 then (E, T2) else T2.sync k) := Lib.hid (by
            rw [hR2, hE, hT2]
            split
            · rw [← hE, ← hT2]
            · rfl)
          have hdt : decide (rt = tw) = false := decide_eq_false heq
          have HAR2 : Hid (∀ W, Below w1.heap.size w1 W → Calls Try.prog 68 #[ob j, .int .i64 (J.gen : Int)] W fun e w' => e = .returned (.int .i64 (at_ : Nat)) ∧ Below w.heap.size w w' ∧ Below w1.heap.size w1 w') := Lib.hid (fun W hW => by
            have hbw := HBW.out.trans (hW.mono HBW.out.size)
            refine (area_at (below_cell hbw c1) (below_cell hbw c2) hfirst hsec (by omega) at_ HAT.out).mono ?_
            rintro e w' ⟨rfl, hb⟩
            exact ⟨rfl, hbw.trans (hb.mono hbw.size), hW.trans (hb.mono hW.size)⟩)
          have HWR : Hid (∀ W, Below w1.heap.size w1 W → Calls Try.prog 67 #[ob d, .int .i64 ((at_ : Int) + (fr : Int) * 128), .slice (some ⟨w.heap.size, 0, none⟩) M M] W fun e w' => e = .returned (.int .i64 E) ∧ ∃ F4, PwS w' p as_ T2 F4 ∧ Step F F4 w w') := Lib.hid (fun W hW => by
            have hbw := HBW.out.trans (hW.mono HBW.out.size)
            have := st_writeN (HP.out.below hbw) HK.out ((at_ : Int) + (fr : Int) * 128) (some ⟨w.heap.size, 0, none⟩) tw M M HTWL.out (by omega) (by unfold maxLen; omega) (HWT.out.below hW) (fun ad e => by cases e; exact HP.out.notin (Nat.le_refl _))
            refine this.mono ?_
            rintro e w' ⟨rfl, F4, hp4, hst4⟩
            rw [show (at_ : Int) + (fr : Int) * 128 = ((at_ + fr * 128 : Nat) : Int) by omega, hE]
            rw [show (at_ : Int) + (fr : Int) * 128 = ((at_ + fr * 128 : Nat) : Int) by omega, hT2] at hp4
            exact ⟨rfl, F4, hp4, (Step.of_below hbw F).trans hst4⟩)
          have e0 := below_cell HBW.out c0
          have e3 := below_cell HBW.out c3
          clear heq hR2 hE hT2
          rw [hdt]
          go_wp2_with fail
          have hm1 : IntKind.i64.wrap ((fr : Int) * 128) = (fr : Int) * 128 := by rw [IntKind.wrap_i64]; omega
          have hm2 : IntKind.i64.wrap ((at_ : Int) + (fr : Int) * 128) = (at_ : Int) + (fr : Int) * 128 := by rw [IntKind.wrap_i64]; omega
          go_region_held3 (fun W : World => W.cell? ⟨j, 0, none⟩ = some (ob d) ∧ W.cell? ⟨j, 3, none⟩ = some (.int .i64 (J.gen : Int))) (first | exact ⟨e0, e3⟩ | exact ⟨below_cell hbA c0, below_cell hbA c3⟩ | exact ⟨step_cell hst4 c0 HNF.out, step_cell hst4 c3 HNF.out⟩) (first | (go_at_call 68; refine (HAR2.out _ (Below.refl _ _).drew).mono ?_; rintro e wA ⟨rfl, hbA, hbA2⟩) | (go_at_call 67; refine (HWR.out _ hbA2).mono ?_; rintro e w4 ⟨rfl, F4, hp4, hst4⟩))
          clear hm1 hm2
          have HP4 := Lib.hid hp4
          have HS4 := Lib.hid hst4
          have g0 := step_cell hst4 c0 HNF.out
          have HSY : Hid (Calls Try.prog 70 #[ob d] w4 fun e w' => StSpec p as_ F4 (T2.sync k) w4 e w') := Lib.hid (st_sync hp4 HK.out)
          clear hp4 hst4 e0 e3 hbA hbA2 c0 c1 c2 c3 c4 c5 c6
          by_cases hz : E = 0
          · subst hz
            obtain ⟨Q, hQ⟩ : ∃ Q, T2.sync k = Q := ⟨_, rfl⟩
            have hR3 : R = Q := by rw [HR2.out, ← hQ]; simp
            rw [hQ] at HSY
            have HR3 := Lib.hid hR3
            clear hQ hR3
            go_wp2_with fail
            refine HSY.out.mono ?_
            rintro e w5 ⟨rfl, F5, hp5, hst5⟩
            go_wp2_with fail
            go_returns
            rw [HR3.out]
            exact ⟨rfl, F5, hp5, HS4.out.trans hst5⟩
          · have hne : (E != 0) = true := by simpa using hz
            have hR3 : R = (E, T2) := by rw [HR2.out, if_pos hz]
            have HR3 := Lib.hid hR3
            clear hz hR3
            go_wp2_with fail
            go_returns
            rw [HR3.out]
            exact ⟨rfl, F4, HP4.out, HS4.out⟩
  · have hqb : ((sl : Int) % 119 != 0) = true := by rw [bne_iff_ne]; omega
    have HPQ : Hid (sl % 119 ≠ 0 ∨ sl = 0) := Lib.hid (.inl hq)
    clear hq
    have hM128 : 128 ≤ M := by have h1 := HO.out.fill; rw [HSL.out] at h1; have h2 := HM.out; have h3 := HPQ.out; omega
    have hce : ¬ (cr = fr * 128) := by omega
    have htw2 : tw = secL J.gen fr st ++ zeroB (M - 128) := by rw [HTW.out, HSTL.out, if_pos HPQ.out]
    have HTW2 := Lib.hid htw2
    have HSE : Hid (∀ W, Below w.heap.size w W → Calls Try.prog 69 #[.int .i64 (J.gen : Int), .int .i64 (fr : Int), .slice A sl c] W fun e w' => ∃ A' c', e = .returned (.slice A' 128 c') ∧ RdB w' A' (secL J.gen fr st) ∧ Below W.heap.size W w' ∧ Below w.heap.size w w') := Lib.hid (fun W hW => by
      refine (jsector_any W J.gen fr A c st sl HSTL.out (by omega) hcap hgen (by omega) (HRS.out.below hW)).mono ?_
      rintro e w' ⟨A', c', rfl, hown, hb⟩
      exact ⟨A', c', rfl, hown.rd, hb, hW.trans (hb.mono hW.size)⟩)
    have hM2 : 128 ≤ (M : Int) := by omega
    clear htw2
    go_wp2_with fail
    obtain ⟨w1, hw1⟩ : ∃ w1, w1 = w.alloc (.cells (madeCells #[.int .u8 0] M) 5) := ⟨_, rfl⟩
    have hb01 : Below w.heap.size w w1 := by rw [hw1]; exact (Below.refl _ _).alloc (Nat.le_refl _) _
    have hbk1 : Blk w1 w.heap.size 5 (bc (zeroB M)).toArray := by rw [hw1]; exact made_blk w M
    rw [← hw1]
    have HB01 := Lib.hid hb01
    have HBK1 := Lib.hid hbk1
    have e3 := below_cell hb01 c3
    have e4 := below_cell hb01 c4
    clear hw1 hb01 hbk1
    go_region_held3 (fun W : World => W.cell? ⟨j, 3, none⟩ = some (.int .i64 (J.gen : Int)) ∧ W.cell? ⟨j, 4, none⟩ = some (.slice A sl c)) (first | exact ⟨e3, e4⟩ | exact ⟨below_cell hbS c3, below_cell hbS c4⟩ | exact ⟨below_cell hbC c3, below_cell hbC c4⟩) (first | (go_at_call 69; refine (HSE.out _ HB01.out.drew).mono ?_; rintro e wS ⟨A', c', rfl, hrS, hbS0, hbS⟩; obtain ⟨wc, hrun, hbkc, hgc⟩ := run_copyB (w := wS) 3 M M 128 c' w.heap.size 0 (zeroB M) (secL J.gen fr st) (HBK1.out.below_ (below_drew_trans hbS0)) (by rw [secL_length]; exact (Nat.min_eq_left hM128).symm) (by rw [secL_length]; decide) hrS (by rw [secL_length, zeroB_length]; omega); have hbC : Below w.heap.size w wc := hbS.grown hgc hbS.size (fun q hq => by injection hq with hq; omega)))
    have HBW := Lib.hid hbC
    have HWT : Hid (RdB wc (some ⟨w.heap.size, 0, none⟩) tw) := Lib.hid (by rw [HTW2.out, ← putAt_zero hM128 (secL_length _ _ _)]; exact rdb_blk0 hbkc)
    clear hrun hbkc hgc hbC hrS hbS0 hbS e3 e4
    go_wp2_with fail
    refine (bequal_any _ _ _ rt tw (L - fr * 128) M _ _ (by rw [HRTL.out]; omega) HTWL.out.symm (HRT.out _ HBW.out) HWT.out).mono ?_
    rintro e _ ⟨rfl, rfl⟩
    by_cases heq : rt = tw
    · have hR2 : R = (0, S) := by rw [HTF.out, if_pos heq]
      have HR2 := Lib.hid hR2
      have hdt : decide (rt = tw) = true := decide_eq_true heq
      clear heq hR2
      rw [hdt]
      go_wp2_with fail
      go_returns
      rw [HR2.out]
      exact ⟨rfl, F, HP.out.below HBW.out, Step.of_below HBW.out F⟩
    · have hR2 : R = if (S.write k ((at_ + fr * 128 : Nat) : Int) tw).1 ≠ 0 then S.write k ((at_ + fr * 128 : Nat) : Int) tw else (S.write k ((at_ + fr * 128 : Nat) : Int) tw).2.sync k := by rw [HTF.out, if_neg heq]
      obtain ⟨E, hE⟩ : ∃ E, (S.write k ((at_ + fr * 128 : Nat) : Int) tw).1 = E := ⟨_, rfl⟩
      obtain ⟨T2, hT2⟩ : ∃ T2, (S.write k ((at_ + fr * 128 : Nat) : Int) tw).2 = T2 := ⟨_, rfl⟩
      have HR2 : Hid (R = if E ≠ 0 then (E, T2) else T2.sync k) := Lib.hid (by
        rw [hR2, hE, hT2]
        split
        · rw [← hE, ← hT2]
        · rfl)
      have hdt : decide (rt = tw) = false := decide_eq_false heq
      have HAR2 : Hid (∀ W, Below wc.heap.size wc W → Calls Try.prog 68 #[ob j, .int .i64 (J.gen : Int)] W fun e w' => e = .returned (.int .i64 (at_ : Nat)) ∧ Below w.heap.size w w' ∧ Below wc.heap.size wc w') := Lib.hid (fun W hW => by
        have hbw := HBW.out.trans (hW.mono HBW.out.size)
        refine (area_at (below_cell hbw c1) (below_cell hbw c2) hfirst hsec (by omega) at_ HAT.out).mono ?_
        rintro e w' ⟨rfl, hb⟩
        exact ⟨rfl, hbw.trans (hb.mono hbw.size), hW.trans (hb.mono hW.size)⟩)
      have HWR : Hid (∀ W, Below wc.heap.size wc W → Calls Try.prog 67 #[ob d, .int .i64 ((at_ : Int) + (fr : Int) * 128), .slice (some ⟨w.heap.size, 0, none⟩) M M] W fun e w' => e = .returned (.int .i64 E) ∧ ∃ F4, PwS w' p as_ T2 F4 ∧ Step F F4 w w') := Lib.hid (fun W hW => by
        have hbw := HBW.out.trans (hW.mono HBW.out.size)
        have := st_writeN (HP.out.below hbw) HK.out ((at_ : Int) + (fr : Int) * 128) (some ⟨w.heap.size, 0, none⟩) tw M M HTWL.out (by omega) (by unfold maxLen; omega) (HWT.out.below hW) (fun ad e => by cases e; exact HP.out.notin (Nat.le_refl _))
        refine this.mono ?_
        rintro e w' ⟨rfl, F4, hp4, hst4⟩
        rw [show (at_ : Int) + (fr : Int) * 128 = ((at_ + fr * 128 : Nat) : Int) by omega, hE]
        rw [show (at_ : Int) + (fr : Int) * 128 = ((at_ + fr * 128 : Nat) : Int) by omega, hT2] at hp4
        exact ⟨rfl, F4, hp4, (Step.of_below hbw F).trans hst4⟩)
      have e0 := below_cell HBW.out c0
      have e3 := below_cell HBW.out c3
      clear heq hR2 hE hT2
      rw [hdt]
      go_wp2_with fail
      have hm1 : IntKind.i64.wrap ((fr : Int) * 128) = (fr : Int) * 128 := by rw [IntKind.wrap_i64]; omega
      have hm2 : IntKind.i64.wrap ((at_ : Int) + (fr : Int) * 128) = (at_ : Int) + (fr : Int) * 128 := by rw [IntKind.wrap_i64]; omega
      go_region_held3 (fun W : World => W.cell? ⟨j, 0, none⟩ = some (ob d) ∧ W.cell? ⟨j, 3, none⟩ = some (.int .i64 (J.gen : Int))) (first | exact ⟨e0, e3⟩ | exact ⟨below_cell hbA c0, below_cell hbA c3⟩ | exact ⟨step_cell hst4 c0 HNF.out, step_cell hst4 c3 HNF.out⟩) (first | (go_at_call 68; refine (HAR2.out _ (Below.refl _ _).drew).mono ?_; rintro e wA ⟨rfl, hbA, hbA2⟩) | (go_at_call 67; refine (HWR.out _ hbA2).mono ?_; rintro e w4 ⟨rfl, F4, hp4, hst4⟩))
      clear hm1 hm2
      have HP4 := Lib.hid hp4
      have HS4 := Lib.hid hst4
      have g0 := step_cell hst4 c0 HNF.out
      have HSY : Hid (Calls Try.prog 70 #[ob d] w4 fun e w' => StSpec p as_ F4 (T2.sync k) w4 e w') := Lib.hid (st_sync hp4 HK.out)
      clear hp4 hst4 e0 e3 hbA hbA2 c0 c1 c2 c3 c4 c5 c6
      by_cases hz : E = 0
      · subst hz
        obtain ⟨Q, hQ⟩ : ∃ Q, T2.sync k = Q := ⟨_, rfl⟩
        have hR3 : R = Q := by rw [HR2.out, ← hQ]; simp
        rw [hQ] at HSY
        have HR3 := Lib.hid hR3
        clear hQ hR3
        go_wp2_with fail
        refine HSY.out.mono ?_
        rintro e w5 ⟨rfl, F5, hp5, hst5⟩
        go_wp2_with fail
        go_returns
        rw [HR3.out]
        exact ⟨rfl, F5, hp5, HS4.out.trans hst5⟩
      · have hne : (E != 0) = true := by simpa using hz
        have hR3 : R = (E, T2) := by rw [HR2.out, if_pos hz]
        have HR3 := Lib.hid hR3
        clear hz hR3
        go_wp2_with fail
        go_returns
        rw [HR3.out]
        exact ⟨rfl, F4, HP4.out, HS4.out⟩
end
end Go.Proofs.Ytjmhfjioccljeaa
