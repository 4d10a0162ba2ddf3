/-
  Walks of the reference's disks: Crash.
-/
import Derived.Test.YtoompglghjpapaaRkF
namespace Go.Proofs.Ytoompglghjpapaa
open Go.RowKit
set_option linter.unusedVariables false
set_option linter.unusedSimpArgs false
attribute [local go_sem ↓] Go.wp_at_zero Go.wp_at_succ

def RCrashSpec (p : Nat) (ds : List (Nat × Dk)) (picks : List Int) (F : Nat → Prop) (w : World) (e : Ending) (w' : World) : Prop :=
  e = .returned (.tuple #[]) ∧ ∃ F', QwR w' p (crashL picks 0 ds) false (-1) F' ∧ Step F F' w w'
theorem pick_at {w wr : World} {F F' : Nat → Prop} {B : Option Addr} {picks : List Int} (hr : RdZ w B picks) (hB : ∀ x, B = some x → 0 < picks.length → ¬ F x.block) (hs : Step F F' w wr) {j : Nat} (hj : j < picks.length) :
    ∃ x, B = some x ∧ wr.cell? (x.add j) = some (.int .i64 (picks.getD j 0)) := by
  obtain ⟨x, e, hc⟩ := hr.at_ hj
  exact ⟨x, e, step_cell hs hc (by rw [block_of_add]; exact hB x e (by omega))⟩
/-- one sector is gone through -/
theorem rin_next {p d nb s : Nat} {D : Dk} {picks : List Int} {a : Nat} {w1 wr : World} (g1 : Blk wr d 84 #[ob p, .string (bs D.rd), .string (bs (rmid D picks a (s + 1))), .slice (some ⟨nb, 0, none⟩) D.nw.length D.nw.length])
    (g2 : Blk wr nb 4 (boolsL (rnw D s))) (g3 : Step (rkF d nb) (rkF d nb) w1 wr) : RIn p d nb D picks a (s + 1) w1 (wr.setCell ⟨nb, s, none⟩ (.bool false)) := by
  have hdn : d ≠ nb := Blk.ne_ g1 g2 (by decide)
  have h2 := g2.set_ s (.bool false)
  rw [boolsL_set, rnw_set] at h2
  exact ⟨g1.far (p := ⟨nb, s, none⟩) hdn _, h2, g3.setCell (a := ⟨nb, s, none⟩) (.inl (.inr rfl)) _⟩
theorem cnt_bound {D : Dk} {N s : Nat} (hN : D.nw.length = N) (hs : s ≤ N) : D.cnt s ≤ N := by
  have h1 := cnt_le_all D (s := s) (by rw [hN]; exact hs)
  have h2 := all_le D
  omega
theorem rstep_in {F : Nat → Prop} {w w1 wr : World} {p n k d nb : Nat} {A : Option Addr} {Fs : Nat → Nat → Prop} (h : Step F (pwF p A n Fs) w w1) (hk : k < n) (hF : Fs k = rkF d nb) (g : Step (rkF d nb) (rkF d nb) w1 wr) : Step F (pwF p A n Fs) w wr :=
  h.trans (g.wide (fun i hi => .inr (.inr ⟨k, hk, by rw [hF]; exact hi⟩)) fun i hi => .inr hi)
set_option maxRecDepth 100000 in
set_option maxHeartbeats 2000000 in
theorem rcrash_any {p : Nat} {ds : List (Nat × Dk)} {off : Bool} {arm : Int} {F : Nat → Prop} (picks : List Int) (B : Option Addr) (cB : Nat) (w : World) (h : QwR w p ds off arm F) (hr : RdZ w B picks) (hB : ∀ x, B = some x → 0 < picks.length → ¬ F x.block) (hl : picks.length ≤ maxLen) :
    Calls Try.prog 44 #[ob p, .slice B picks.length cB] w fun e w' => RCrashSpec p ds picks F w e w' := by
  unfold maxLen at hl
  obtain ⟨A, c, Fs, h, rfl⟩ := h
  have c0 := h.self.cell 0
  simp at c0
  have hn : ds.length ≤ 1000 := h.few
  have HT : Hid (∀ i, i ≤ ds.length → taken ds i ≤ 16384 * i) := Lib.hid (taken_le ds 16384 fun k x hx => by
    obtain ⟨nb, hd, _⟩ := h.disk k x hx
    exact hd.lim)
  have HH := Lib.hid h
  have HR := Lib.hid hr
  have HB := Lib.hid hB
  clear h hr hB
  obtain ⟨n, hnn⟩ : ∃ n, ds.length = n := ⟨_, rfl⟩
  have HN : Hid (ds.length = n) := Lib.hid hnn
  obtain ⟨m, hm⟩ : ∃ m, picks.length = m := ⟨_, rfl⟩
  have HM : Hid (picks.length = m) := Lib.hid hm
  rw [hnn] at c0 hn
  rw [hm] at hl ⊢
  clear hnn hm
  go_enter Try.func44, Try.ntmps44
  go_wp2_with fail
  go_loopw [4, 5, 6, 7] (fun t i _ _ wr => ∃ k a : Nat, i = .int .i64 (k : Int) ∧ t = .int .i64 (a : Int) ∧ k ≤ n ∧ Hid (taken ds k = a) ∧ Hid (ROut p c ds off arm A Fs picks k w wr)) (fun _ i _ _ _ => n - (RowKit.intOf i).toNat)
  case atStart => exact ⟨0, 0, rfl, rfl, Nat.zero_le _, Lib.hid rfl, Lib.hid ⟨Fs, by rw [crashTo_zero]; exact HH.out, by rw [crashTo_zero]; exact Step.refl _ _⟩⟩
  case round =>
    obtain ⟨k, a, rfl, rfl, hk, HTA, HC⟩ := hrel
    by_cases hlt : k < n
    · obtain ⟨Fs', hpw, hst⟩ := HC.out
      have hkl : k < ds.length := by rw [HN.out]; exact hlt
      have hg := crashTo_at picks ds k hkl
      obtain ⟨⟨d, D⟩, hx⟩ : ∃ x, ds[k]? = some x := ⟨_, List.getElem?_eq_getElem hkl⟩
      rw [hx] at hg
      obtain ⟨ad, rfl, cd⟩ := hpw.cellk hg
      obtain ⟨nb, hdk, hfk⟩ := hpw.disk k _ hg
      have cd : wr.cell? (ad.add k) = some (ob d) := cd
      have hdk : RkAt wr p d D nb := hdk
      have cP := hpw.self.cell 0
      simp at cP
      rw [crashTo_length _ _ _ (by rw [HN.out]; omega), HN.out] at cP
      have HPW := Lib.hid hpw
      have HST := Lib.hid hst
      have HX := Lib.hid hx
      have HDK := Lib.hid hdk
      have HFK := Lib.hid hfk
      have HTS : Hid (taken ds (k + 1) = a + D.all) := Lib.hid (by rw [taken_succ ds k hx, HTA.out])
      have hak : a ≤ 16384 * 1000 := by
        have h1 := HT.out k (by omega)
        rw [HTA.out] at h1
        omega
      have hdl : D.nw.length ≤ 16384 := hdk.lim
      obtain ⟨N, hN⟩ : ∃ N, D.nw.length = N := ⟨_, rfl⟩
      have HNN : Hid (D.nw.length = N) := Lib.hid hN
      rw [hN] at hdl
      clear hpw hst hkl hg hx hfk hdk hN
      obtain ⟨wr0, hwr0⟩ : ∃ x, wr = x := ⟨_, rfl⟩
      rw [hwr0] at HPW HST HDK
      have HW0 := Lib.hid hwr0
      clear hwr0
      go_wp2_with fail
      go_loopw [4, 7] (fun t i wz => ∃ s b : Nat, i = .int .i64 (s : Int) ∧ t = .int .i64 (b : Int) ∧ s ≤ N ∧ Hid (b = a + D.cnt s) ∧ Hid (RIn p d nb D picks (taken ds k) s wr0 wz)) (fun _ i _ => N - (RowKit.intOf i).toNat)
      case atStart => exact ⟨0, a, rfl, rfl, Nat.zero_le _, Lib.hid (by simp [Dk.cnt]), Lib.hid (by rw [HW0.out]; exact ⟨by rw [rmid_zero HDK.out.ok]; exact HDK.out.self, by rw [rnw_zero]; exact HDK.out.bits, Step.refl _ _⟩)⟩
      case round =>
        obtain ⟨s, b, rfl, rfl, hs, HBE, HI⟩ := hrel
        obtain ⟨g1, g2, g3⟩ := HI.out
        by_cases hsl : s < N
        · have c1 := g1.cell 1
          have c2 := g1.cell 2
          have c3 := g1.cell 3
          simp at c1 c2 c3
          rw [HNN.out] at c3
          have ct := g2.cell s
          rw [boolsL_get _ _ (by rw [rnw_length, HNN.out]; exact hsl), rnw_get _ _ (by rw [HNN.out]; exact hsl)] at ct
          have ft := g2.frozen s
          have f2 := g1.frozen 2
          have HCS : Hid (D.cnt (s + 1) = D.cnt s + (if D.new s then 1 else 0)) := Lib.hid (cnt_succ D s (by rw [HNN.out]; exact hsl))
          have hbb : b ≤ a + 16384 := by
            rw [HBE.out]
            have := cnt_bound (D := D) HNN.out hs
            omega
          have HKL : Hid (k < (crashTo picks ds k).length) := Lib.hid (by rw [crashTo_length _ _ _ (by rw [HN.out]; omega), HN.out]; exact hlt)
          have HSTW : Hid (Step (pwF p (some ad) ds.length Fs) (pwF p (some ad) (crashTo picks ds k).length Fs') w wr) := Lib.hid (rstep_in HST.out HKL.out HFK.out g3)
          clear g1 g2 g3
          cases hnew : D.new s
          · rw [hnew] at ct
            go_wp2_with fail
            refine ⟨⟨s + 1, b, int_eq (by omega), rfl, by omega, Lib.hid (by rw [HCS.out, hnew]; exact HBE.out), Lib.hid ?_⟩, by simp [RowKit.intOf]; omega⟩
            obtain ⟨g1, g2, g3⟩ := HI.out
            unfold RIn
            rw [rmid_even picks (taken ds k) (s := s) (fun h => by rw [hnew] at h; cases h.1), rnw_skip D s hnew]
            exact ⟨g1, g2, g3⟩
          · rw [hnew] at ct
            by_cases hat : b < m
            · obtain ⟨xp, rfl, hcp⟩ := pick_at HR.out HB.out HSTW.out (j := b) (by rw [HM.out]; exact hat)
              obtain ⟨pv, hpv⟩ : ∃ v, picks.getD b 0 = v := ⟨_, rfl⟩
              have HPV : Hid (picks.getD b 0 = pv) := Lib.hid hpv
              rw [hpv] at hcp
              clear hpv
              by_cases hodd : pv.tmod 2 = 0
              · have hb1 : (pv.tmod 2 != 0) = false := by simp [hodd]
                have HEV : Hid (rmid D picks (taken ds k) (s + 1) = rmid D picks (taken ds k) s) := Lib.hid (rmid_even picks (taken ds k) (s := s) (by
                  rintro ⟨_, h⟩
                  unfold oddAt at h; simp only [decide_eq_true_eq] at h
                  rw [HTA.out, ← HBE.out, HPV.out] at h
                  exact h.2 (rtmod_two.1 hodd)))
                go_wp2_with fail
                refine ⟨⟨s + 1, b + 1, int_eq (by omega), int_eq (by omega), by omega, Lib.hid (by rw [HCS.out, hnew]; simp; rw [HBE.out]; omega), Lib.hid (rin_next ?_ HI.out.2.1 HI.out.2.2)⟩, by simp [RowKit.intOf]; omega⟩
                rw [HEV.out]; exact HI.out.1
              · have hb1 : (pv.tmod 2 != 0) = true := by simp [hodd]
                have HOD : Hid (putAt (rmid D picks (taken ds k) s) (128 * s) (sec D.rd s) = rmid D picks (taken ds k) (s + 1)) := Lib.hid (rmid_odd HDK.out.ok picks (taken ds k) (by rw [HNN.out]; exact hsl) hnew (by
                  unfold oddAt; simp only [decide_eq_true_eq]
                  rw [HTA.out, ← HBE.out, HPV.out, HM.out]
                  exact ⟨hat, fun h => hodd (rtmod_two.2 h)⟩))
                have HLM : Hid ((rmid D picks (taken ds k) s).length = 128 * N) := Lib.hid (by rw [rmid_length HDK.out.ok, HNN.out])
                have HLR : Hid (D.rd.length = 128 * N) := Lib.hid (by rw [HDK.out.ok.rd, HNN.out])
                obtain ⟨M, hM⟩ : ∃ M, rmid D picks (taken ds k) s = M := ⟨_, rfl⟩
                rw [hM] at HOD HLM c2
                obtain ⟨lo, hlo⟩ : ∃ x, 128 * s = x := ⟨_, rfl⟩
                obtain ⟨hi, hhi⟩ : ∃ x, lo + 128 = x := ⟨_, rfl⟩
                obtain ⟨s1, hs1⟩ : ∃ x, s + 1 = x := ⟨_, rfl⟩
                have e1 := fun W => slice_bsh W M (lo : Int) lo rfl (by rw [HLM.out]; omega)
                have e2 := fun W => slice_bs W D.rd (lo : Int) (hi : Int) lo 128 rfl (by omega) (by rw [HLR.out]; omega)
                have e3 := fun W => slice_bsl W M (hi : Int) hi rfl (by rw [HLM.out]; omega)
                have z1 : (bs (M.take lo)).size = lo := by rw [bs_size, List.length_take, HLM.out]; omega
                have z2 : (bs ((D.rd.drop lo).take 128)).size = 128 := by rw [bs_size, List.length_take, List.length_drop, HLR.out]; omega
                have z3 : (bs (M.drop hi)).size ≤ 128 * N := by rw [bs_size, List.length_drop, HLM.out]; omega
                obtain ⟨X1, hX1⟩ : ∃ X, bs (M.take lo) = X := ⟨_, rfl⟩
                obtain ⟨X2, hX2⟩ : ∃ X, bs ((D.rd.drop lo).take 128) = X := ⟨_, rfl⟩
                obtain ⟨X3, hX3⟩ : ∃ X, bs (M.drop hi) = X := ⟨_, rfl⟩
                obtain ⟨X4, hX4⟩ : ∃ X, X1 ++ X2 = X := ⟨_, rfl⟩
                rw [hX1] at e1 z1
                rw [hX2] at e2 z2
                rw [hX3] at e3 z3
                have z4 : X4.size = hi := by rw [← hX4, ByteArray.size_append]; omega
                have k1 : ¬ 9223372036854775807 < X1.size + X2.size := by omega
                have k2 : ¬ 9223372036854775807 < X4.size + X3.size := by omega
                have w1 : IntKind.i64.wrap ((s : Int) * 128) = (lo : Int) := by rw [IntWalk.i64_in _ (by omega)]; omega
                have w2 : IntKind.i64.wrap ((s : Int) + 1) = (s1 : Int) := by rw [IntWalk.i64_in _ (by omega)]; omega
                have w3 : IntKind.i64.wrap ((s1 : Int) * 128) = (hi : Int) := by rw [IntWalk.i64_in _ (by omega)]; omega
                have HX : Hid (X4 ++ X3 = bs (rmid D picks (taken ds k) (s + 1))) := Lib.hid (by
                  have hsl2 : (sec D.rd s).length = 128 := sec_length (n := N) HLR.out hsl
                  rw [← HOD.out]
                  unfold putAt
                  rw [hsl2, hlo, hhi, ← bs_cat, ← bs_cat, hX1, hX3]
                  unfold sec
                  rw [hlo, hX2, hX4])
                clear z1 z2 z3 z4 hX1 hX2 hX3 hM hlo hhi hs1
                go_upto_region 10 with (fail)
                have c2 := c2
                go_region
                rw [HX.out]
                have HQ : Hid (Blk ((wr.setCell ⟨d, 2, none⟩ (.string (bs (rmid D picks (taken ds k) (s + 1))))).drew) d 84 #[ob p, .string (bs D.rd), .string (bs (rmid D picks (taken ds k) (s + 1))), .slice (some ⟨nb, 0, none⟩) D.nw.length D.nw.length] ∧
                    Blk ((wr.setCell ⟨d, 2, none⟩ (.string (bs (rmid D picks (taken ds k) (s + 1))))).drew) nb 4 (boolsL (rnw D s)) ∧ Step (rkF d nb) (rkF d nb) wr0 ((wr.setCell ⟨d, 2, none⟩ (.string (bs (rmid D picks (taken ds k) (s + 1))))).drew)) := Lib.hid (by
                  obtain ⟨g1, g2, g3⟩ := HI.out
                  have hdn : nb ≠ d := Ne.symm (Blk.ne_ g1 g2 (by decide))
                  exact ⟨by simpa using (g1.set_ 2 (.string (bs (rmid D picks (taken ds k) (s + 1))))).drew, (g2.far (p := ⟨d, 2, none⟩) hdn _).drew, (g3.setCell (a := ⟨d, 2, none⟩) (.inl (.inl rfl)) _).drew⟩)
                obtain ⟨wq, hwq⟩ : ∃ wq, ((wr.setCell ⟨d, 2, none⟩ (.string (bs (rmid D picks (taken ds k) (s + 1))))).drew) = wq := ⟨_, rfl⟩
                rw [hwq] at HQ ⊢
                have c3q := HQ.out.1.cell 3
                simp at c3q
                rw [HNN.out] at c3q
                have ctq := HQ.out.2.1.cell s
                rw [boolsL_get _ _ (by rw [rnw_length, HNN.out]; exact hsl)] at ctq
                have ftq := HQ.out.2.1.frozen s
                clear c1 c2 c3 ct ft f2 hwq e1 e2 e3 k1 k2 w1 w2 w3 HX hX4
                go_wp2_with fail
                exact ⟨⟨s + 1, b + 1, int_eq (by omega), int_eq (by omega), by omega, Lib.hid (by rw [HCS.out, hnew]; simp; rw [HBE.out]; omega), Lib.hid (rin_next HQ.out.1 HQ.out.2.1 HQ.out.2.2)⟩, by simp [RowKit.intOf]; omega⟩
            · have HEV : Hid (rmid D picks (taken ds k) (s + 1) = rmid D picks (taken ds k) s) := Lib.hid (rmid_even picks (taken ds k) (s := s) (by
                rintro ⟨_, h⟩
                unfold oddAt at h; simp only [decide_eq_true_eq] at h
                rw [HTA.out, ← HBE.out, HM.out] at h
                exact hat h.1))
              go_wp2_with fail
              refine ⟨⟨s + 1, b + 1, int_eq (by omega), int_eq (by omega), by omega, Lib.hid (by rw [HCS.out, hnew]; simp; rw [HBE.out]; omega), Lib.hid (rin_next ?_ HI.out.2.1 HI.out.2.2)⟩, by simp [RowKit.intOf]; omega⟩
              rw [HEV.out]; exact HI.out.1
        · obtain rfl : s = N := by omega
          have c1 := g1.cell 1
          have c2 := g1.cell 2
          have c3 := g1.cell 3
          simp at c1 c2 c3
          rw [HNN.out] at c3
          have f1 := g1.frozen 1
          clear g1 g2 g3
          have HNX : Hid (ROut p c ds off arm (some ad) Fs picks (k + 1) w (wr.setCell ⟨d, 1, none⟩ (.string (bs (D.crashed picks (taken ds k)))))) := Lib.hid (rcrash_turn HST.out HPW.out HX.out HDK.out HFK.out (by rw [HNN.out]; exact HI.out))
          have HRA : Hid (rmid D picks (taken ds k) s = D.crashed picks (taken ds k)) := Lib.hid (by rw [← HNN.out]; exact rmid_all HDK.out.ok picks _)
          rw [HRA.out] at c2
          go_wp2_with fail
          refine ⟨⟨k + 1, b, int_eq (by omega), rfl, by omega, Lib.hid ?_, HNX⟩, by simp [RowKit.intOf]; omega⟩
          rw [HTS.out, HBE.out, ← HNN.out, cnt_all]
    · obtain rfl : k = n := by omega
      obtain ⟨Fs', hpw, hst⟩ := HC.out
      have hall : crashTo picks ds k = crashL picks 0 ds := crashTo_all picks ds k (by rw [HN.out]; exact Nat.le_refl _)
      rw [hall] at hpw hst
      have p0 := hpw.self.cell 0
      have p1 := hpw.self.cell 1
      have p2 := hpw.self.cell 2
      have f1 := hpw.self.frozen 1
      have f2 := hpw.self.frozen 2
      simp at p0 p1 p2
      rw [crashL_length, HN.out] at p0
      have HPW := Lib.hid hpw
      have HST := Lib.hid hst
      clear hpw hst
      go_wp2_with fail
      go_end0
      have hs2 : Step (one p) (one p) wr ((wr.setCell ⟨p, 1, none⟩ (.bool false)).setCell ⟨p, 2, none⟩ (.int .i64 (-1))) := Step.setCell (a := ⟨p, 2, none⟩) (Step.setCell (a := ⟨p, 1, none⟩) (Step.refl (one p) _) (.inl rfl) _) (.inl rfl) _
      have hb2 := (HPW.out.self.set_ 1 (.bool false)).set_ 2 (.int .i64 (-1))
      obtain ⟨q1, q2⟩ := HPW.out.reself (off' := false) (arm' := -1) hs2 (by simpa using hb2) (by omega)
      exact ⟨rfl, _, ⟨A, c, Fs', q1, rfl⟩, HST.out.trans q2⟩
end Go.Proofs.Ytoompglghjpapaa
