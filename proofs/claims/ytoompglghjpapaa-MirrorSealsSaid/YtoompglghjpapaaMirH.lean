/-
  Walk: (*Mirror).Copies, Size, Sync, Lay.
-/
import Derived.Test.YtoompglghjpapaaMirG
import Derived.Handy
namespace Go.Proofs.Ytoompglghjpapaa
open Go.RowKit Crc
set_option linter.unusedVariables false
set_option linter.unusedSimpArgs false
attribute [local go_sem ↓] Go.wp_at_zero Go.wp_at_succ

section
variable {w0 w : World} {p G m N : Nat} {as_ : List Nat} {S : St} {F : Nat → Prop}
/-- the mirror's list as a walk meets it -/
theorem Mr.list (h : Mr w0 w p G as_ S m F) (hN : as_.length = N) : ∃ g c, w.cell? ⟨m, 0, none⟩ = some (.slice (some ⟨g, 0, none⟩) N c) ∧ ∀ k, k < N → ∃ d, as_[k]? = some d ∧ w.cell? ⟨g, k, none⟩ = some (ob d) := by
  obtain ⟨g, cm, hm1, hm2, hm3⟩ := h.mir
  refine ⟨g, cm, ?_, fun k hk => ?_⟩
  · have := hm1.cell 0
    simp at this
    rw [hN] at this
    exact this
  · have hkl : k < as_.length := by omega
    refine ⟨as_[k], List.getElem?_eq_getElem hkl, ?_⟩
    have := hm2 k hkl
    rwa [show as_.getD k 0 = as_[k] by simp [List.getD, hkl]] at this
theorem copies_any (h : Mr w0 w p G as_ S m F) (hN : as_.length = N) : Calls Try.prog 24 #[ob m] w fun e w' => e = .returned (.int .i64 (N : Int)) ∧ w = w' := by
  obtain ⟨g, c, mc, _⟩ := h.list hN
  clear h
  go_enter Try.func24, Try.ntmps24
  go_wp2_with fail
  go_ret
  exact ⟨rfl, rfl⟩
theorem msize_any (h : Mr w0 w p G as_ S m F) (hN : as_.length = N) (hN1 : 1 ≤ N) : Calls Try.prog 25 #[ob m] w fun e w' => e = .returned (.int .i64 ((S.at_ 0).size : Int)) ∧ w = w' := by
  obtain ⟨g, c, mc, hc⟩ := h.list hN
  obtain ⟨d, hd, c0⟩ := hc 0 (by omega)
  have HS := Lib.hid (st_size h.lw.pw hd)
  have hn0 : (0 : Int) < (N : Int) := by omega
  obtain ⟨Z, hZ⟩ : ∃ Z : Int, ((S.at_ 0).size : Int) = Z := ⟨_, rfl⟩
  rw [hZ] at HS ⊢
  clear h hc hd hZ
  go_enter Try.func25, Try.ntmps25
  go_wp2_with fail
  refine HS.out.mono ?_
  rintro e _ ⟨rfl, rfl⟩
  go_wp2_with fail
  go_ret
  exact ⟨rfl, rfl⟩
/-- all disks are synced, till one does not -/
def syncG (S : St) : Nat → Nat → Int × St
  | 0, _ => (0, S)
  | n + 1, k => if (S.sync k).1 = 0 then syncG (S.sync k).2 n (k + 1) else S.sync k
/-- bytes are written to all disks, till one does not take them -/
def layG (S : St) (o : Int) (b : List UInt8) : Nat → Nat → Int × St
  | 0, _ => (0, S)
  | n + 1, k => if (S.write k o b).1 = 0 then layG (S.write k o b).2 o b n (k + 1) else S.write k o b
def MSyncSpec (w0 : World) (p G : Nat) (as_ : List Nat) (S : St) (m N : Nat) (F : Nat → Prop) (w : World) (e : Ending) (w' : World) : Prop :=
  e = .returned (.int .i64 (syncG S N 0).1) ∧ ∃ F', Mr w0 w' p G as_ (syncG S N 0).2 m F' ∧ Step F F' w w'
set_option maxRecDepth 100000 in
set_option maxHeartbeats 1000000 in
theorem msync_any (h : Mr w0 w p G as_ S m F) (hN : as_.length = N) (hN8 : N ≤ 8) : Calls Try.prog 47 #[ob m] w fun e w' => MSyncSpec w0 p G as_ S m N F w e w' := by
  obtain ⟨g, c, mc, _⟩ := h.list hN
  have HM := Lib.hid h
  have HN := Lib.hid hN
  clear h hN
  go_enter Try.func47, Try.ntmps47
  go_wp2_with fail
  have hg0 : ∀ (w1 : World) (F1 : Nat → Prop) (S1 : St), Mr w0 w1 p G as_ S1 m F1 → Step F F1 w w1 → ∀ k, k < N → ∃ d, as_[k]? = some d ∧ w1.cell? ⟨g, k, none⟩ = some (ob d) := fun w1 F1 S1 h1 hs k hk => by
    obtain ⟨g', c', mc', hc'⟩ := h1.list HN.out
    obtain ⟨_, _, hm1, _, hm3, _⟩ := HM.out.mir
    have := step_cell hs mc hm3
    rw [mc'] at this
    cases this
    exact hc' k hk
  have HG0 := Lib.hid hg0
  clear hg0
  go_loopw [4, 5, 13] (fun _ _ i wr => ∃ k : Nat, i = .int .i64 (k : Int) ∧ k ≤ N ∧ Hid (∃ S1 F1, syncG S N 0 = syncG S1 (N - k) k ∧ Mr w0 wr p G as_ S1 m F1 ∧ Step F F1 w wr)) (fun _ _ i _ => N - (RowKit.intOf i).toNat)
  case atStart => exact ⟨0, rfl, by omega, Lib.hid ⟨S, F, rfl, HM.out, Step.refl _ _⟩⟩
  case round =>
    obtain ⟨k, rfl, hk, HJ⟩ := hrel
    obtain ⟨S1, F1, hJ, hmr, hst⟩ := HJ.out
    clear HJ
    have HJ := Lib.hid hJ
    have HMR := Lib.hid hmr
    have HST := Lib.hid hst
    clear hJ
    by_cases hlt : k < N
    · have hkn : (k : Int) < (N : Int) := by omega
      obtain ⟨d, hd, c1⟩ := HG0.out _ _ _ hmr hst k hlt
      have hcall := st_sync hmr.lw.pw hd
      obtain ⟨E, hE⟩ : ∃ E, (S1.sync k).1 = E := ⟨_, rfl⟩
      unfold StSpec at hcall
      rw [hE] at hcall
      have HCALL := Lib.hid hcall
      have HE := Lib.hid hE
      have HNK : Hid (N - k = (N - (k + 1)) + 1) := Lib.hid (by omega)
      clear hmr hst hcall hE hd
      by_cases hE0 : E = 0
      · subst hE0
        go_wp2_with fail
        refine HCALL.out.mono ?_
        rintro e w2 ⟨rfl, F2, hl2, hs2⟩
        have H2 := Lib.hid (HMR.out.step hs2 hl2)
        have HS2 := Lib.hid (HST.out.trans hs2)
        clear hl2 hs2 HCALL
        go_wp2_with fail
        refine ⟨⟨k + 1, int_eq (by omega), by omega, Lib.hid ⟨_, _, ?_, H2.out, HS2.out⟩⟩, by simp [RowKit.intOf]; omega⟩
        rw [HJ.out, HNK.out]
        show (if (S1.sync k).1 = 0 then _ else _) = _
        rw [if_pos HE.out]
      · have hne : (E != 0) = true := by simpa using hE0
        have HE0 := Lib.hid hE0
        clear hE0
        go_wp2_with fail
        refine HCALL.out.mono ?_
        rintro e w2 ⟨rfl, F2, hl2, hs2⟩
        have H2 := Lib.hid (HMR.out.step hs2 hl2)
        have HS2 := Lib.hid (HST.out.trans hs2)
        clear hl2 hs2 HCALL
        go_wp2_with fail
        go_ret
        have hR : syncG S N 0 = S1.sync k := by
          rw [HJ.out, HNK.out]
          show (if (S1.sync k).1 = 0 then _ else _) = _
          rw [if_neg (by rw [HE.out]; exact HE0.out)]
        unfold MSyncSpec
        rw [hR, HE.out]
        exact ⟨rfl, F2, H2.out, HS2.out⟩
    · have hkn : k = N := by omega
      subst hkn
      clear hmr hst
      go_wp2_with fail
      go_ret
      have hR : syncG S k 0 = (0, S1) := by
        rw [HJ.out, Nat.sub_self]; rfl
      unfold MSyncSpec
      rw [hR]
      exact ⟨rfl, F1, HMR.out, HST.out⟩
theorem set_same {w : World} {R j : Nat} {F : Nat → Prop} (hn : ¬ F R) (v : Value) : Same F w (w.setCell ⟨R, j, none⟩ v) := fun i hi => Below.heap_setCell w ⟨R, j, none⟩ v i (fun e => hn (by rw [← show i = R from e]; exact hi))
theorem set_pw {w : World} {p R j : Nat} {as_ : List Nat} {S : St} {F : Nat → Prop} (h : PwS w p as_ S F) (hn : ¬ F R) (v : Value) : PwS (w.setCell ⟨R, j, none⟩ v) p as_ S F := h.keep (set_same hn v) (by simp [World.setCell])
/-- the seal of bytes -/
def sealV (o : Int) (b : List UInt8) : Value := .agg #[.int .i64 o, .int .i64 (b.length : Int), .int .i64 (crcI b), .string (md5T b)]
def seal0 : Value := .agg #[.int .i64 0, .int .i64 0, .int .i64 0, .string ⟨#[]⟩]
def MLaySpec (w0 : World) (p G : Nat) (as_ : List Nat) (S : St) (m N : Nat) (o : Int) (b : List UInt8) (F : Nat → Prop) (w : World) (e : Ending) (w' : World) : Prop :=
  e = .returned (.tuple #[if (layG S o b N 0).1 = 0 then sealV o b else seal0, .int .i64 (layG S o b N 0).1]) ∧ ∃ F', Mr w0 w' p G as_ (layG S o b N 0).2 m F' ∧ Step F F' w w'
set_option maxRecDepth 100000 in
set_option maxHeartbeats 2000000 in
theorem lay_any (h : Mr w0 w p G as_ S m F) (hN : as_.length = N) (hN8 : N ≤ 8) (o : Int) (A : Option Addr) (b : List UInt8) (n c : Nat) (hn : b.length = n) (hn1 : 1 ≤ n) (hn2 : n ≤ 140737488355000) (ho : -9223372036854775808 ≤ o ∧ o ≤ 9223372036854775807)
    (hA : RdB w A b) (hAn : ∀ x, A = some x → ¬ F x.block) : Calls Try.prog 15 #[ob m, .int .i64 o, .slice A n c] w fun e w' => MLaySpec w0 p G as_ S m N o b F w e w' := by
  obtain ⟨g, cm, mc0, _⟩ := h.list hN
  have mc := below_cell ((Below.refl w.heap.size w).alloc (Nat.le_refl _) (.cells #[.int .i64 0, .int .i64 0, .int .i64 0, .string ⟨#[]⟩] 28)) mc0
  have hA0 : ∃ ad, A = some ad ∧ ad.block < w.heap.size := by
    obtain ⟨ad, e, hc⟩ := hA (by omega)
    have := World.block_lt_of_cell? _ _ (hc 0 (by omega))
    rw [block_of_add] at this
    exact ⟨ad, e, this⟩
  have HA0 := Lib.hid hA0
  have HM := Lib.hid h
  have HN := Lib.hid hN
  have HA := Lib.hid hA
  have HAN := Lib.hid hAn
  have HNN := Lib.hid hn
  have hg0 : ∀ (w1 : World) (F1 : Nat → Prop) (S1 : St), Mr w0 w1 p G as_ S1 m F1 → Step F F1 w w1 → ∀ k, k < N → ∃ d, as_[k]? = some d ∧ w1.cell? ⟨g, k, none⟩ = some (ob d) := fun w1 F1 S1 h1 hs k hk => by
    obtain ⟨g', c', mc', hc'⟩ := h1.list HN.out
    obtain ⟨_, _, hm1, _, hm3, _⟩ := HM.out.mir
    have := step_cell hs mc0 hm3
    rw [mc'] at this
    cases this
    exact hc' k hk
  have HG0 := Lib.hid hg0
  have hnz : ((n : Int) == 0) = false := by rw [beq_eq_false_iff_ne]; omega
  clear hg0 h hN hA hAn hn hA0 mc0
  go_enter Try.func15, Try.ntmps15
  go_wp2_with fail
  obtain ⟨W, hW⟩ : ∃ W, w.alloc (.cells #[.int .i64 0, .int .i64 0, .int .i64 0, .string ⟨#[]⟩] 28) = W := ⟨_, rfl⟩
  have HST0 : Hid (PwS W p as_ S F ∧ Step F F w W ∧ Blk W w.heap.size 28 #[.int .i64 0, .int .i64 0, .int .i64 0, .string ⟨#[]⟩] ∧ ¬ F w.heap.size) := Lib.hid (by
    have hb : Below w.heap.size w W := by rw [← hW]; exact (Below.refl _ _).alloc (Nat.le_refl _) _
    exact ⟨HM.out.lw.pw.below hb, Step.of_below hb F, by rw [← hW]; exact Blk.new _ _ _, HM.out.lw.notin (.inr (Nat.le_refl _))⟩)
  obtain ⟨R, hR⟩ : ∃ x, w.heap.size = x := ⟨_, rfl⟩
  have HRW := Lib.hid hR
  rw [hR] at HST0 ⊢
  rw [hW] at mc ⊢
  clear hW hR
  go_loopw [9, 10, 24] (fun _ _ i wr => ∃ k : Nat, i = .int .i64 (k : Int) ∧ k ≤ N ∧ Hid (∃ S1 F1, layG S o b N 0 = layG S1 o b (N - k) k ∧ PwS wr p as_ S1 F1 ∧ Step F F1 w wr ∧ Blk wr R 28 #[.int .i64 0, .int .i64 0, .int .i64 0, .string ⟨#[]⟩] ∧ ¬ F1 R)) (fun _ _ i _ => N - (RowKit.intOf i).toNat)
  case atStart => exact ⟨0, rfl, by omega, Lib.hid ⟨S, F, rfl, HST0.out⟩⟩
  case round =>
    clear HST0
    obtain ⟨k, rfl, hk, HJ⟩ := hrel
    obtain ⟨S1, F1, hJ, hpw, hst, hblk, hnr⟩ := HJ.out
    clear HJ
    have HJ := Lib.hid hJ
    have HPW := Lib.hid hpw
    have HST := Lib.hid hst
    have HBK := Lib.hid hblk
    have HNR := Lib.hid hnr
    clear hJ hblk hnr
    by_cases hlt : k < N
    · have hkn : (k : Int) < (N : Int) := by omega
      obtain ⟨d, hd, c1⟩ := HG0.out _ _ _ (HM.out.step hst hpw) hst k hlt
      have hcall := st_writeN hpw hd o A b n c HNN.out ho (by unfold maxLen; omega) (HA.out.step hst HAN.out) (fun x hx => by
        obtain ⟨ad, e, hl⟩ := HA0.out
        rw [hx] at e; cases e
        exact step_out hst hl (HAN.out x hx))
      obtain ⟨E, hE⟩ : ∃ E, (S1.write k o b).1 = E := ⟨_, rfl⟩
      unfold StSpec at hcall
      rw [hE] at hcall
      have HCALL := Lib.hid hcall
      have HE := Lib.hid hE
      have HNK : Hid (N - k = (N - (k + 1)) + 1) := Lib.hid (by omega)
      clear hpw hst hcall hE hd
      by_cases hE0 : E = 0
      · subst hE0
        go_wp2_with fail
        refine HCALL.out.mono ?_
        rintro e w2 ⟨rfl, F2, hl2, hs2⟩
        have H2 : Hid (PwS w2 p as_ (S1.write k o b).2 F2 ∧ Step F F2 w w2 ∧ Blk w2 R 28 #[.int .i64 0, .int .i64 0, .int .i64 0, .string ⟨#[]⟩] ∧ ¬ F2 R) := Lib.hid ⟨hl2, HST.out.trans hs2, HBK.out.step hs2 HNR.out, step_out hs2 HBK.out.lt HNR.out⟩
        clear hl2 hs2 HCALL
        go_wp2_with fail
        refine ⟨⟨k + 1, int_eq (by omega), by omega, Lib.hid ⟨_, _, ?_, H2.out⟩⟩, by simp [RowKit.intOf]; omega⟩
        rw [HJ.out, HNK.out]
        show (if (S1.write k o b).1 = 0 then _ else _) = _
        rw [if_pos HE.out]
      · have hne : (E != 0) = true := by simpa using hE0
        have HE0 := Lib.hid hE0
        clear hE0
        go_wp2_with fail
        refine HCALL.out.mono ?_
        rintro e w2 ⟨rfl, F2, hl2, hs2⟩
        have hbk2 := HBK.out.step hs2 HNR.out
        have H2 : Hid (PwS w2 p as_ (S1.write k o b).2 F2 ∧ Step F F2 w w2 ∧ Blk w2 R 28 #[.int .i64 0, .int .i64 0, .int .i64 0, .string ⟨#[]⟩] ∧ ¬ F2 R) := Lib.hid ⟨hl2, HST.out.trans hs2, hbk2, step_out hs2 HBK.out.lt HNR.out⟩
        have f0 := hbk2.frozen 0
        have f1 := hbk2.frozen 1
        have f2 := hbk2.frozen 2
        have f3 := hbk2.frozen 3
        have k1 := hbk2.set_ 0 (.int .i64 0)
        have k2 := k1.set_ 1 (.int .i64 0)
        have k3 := k2.set_ 2 (.int .i64 0)
        have k4 := k3.set_ 3 (.string ⟨#[]⟩)
        have r0 := hbk2.cell 0
        have r1 := hbk2.cell 1
        have r2 := hbk2.cell 2
        have r3 := hbk2.cell 3
        have t0 := k1.cell 0
        have t1 := k2.cell 1
        have t2 := k3.cell 2
        have t3 := k4.cell 3
        simp at r0 r1 r2 r3 t0 t1 t2 t3
        clear hl2 hs2 HCALL hbk2 k1 k2 k3 k4
        go_wp2_with fail
        try simp only [Exit.inBlock, Exit.then]
        refine bodyPost_ret (by simp [results, Try.results15, go_sem, t0, t1, t2, t3]; try rfl) rfl ?_
        have hR : layG S o b N 0 = S1.write k o b := by
          rw [HJ.out, HNK.out]
          show (if (S1.write k o b).1 = 0 then _ else _) = _
          rw [if_neg (by rw [HE.out]; exact HE0.out)]
        unfold MLaySpec
        rw [hR, HE.out, if_neg HE0.out]
        have hw := HRW.out
        have hst := (((H2.out.2.1.setCell (a := ⟨R, 0, none⟩) (.inr (by show w.heap.size ≤ R; omega)) (.int .i64 0)).setCell (a := ⟨R, 1, none⟩) (.inr (by show w.heap.size ≤ R; omega)) (.int .i64 0)).setCell (a := ⟨R, 2, none⟩) (.inr (by show w.heap.size ≤ R; omega)) (.int .i64 0)).setCell (a := ⟨R, 3, none⟩) (.inr (by show w.heap.size ≤ R; omega)) (.string ⟨#[]⟩)
        have hpw := set_pw (j := 3) (set_pw (j := 2) (set_pw (j := 1) (set_pw (j := 0) H2.out.1 H2.out.2.2.2 (.int .i64 0)) H2.out.2.2.2 (.int .i64 0)) H2.out.2.2.2 (.int .i64 0)) H2.out.2.2.2 (.string ⟨#[]⟩)
        exact ⟨rfl, F2, HM.out.step hst hpw, hst⟩
    · have hkn : k = N := by omega
      subst hkn
      obtain ⟨X, hX⟩ : ∃ X, crcI b = X := ⟨_, rfl⟩
      obtain ⟨Y, hY⟩ : ∃ Y, md5T b = Y := ⟨_, rfl⟩
      have hrd := HA.out.step hst HAN.out
      have HCR : Hid (Calls Try.prog 58 #[.slice A n c] wr fun e w' => e = .returned (.int .i64 X) ∧ wr = w') := Lib.hid (by
        rw [← hX]; exact Crc32_at A b n c wr HNN.out.symm (by unfold maxLen; omega) hrd)
      have HMD : Hid (Calls Try.prog 59 #[.slice A n c] wr fun e w' => e = .returned (.string Y) ∧ Below wr.heap.size wr w') := Lib.hid (by
        have hn := HNN.out
        subst hn; rw [← hY]; exact Md5_any A b c wr hn2 hrd)
      have HXY := Lib.hid (And.intro hX hY)
      clear hst hpw hrd hX hY
      go_wp2_with fail
      refine HCR.out.mono ?_
      rintro e _ ⟨rfl, rfl⟩
      go_wp2_with fail
      refine HMD.out.mono ?_
      rintro e w2 ⟨rfl, hb2⟩
      have hbk2 := HBK.out.below_ hb2
      have H2 : Hid (PwS w2 p as_ S1 F1 ∧ Step F F1 w w2 ∧ ¬ F1 R) := Lib.hid ⟨HPW.out.below hb2, HST.out.then_below hb2, HNR.out⟩
      have f0 := hbk2.frozen 0
      have f1 := hbk2.frozen 1
      have f2 := hbk2.frozen 2
      have f3 := hbk2.frozen 3
      have k1 := hbk2.set_ 0 (.int .i64 o)
      have k2 := k1.set_ 1 (.int .i64 (n : Int))
      have k3 := k2.set_ 2 (.int .i64 X)
      have k4 := k3.set_ 3 (.string Y)
      have r0 := hbk2.cell 0
      have r1 := hbk2.cell 1
      have r2 := hbk2.cell 2
      have r3 := hbk2.cell 3
      have t0 := k1.cell 0
      have t1 := k2.cell 1
      have t2 := k3.cell 2
      have t3 := k4.cell 3
      simp at r0 r1 r2 r3 t0 t1 t2 t3
      clear hbk2 k1 k2 k3 k4 hb2 HMD HCR
      go_wp2_with fail
      try simp only [Exit.inBlock, Exit.then]
      refine bodyPost_ret (by simp [results, Try.results15, go_sem, t0, t1, t2, t3]; try rfl) rfl ?_
      have hR : layG S o b k 0 = (0, S1) := by
        rw [HJ.out, Nat.sub_self]; rfl
      unfold MLaySpec
      rw [hR, if_pos rfl]
      have hw := HRW.out
      have hst := (((H2.out.2.1.setCell (a := ⟨R, 0, none⟩) (.inr (by show w.heap.size ≤ R; omega)) (.int .i64 o)).setCell (a := ⟨R, 1, none⟩) (.inr (by show w.heap.size ≤ R; omega)) (.int .i64 (n : Int))).setCell (a := ⟨R, 2, none⟩) (.inr (by show w.heap.size ≤ R; omega)) (.int .i64 X)).setCell (a := ⟨R, 3, none⟩) (.inr (by show w.heap.size ≤ R; omega)) (.string Y)
      have hpw := set_pw (j := 3) (set_pw (j := 2) (set_pw (j := 1) (set_pw (j := 0) H2.out.1 H2.out.2.2 (.int .i64 o)) H2.out.2.2 (.int .i64 (n : Int))) H2.out.2.2 (.int .i64 X)) H2.out.2.2 (.string Y)
      refine ⟨?_, F1, HM.out.step hst hpw, hst⟩
      unfold sealV
      rw [HXY.out.1, HXY.out.2, HNN.out]
end
end Go.Proofs.Ytoompglghjpapaa
