/-
  Walk: Commit of package journal.
-/
import Derived.Test.YtjmhfjioccljeaaJrH
import Derived.Deep.DeepMust
namespace Go.Proofs.Ytjmhfjioccljeaa
open Go.RowKit
set_option linter.unusedVariables false
set_option linter.unusedSimpArgs false
attribute [local go_sem ↓] Go.wp_at_zero Go.wp_at_succ

theorem jclone_any (w : World) (A : Option Addr) (l : List UInt8) (n c : Nat) (hn : n = l.length) (hl : l.length ≤ 140737488355328) (h : RdB w A l) :
    Calls Try.prog 66 #[.slice A n c] w fun e w' => CloneSpec l n w e w' := by
  cases A with
  | some ad => exact clone_any ad l n c w hn hl h
  | none =>
    have h0 : l = [] := by
      cases l with
      | nil => rfl
      | cons x l => obtain ⟨_, e, _⟩ := h (by simp); cases e
    subst h0
    subst hn
    refine (Try.bytes_Clone_nil 0 c w).mono ?_
    rintro e w' ⟨rfl, rfl⟩
    exact ⟨none, 0, rfl, OwnB.nil _ _, Below.refl _ _⟩
section
variable {w w' : World} {p k d j : Nat} {as_ : List Nat} {S : St} {J : Js} {H : Nat → Prop}
set_option maxRecDepth 100000 in
set_option maxHeartbeats 4000000 in
theorem jcommit_any (h : JPs w p as_ S k d j J H) :
    Calls Try.prog 15 #[ob j] w fun e w' => JPSpec p as_ k d j (J.commit S k) (commitF J S k) H w e w' := by
  obtain ⟨h0, hO, F, G, h1, h2, hd, rfl⟩ := h
  have hG := Lib.hid h2
  obtain ⟨A, c, B, cB, h, rfl⟩ := h2
  obtain ⟨c0, c1, c2', c3, c4, c5, c6⟩ := h.cells
  have hsec := hO.secM
  have hfill := hO.fill
  have hpl := hO.place
  have hsz := hO.size
  have hgen := hO.genM
  have hfirst : J.first ≤ 2097152 := by omega
  have HO := Lib.hid hO
  have H0 := Lib.hid h0
  have HD := Lib.hid hd
  have HH := Lib.hid h
  have HP := Lib.hid h1
  have HNF : Hid (¬ F j) := Lib.hid (fun hf => hd j hf (.inl rfl))
  obtain ⟨sl, hsl⟩ : ∃ sl, J.stream.length = sl := ⟨_, rfl⟩
  obtain ⟨wl, hwl⟩ : ∃ wl, J.wait.length = wl := ⟨_, rfl⟩
  obtain ⟨N, hN⟩ : ∃ N, N = (J.stream ++ J.wait).length := ⟨_, rfl⟩
  have hN2 : N = sl + wl := by rw [hN, List.length_append, hsl, hwl]
  have hN3 : N ≤ 238000 := by omega
  rw [hsl] at c4
  rw [hwl] at c5
  have HSL := Lib.hid hsl
  have HWL := Lib.hid hwl
  have HN := Lib.hid hN
  have HN2 := Lib.hid hN2
  have HCL : Hid (∀ W, RdB W A J.stream → Calls Try.prog 66 #[.slice A sl c] W fun e w' => CloneSpec J.stream sl W e w') := Lib.hid (fun W hW => jclone_any W A J.stream sl c hsl.symm (by omega) hW)
  have hsl3 : sl ≤ 238000 := by omega
  have hwl3 : wl ≤ 238000 := by omega
  clear h0 hO h1 h hd hN hN2 hsl hwl hfill
  go_enter Try.func15, Try.ntmps15
  go_wp2_with fail
  go_region_held3 (fun W : World => W.cell? ⟨j, 4, none⟩ = some (.slice A sl c) ∧ W.cell? ⟨j, 5, none⟩ = some (.slice B wl cB)) (first | exact ⟨c4, c5⟩ | exact ⟨below_cell hb1 c4, below_cell hb1 c5⟩ | exact ⟨below_cell hb2 c4, below_cell hb2 c5⟩) (first | (go_at_call 66; refine (HCL.out _ (HH.out.st.drew)).mono ?_; rintro e w1 ⟨A1, c1', rfl, hown1, hb1⟩) | ((refine step_appRd rfl (.tmp 13) (.tmp 17) rfl w.heap.size A1 sl c1' J.stream rfl HSL.out.symm hown1 B wl cB J.wait rfl HWL.out.symm ((OwnB.rd HH.out.wt).drew.below hb1) (by rw [HSL.out, HWL.out]; omega) (by exact hb1.size) ?_; intro A2 c2 w2 hown2 hg2; have hb2 : Below w.heap.size w w2 := (below_drew_trans hb1).grown hg2 hb1.size (fun q hq => (OwnR.lt hown1 q hq).1))))
  rw [HSL.out, HWL.out, ← HN2.out]
  have HOW : Hid (OwnB w2 w.heap.size A2 c2 (J.stream ++ J.wait)) := Lib.hid hown2
  have HB2 := Lib.hid hb2
  have hNc : N ≤ c2 := by
    have := OwnR.cap hown2
    rw [HN.out]; exact this
  have HNC := Lib.hid hNc
  have HAG : Hid (∀ b, blk A2 = some b → w.heap.size ≤ b) := Lib.hid (fun b hb => (OwnR.lt hown2 b hb).1)
  have HAL2 : Hid (∀ b, blk A2 = some b → b < w2.heap.size) := Lib.hid (fun b hb => (OwnR.lt hown2 b hb).2)
  have HNJ : Hid (blk A2 ≠ some j) := Lib.hid (fun e => by have h1 := HAG.out j e; have h2 := HH.out.self.lt; omega)
  have HNT2 : Hid (∀ ad, A2 = some ad → ¬ F ad.block) := Lib.hid (fun ad e hf => by
    have h1 := HAG.out ad.block (by rw [e]; rfl)
    have h2 := HP.out.lt _ hf
    omega)
  have d5 := below_cell hb2 c5
  have d4 := below_cell hb2 c4
  have hb2s := hb2.size
  clear hown2 hown1 hb1 hg2 hb2 hNc c4 c5 c6 c0 c1 c2' c3
  by_cases hw0 : wl = 0
  · have hwe : J.wait = [] := List.eq_nil_of_length_eq_zero (by rw [HWL.out]; exact hw0)
    have HCW : Hid (commitW J S k = (0, S)) := Lib.hid (by
      unfold commitW commitN
      rw [if_pos hwe]; rfl)
    clear hwe
    subst hw0
    have HPT : Hid (PwS w2 p as_ S F) := Lib.hid (HP.out.below HB2.out)
    have HST : Hid (Step F F w w2) := Lib.hid (Step.of_below HB2.out F)
    have HBT : Hid (Blk w2 j 108 #[ob d, .int .i64 (J.first : Int), .int .i64 (J.sectors : Int), .int .i64 (J.gen : Int), .slice A J.stream.length c, .slice B J.wait.length cB, .int .i64 (J.waiting : Int)]) := Lib.hid (HH.out.self.below_ HB2.out)
    have HDT : Hid (Dis F (jrF j A B)) := HD
    have HRT : Hid (RdB w2 A2 (J.stream ++ J.wait)) := Lib.hid HOW.out.rd
    have HNT : Hid (∀ ad, A2 = some ad → ¬ F ad.block) := HNT2
    have HAL : Hid (∀ b, blk A2 = some b → b < w2.heap.size) := HAL2
    have hsy := st_sync HPT.out H0.out
    obtain ⟨E2, hE2⟩ : ∃ E2, (S.sync k).1 = E2 := ⟨_, rfl⟩
    obtain ⟨T3, hT3⟩ : ∃ T3, (S.sync k).2 = T3 := ⟨_, rfl⟩
    have hCF : commitF J S k = (E2, T3) := by
      unfold commitF
      rw [HCW.out, if_neg (by simp), ← hE2, ← hT3]
    have HCF := Lib.hid hCF
    have HSY : Hid (Calls Try.prog 70 #[ob d] w2 fun e w' => StSpec p as_ F (E2, T3) w2 e w') := Lib.hid (by
      rw [show S.sync k = (E2, T3) from by rw [← hE2, ← hT3]] at hsy
      exact hsy)
    clear hCF hE2 hT3 hsy
    have t0 : w2.cell? ⟨j, 0, none⟩ = some (ob d) := HBT.out.cell 0
    go_wp2_with fail
    refine HSY.out.mono ?_
    rintro e w5 ⟨rfl, F5, hp5, hst5⟩
    have HP5 := Lib.hid hp5
    have HS5 := Lib.hid hst5
    have hsz5 : (T3.at_ k).size = (S.at_ k).size := by
      have := commitF_size J S k
      rw [HCF.out] at this; exact this
    have HSZ5 := Lib.hid hsz5
    have HJ5 : Hid (Blk w5 j 108 #[ob d, .int .i64 (J.first : Int), .int .i64 (J.sectors : Int), .int .i64 (J.gen : Int), .slice A J.stream.length c, .slice B J.wait.length cB, .int .i64 (J.waiting : Int)]) := Lib.hid (HBT.out.step HS5.out (fun hf => HDT.out j hf (.inl rfl)))
    have HR5 : Hid (RdB w5 A2 (J.stream ++ J.wait)) := Lib.hid (HRT.out.step HS5.out (fun ad e => HNT.out ad e))
    have HST5 : Hid (Step F F5 w w5) := Lib.hid (HST.out.trans HS5.out)
    clear hp5 hst5 t0 hsz5
    have hd5 : Dis F5 (jrF j A B) := HST5.out.dis HD.out HH.out.lt_
    obtain ⟨r1, r2⟩ := JPs.disks (J := J) H0.out (by rw [HSZ5.out]; exact HO.out) HP5.out hG.out HD.out HST5.out
    have HR1 := Lib.hid (And.intro r1 r2)
    have HD5 := Lib.hid hd5
    clear r1 r2 hd5
    by_cases hz2 : E2 = 0
    · subst hz2
      have u4 : w5.cell? ⟨j, 4, none⟩ = some (.slice A J.stream.length c) := HJ5.out.cell 4
      have f4 := HJ5.out.frozen 4
      have HJR : Hid (JrR (w5.setCell ⟨j, 4, none⟩ (.slice A2 N c2)) j d ⟨J.first, J.sectors, J.gen, J.stream ++ J.wait, J.wait, J.waiting⟩ (jrF j A2 B)) := Lib.hid (by
        have hw5 : OwnB w5 0 B cB J.wait := OwnR.block HH.out.wt fun b hb => HST5.out.block b (OwnR.lt HH.out.wt b hb).2 fun hf => HD.out b hf (.inr (.inr hb))
        have hb := HJ5.out.set_ 4 (.slice A2 N c2)
        have h3 : (w5.setCell ⟨j, 4, none⟩ (.slice A2 N c2)).heap.size = w5.heap.size := by simp [World.setCell]
        refine ⟨A2, c2, B, cB, ⟨hb.lit (by rw [HN.out]; rfl), HR5.out.keep (fun ad e => Below.heap_setCell _ _ _ _ (fun e2 => HNJ.out (by rw [e]; exact congrArg some e2))), ?_, fun b hb => ?_, OwnB.far_ hw5 HH.out.nb 4 _, HNJ.out, fun b hb e => ?_⟩, rfl⟩
        · show (J.stream ++ J.wait).length ≤ c2
          rw [← HN.out]; exact HNC.out
        · have h1 := HAL.out b hb
          have h2 := HS5.out.size
          omega
        · have h1 := HAG.out b hb
          have h2 := (OwnR.lt HH.out.wt b e).2
          omega)
      have HC : Hid (Calls Try.prog 20 #[ob j] (w5.setCell ⟨j, 4, none⟩ (.slice A2 N c2)) fun e w' => J0Spec j d ⟨J.first, J.sectors, J.gen, J.stream ++ J.wait, [], 0⟩ (jrF j A2 B) (w5.setCell ⟨j, 4, none⟩ (.slice A2 N c2)) e w') := Lib.hid (jcancel_any HJR.out)
      have HS4 : Hid (Step (Un F (jrF j A B)) (Un F5 (jrF j A2 B)) w (w5.setCell ⟨j, 4, none⟩ (.slice A2 N c2))) := Lib.hid ((Step.setCell (a := ⟨j, 4, none⟩) HR1.out.2 (.inl (.inr (.inl rfl))) _).regroup fun i hi => by
        rcases hi with hi | hi | hi | hi
        · exact .inl (.inl hi)
        · exact .inl (.inr (.inl hi))
        · exact .inr (HAG.out i hi)
        · exact .inl (.inr (.inr (.inr hi))))
      have HP4 : Hid (PwS (w5.setCell ⟨j, 4, none⟩ (.slice A2 N c2)) p as_ T3 F5) := Lib.hid (HP5.out.keep (fun i hi => Below.heap_setCell _ _ _ _ (fun e => HD5.out i hi (.inl (by exact e)))) (by simp [World.setCell]))
      have HD4 : Hid (Dis F5 (jrF j A2 B)) := Lib.hid (fun i h1 h2 => by
        rcases h2 with h2 | h2 | h2
        · exact HD5.out i h1 (.inl h2)
        · obtain ⟨ad, e, e3⟩ : ∃ ad, A2 = some ad ∧ ad.block = i := by
            cases hA : A2 with
            | none => rw [hA] at h2; simp [blk] at h2
            | some ad => rw [hA] at h2; exact ⟨ad, rfl, by simpa [blk] using h2⟩
          rcases HS5.out.fresh i h1 with h3 | h3
          · exact HNT.out ad e (by rw [e3]; exact h3)
          · have := HAL.out i h2; omega
        · exact HD5.out i h1 (.inr (.inr h2)))
      go_wp2_with fail
      refine HC.out.mono ?_
      rintro e w6 ⟨rfl, G6, hj6, hst6⟩
      go_wp2_with fail
      go_returns
      have hJc : J.commit S k = ⟨J.first, J.sectors, J.gen, J.stream ++ J.wait, [], 0⟩ := by unfold Js.commit; rw [HCF.out, if_pos rfl]
      have hOc := HO.out.commit S k
      rw [HCF.out, hJc]
      rw [hJc] at hOc
      obtain ⟨t1, t2⟩ := JPs.turn (J' := ⟨J.first, J.sectors, J.gen, J.stream ++ J.wait, [], 0⟩) H0.out (by rw [HSZ5.out]; exact hOc) HP4.out HD4.out hj6 hst6
      exact ⟨rfl, _, t1, HS4.out.trans t2⟩
    · have hne : (E2 != 0) = true := by simpa using hz2
      have HZ2 := Lib.hid hz2
      clear hz2
      go_wp2_with fail
      go_returns
      have hJc : J.commit S k = J := by unfold Js.commit; rw [HCF.out, if_neg HZ2.out]
      rw [HCF.out, hJc]
      exact ⟨rfl, _, HR1.out.1, HR1.out.2⟩
  · have hw1 : (0 : Int) < (wl : Int) := by omega
    have hdv : (sl : Int).tdiv 119 = ((sl / 119 : Nat) : Int) := by rw [Int.tdiv_eq_ediv_of_nonneg (by omega)]; omega
    obtain ⟨i0, hi0⟩ : ∃ i0, sl / 119 = i0 := ⟨_, rfl⟩
    have hi0b : i0 ≤ 2000 := by omega
    have hi0i : (sl : Int) / 119 = (i0 : Int) := by omega
    obtain ⟨tot, htot⟩ : ∃ tot, (N + 118) / 119 = tot := ⟨_, rfl⟩
    obtain ⟨at_, hat⟩ : ∃ a, areaN J.first J.sectors J.gen = a := ⟨_, rfl⟩
    obtain ⟨ss, hss⟩ : ∃ ss, J.stream ++ J.wait = ss := ⟨_, rfl⟩
    have hat2 : at_ ≤ 2097152 := by rw [← hat]; exact Nat.le_trans (areaN_le hpl) hsz
    have HCW0 : Hid (commitW J S k = commitL S k at_ J.gen ss (tot - i0) i0) := Lib.hid (by
      have h1 : J.wait ≠ [] := fun e => by
        have := HWL.out
        rw [e] at this
        simp at this; omega
      unfold commitW commitN
      rw [if_neg h1, ← HN.out, HSL.out, hi0, hat, hss, htot])
    have hto : tot ≤ 2000 ∧ i0 ≤ tot := by
      have h1 := HO.out.fill
      rw [HSL.out, HWL.out] at h1
      have h2 := HN2.out
      omega
    obtain ⟨htot2, htot3⟩ := hto
    have HTOT := Lib.hid htot
    have HAT := Lib.hid hat
    have HSS := Lib.hid hss
    have HOS : Hid (OwnB w2 w.heap.size A2 c2 ss) := Lib.hid (by rw [← hss]; exact HOW.out)
    have HNS : Hid (ss.length = N) := Lib.hid (by rw [HN.out, hss])
    have hnc := HNC.out
    have HI0 := Lib.hid hi0i
    clear htot hat hss hi0 hi0i
    have hi0i := HI0.out
    go_wp2_with fail
    clear hi0i hdv
    go_loopw [4] (fun i wr => ∃ (t n : Nat) (T : St) (F1 : Nat → Prop), i = .int .i64 (t : Int) ∧ t + n = tot ∧ Hid (PwS wr p as_ T F1 ∧ Step F F1 w2 wr ∧ commitW J S k = commitL T k at_ J.gen ss n t)) (fun i _ => tot - (RowKit.intOf i).toNat)
    case atStart => exact ⟨i0, tot - i0, S, F, rfl, by omega, Lib.hid ⟨HP.out.below HB2.out, Step.refl _ _, HCW0.out⟩⟩
    case round =>
      obtain ⟨t, n, T, F1, rfl, htn, HJ⟩ := hrel
      have htn2 : t ≤ tot := by omega
      have HTN := Lib.hid htn
      clear htn
      have HST2 : Hid (Step F F1 w wr) := Lib.hid ((Step.of_below HB2.out F).trans HJ.out.2.1)
      have HBT : Hid (Blk wr j 108 #[ob d, .int .i64 (J.first : Int), .int .i64 (J.sectors : Int), .int .i64 (J.gen : Int), .slice A J.stream.length c, .slice B J.wait.length cB, .int .i64 (J.waiting : Int)]) := Lib.hid (HH.out.self.step HST2.out HNF.out)
      have HDT : Hid (Dis F1 (jrF j A B)) := Lib.hid (HST2.out.dis HD.out HH.out.lt_)
      have HNT : Hid (∀ ad, A2 = some ad → ¬ F1 ad.block) := Lib.hid (fun ad e hf => by
        rcases HJ.out.2.1.fresh _ hf with h1 | h1
        · exact HNT2.out ad e h1
        · have := HAL2.out ad.block (by rw [e]; rfl); omega)
      have HRS : Hid (RdB wr A2 ss) := Lib.hid (HOS.out.rd.step HJ.out.2.1 (fun ad e => HNT2.out ad e))
      by_cases hn : n = 0
      · subst hn
        have htt : t = tot := HTN.out
        subst htt
        have hend : (N : Int) ≤ (t : Int) * 119 := by have := HTOT.out; omega
        have HPT : Hid (PwS wr p as_ T F1) := Lib.hid HJ.out.1
        have HST : Hid (Step F F1 w wr) := HST2
        have HRT : Hid (RdB wr A2 (J.stream ++ J.wait)) := Lib.hid (by rw [HSS.out]; exact HRS.out)
        have HAL : Hid (∀ b, blk A2 = some b → b < wr.heap.size) := Lib.hid (fun b hb => Nat.lt_of_lt_of_le (HAL2.out b hb) HJ.out.2.1.size)
        have HCW : Hid (commitW J S k = (0, T)) := Lib.hid HJ.out.2.2
        have hsy := st_sync HPT.out H0.out
        obtain ⟨E2, hE2⟩ : ∃ E2, (T.sync k).1 = E2 := ⟨_, rfl⟩
        obtain ⟨T3, hT3⟩ : ∃ T3, (T.sync k).2 = T3 := ⟨_, rfl⟩
        have hCF : commitF J S k = (E2, T3) := by
          unfold commitF
          rw [HCW.out, if_neg (by simp), ← hE2, ← hT3]
        have HCF := Lib.hid hCF
        have HSY : Hid (Calls Try.prog 70 #[ob d] wr fun e w' => StSpec p as_ F1 (E2, T3) wr e w') := Lib.hid (by
          rw [show T.sync k = (E2, T3) from by rw [← hE2, ← hT3]] at hsy
          exact hsy)
        clear hCF hE2 hT3 hsy
        have t0 : wr.cell? ⟨j, 0, none⟩ = some (ob d) := HBT.out.cell 0
        go_wp2_with fail
        refine HSY.out.mono ?_
        rintro e w5 ⟨rfl, F5, hp5, hst5⟩
        have HP5 := Lib.hid hp5
        have HS5 := Lib.hid hst5
        have hsz5 : (T3.at_ k).size = (S.at_ k).size := by
          have := commitF_size J S k
          rw [HCF.out] at this; exact this
        have HSZ5 := Lib.hid hsz5
        have HJ5 : Hid (Blk w5 j 108 #[ob d, .int .i64 (J.first : Int), .int .i64 (J.sectors : Int), .int .i64 (J.gen : Int), .slice A J.stream.length c, .slice B J.wait.length cB, .int .i64 (J.waiting : Int)]) := Lib.hid (HBT.out.step HS5.out (fun hf => HDT.out j hf (.inl rfl)))
        have HR5 : Hid (RdB w5 A2 (J.stream ++ J.wait)) := Lib.hid (HRT.out.step HS5.out (fun ad e => HNT.out ad e))
        have HST5 : Hid (Step F F5 w w5) := Lib.hid (HST.out.trans HS5.out)
        clear hp5 hst5 t0 hsz5
        have hd5 : Dis F5 (jrF j A B) := HST5.out.dis HD.out HH.out.lt_
        obtain ⟨r1, r2⟩ := JPs.disks (J := J) H0.out (by rw [HSZ5.out]; exact HO.out) HP5.out hG.out HD.out HST5.out
        have HR1 := Lib.hid (And.intro r1 r2)
        have HD5 := Lib.hid hd5
        clear r1 r2 hd5
        by_cases hz2 : E2 = 0
        · subst hz2
          have u4 : w5.cell? ⟨j, 4, none⟩ = some (.slice A J.stream.length c) := HJ5.out.cell 4
          have f4 := HJ5.out.frozen 4
          have HJR : Hid (JrR (w5.setCell ⟨j, 4, none⟩ (.slice A2 N c2)) j d ⟨J.first, J.sectors, J.gen, J.stream ++ J.wait, J.wait, J.waiting⟩ (jrF j A2 B)) := Lib.hid (by
            have hw5 : OwnB w5 0 B cB J.wait := OwnR.block HH.out.wt fun b hb => HST5.out.block b (OwnR.lt HH.out.wt b hb).2 fun hf => HD.out b hf (.inr (.inr hb))
            have hb := HJ5.out.set_ 4 (.slice A2 N c2)
            have h3 : (w5.setCell ⟨j, 4, none⟩ (.slice A2 N c2)).heap.size = w5.heap.size := by simp [World.setCell]
            refine ⟨A2, c2, B, cB, ⟨hb.lit (by rw [HN.out]; rfl), HR5.out.keep (fun ad e => Below.heap_setCell _ _ _ _ (fun e2 => HNJ.out (by rw [e]; exact congrArg some e2))), ?_, fun b hb => ?_, OwnB.far_ hw5 HH.out.nb 4 _, HNJ.out, fun b hb e => ?_⟩, rfl⟩
            · show (J.stream ++ J.wait).length ≤ c2
              rw [← HN.out]; exact HNC.out
            · have h1 := HAL.out b hb
              have h2 := HS5.out.size
              omega
            · have h1 := HAG.out b hb
              have h2 := (OwnR.lt HH.out.wt b e).2
              omega)
          have HC : Hid (Calls Try.prog 20 #[ob j] (w5.setCell ⟨j, 4, none⟩ (.slice A2 N c2)) fun e w' => J0Spec j d ⟨J.first, J.sectors, J.gen, J.stream ++ J.wait, [], 0⟩ (jrF j A2 B) (w5.setCell ⟨j, 4, none⟩ (.slice A2 N c2)) e w') := Lib.hid (jcancel_any HJR.out)
          have HS4 : Hid (Step (Un F (jrF j A B)) (Un F5 (jrF j A2 B)) w (w5.setCell ⟨j, 4, none⟩ (.slice A2 N c2))) := Lib.hid ((Step.setCell (a := ⟨j, 4, none⟩) HR1.out.2 (.inl (.inr (.inl rfl))) _).regroup fun i hi => by
            rcases hi with hi | hi | hi | hi
            · exact .inl (.inl hi)
            · exact .inl (.inr (.inl hi))
            · exact .inr (HAG.out i hi)
            · exact .inl (.inr (.inr (.inr hi))))
          have HP4 : Hid (PwS (w5.setCell ⟨j, 4, none⟩ (.slice A2 N c2)) p as_ T3 F5) := Lib.hid (HP5.out.keep (fun i hi => Below.heap_setCell _ _ _ _ (fun e => HD5.out i hi (.inl (by exact e)))) (by simp [World.setCell]))
          have HD4 : Hid (Dis F5 (jrF j A2 B)) := Lib.hid (fun i h1 h2 => by
            rcases h2 with h2 | h2 | h2
            · exact HD5.out i h1 (.inl h2)
            · obtain ⟨ad, e, e3⟩ : ∃ ad, A2 = some ad ∧ ad.block = i := by
                cases hA : A2 with
                | none => rw [hA] at h2; simp [blk] at h2
                | some ad => rw [hA] at h2; exact ⟨ad, rfl, by simpa [blk] using h2⟩
              rcases HS5.out.fresh i h1 with h3 | h3
              · exact HNT.out ad e (by rw [e3]; exact h3)
              · have := HAL.out i h2; omega
            · exact HD5.out i h1 (.inr (.inr h2)))
          go_wp2_with fail
          refine HC.out.mono ?_
          rintro e w6 ⟨rfl, G6, hj6, hst6⟩
          go_wp2_with fail
          go_returns
          have hJc : J.commit S k = ⟨J.first, J.sectors, J.gen, J.stream ++ J.wait, [], 0⟩ := by unfold Js.commit; rw [HCF.out, if_pos rfl]
          have hOc := HO.out.commit S k
          rw [HCF.out, hJc]
          rw [hJc] at hOc
          obtain ⟨t1, t2⟩ := JPs.turn (J' := ⟨J.first, J.sectors, J.gen, J.stream ++ J.wait, [], 0⟩) H0.out (by rw [HSZ5.out]; exact hOc) HP4.out HD4.out hj6 hst6
          exact ⟨rfl, _, t1, HS4.out.trans t2⟩
        · have hne : (E2 != 0) = true := by simpa using hz2
          have HZ2 := Lib.hid hz2
          clear hz2
          go_wp2_with fail
          go_returns
          have hJc : J.commit S k = J := by unfold Js.commit; rw [HCF.out, if_neg HZ2.out]
          rw [HCF.out, hJc]
          exact ⟨rfl, _, HR1.out.1, HR1.out.2⟩
      · obtain ⟨n, rfl⟩ : ∃ m, n = m + 1 := ⟨n - 1, by omega⟩
        have hlt : (t : Int) * 119 < (N : Int) := by have := HTOT.out; have := HTN.out; omega
        obtain ⟨sc_, hsc⟩ : ∃ x, secL J.gen t ss = x := ⟨_, rfl⟩
        have hscl : sc_.length = 128 := by rw [← hsc]; exact secL_length _ _ _
        obtain ⟨E, hE⟩ : ∃ E, (T.write k ((at_ + t * 128 : Nat) : Int) sc_).1 = E := ⟨_, rfl⟩
        obtain ⟨T2, hT2⟩ : ∃ T2, (T.write k ((at_ + t * 128 : Nat) : Int) sc_).2 = T2 := ⟨_, rfl⟩
        have HSTEP : Hid (commitW J S k = if E = 0 then commitL T2 k at_ J.gen ss n (t + 1) else (E, T2)) := Lib.hid (by
          rw [HJ.out.2.2, commitL, hsc, hE, hT2]
          split
          · rfl
          · rw [← hE, ← hT2])
        have e0 : wr.cell? ⟨j, 0, none⟩ = some (ob d) := HBT.out.cell 0
        have e3 : wr.cell? ⟨j, 3, none⟩ = some (.int .i64 (J.gen : Int)) := HBT.out.cell 3
        have HAR : Hid (∀ W, Below wr.heap.size wr W → Calls Try.prog 68 #[ob j, .int .i64 (J.gen : Int)] W fun e w' => e = .returned (.int .i64 (at_ : Nat)) ∧ Below W.heap.size W w' ∧ Below wr.heap.size wr w') := Lib.hid (fun W hW => by
          have := jarea_any W j J.first J.sectors J.gen ((below_cell hW (HBT.out.cell 1))) ((below_cell hW (HBT.out.cell 2))) hfirst hsec (by omega)
          rw [HAT.out] at this
          refine this.mono ?_
          rintro e w' ⟨rfl, hb⟩
          exact ⟨rfl, hb, hW.trans (hb.mono hW.size)⟩)
        have HSE : Hid (∀ W, Below wr.heap.size wr W → Calls Try.prog 69 #[.int .i64 (J.gen : Int), .int .i64 (t : Int), .slice A2 N c2] W fun e w' => ∃ A' c', e = .returned (.slice A' 128 c') ∧ RdB w' A' sc_ ∧ (∀ ad, A' = some ad → wr.heap.size ≤ ad.block) ∧ Below W.heap.size W w' ∧ Below wr.heap.size wr w') := Lib.hid (fun W hW => by
          refine (jsector_any W J.gen t A2 c2 ss N HNS.out (by omega) hnc hgen (by omega) (HRS.out.below hW)).mono ?_
          rintro e w' ⟨A', c', rfl, hown, hb⟩
          rw [hsc] at hown
          exact ⟨A', c', rfl, hown.rd, fun ad e => Nat.le_trans hW.size (OwnR.lt hown ad.block (by rw [e]; rfl)).1, hb, hW.trans (hb.mono hW.size)⟩)
        have HWR : Hid (∀ W A' c', Below wr.heap.size wr W → RdB W A' sc_ → (∀ ad, A' = some ad → wr.heap.size ≤ ad.block) → Calls Try.prog 67 #[ob d, .int .i64 ((at_ : Int) + (t : Int) * 128), .slice A' 128 c'] W fun e w' => e = .returned (.int .i64 E) ∧ ∃ F4, PwS w' p as_ T2 F4 ∧ Step F1 F4 wr w') := Lib.hid (fun W A' c' hW hr hf => by
          have := st_writeN (HJ.out.1.below hW) H0.out ((at_ : Int) + (t : Int) * 128) A' sc_ 128 c' hscl (by omega) (by decide) hr (fun ad e hf2 => by have h1 := hf ad e; have h2 := HJ.out.1.lt _ hf2; omega)
          refine this.mono ?_
          rintro e w' ⟨rfl, F4, hp4, hst4⟩
          rw [show (at_ : Int) + (t : Int) * 128 = ((at_ + t * 128 : Nat) : Int) by omega, hE]
          rw [show (at_ : Int) + (t : Int) * 128 = ((at_ + t * 128 : Nat) : Int) by omega, hT2] at hp4
          exact ⟨rfl, F4, hp4, (Step.of_below hW F1).trans hst4⟩)
        have HFJ : Hid (¬ F1 j) := Lib.hid (fun hf => HDT.out j hf (.inl rfl))
        clear hsc hscl hE hT2
        go_wp2_with fail
        have hm1 : IntKind.i64.wrap ((t : Int) * 128) = (t : Int) * 128 := by rw [IntKind.wrap_i64]; omega
        have hm2 : IntKind.i64.wrap ((at_ : Int) + (t : Int) * 128) = (at_ : Int) + (t : Int) * 128 := by rw [IntKind.wrap_i64]; omega
        go_region_held3 (fun W : World => W.cell? ⟨j, 0, none⟩ = some (ob d) ∧ W.cell? ⟨j, 3, none⟩ = some (.int .i64 (J.gen : Int))) (first | exact ⟨e0, e3⟩ | exact ⟨below_cell hbA2 e0, below_cell hbA2 e3⟩ | exact ⟨below_cell hbS2 e0, below_cell hbS2 e3⟩ | exact ⟨step_cell hst4 e0 HFJ.out, step_cell hst4 e3 HFJ.out⟩) (first | (go_at_call 68; refine (HAR.out _ (by first | exact hbS2 | exact (Below.refl _ _).drew)).mono ?_; rintro e wA ⟨rfl, hbA, hbA2⟩) | (go_at_call 69; refine (HSE.out _ (by first | exact hbA2 | exact (Below.refl _ _).drew)).mono ?_; rintro e wS ⟨A', c', rfl, hrS, hfS, hbS, hbS2⟩) | (go_at_call 67; refine (HWR.out _ A' c' (by first | exact hbA2 | exact hbS2) (by first | exact hrS | exact hrS.below hbA) hfS).mono ?_; rintro e w4 ⟨rfl, F4, hp4, hst4⟩))
        all_goals
          clear hm1 hm2
          have HP4 := Lib.hid hp4
          have HS4 := Lib.hid hst4
          clear hp4 hst4 hbS hbS2 hbA hbA2 hrS hfS e0 e3
          by_cases hz : E = 0
          · subst hz
            go_wp2_with fail
            refine ⟨⟨t + 1, by omega, n, by have := HTN.out; omega, T2, F4, Lib.hid ⟨HP4.out, HJ.out.2.1.trans HS4.out, ?_⟩⟩, by have := HTN.out; simp [RowKit.intOf]; omega⟩
            rw [HSTEP.out]; simp
          · have hne : (E != 0) = true := by simpa using hz
            have HZ := Lib.hid hz
            clear hz
            go_wp2_with fail
            go_returns
            have hCW : commitW J S k = (E, T2) := by rw [HSTEP.out, if_neg HZ.out]
            have hCF : commitF J S k = (E, T2) := by unfold commitF; rw [hCW, if_pos HZ.out]
            have hJc : J.commit S k = J := by unfold Js.commit; rw [hCF, if_neg HZ.out]
            have hsz4 : (T2.at_ k).size = (S.at_ k).size := by
              have := commitF_size J S k
              rw [hCF] at this; exact this
            obtain ⟨r1, r2⟩ := JPs.disks (J := J) H0.out (by rw [hsz4]; exact HO.out) HP4.out hG.out HD.out (HST2.out.trans HS4.out)
            rw [hCF, hJc]
            exact ⟨rfl, _, r1, r2⟩
end
end Go.Proofs.Ytjmhfjioccljeaa
