/-
  Walk: package journal's blank, Format.
-/
import Derived.Test.YtjmhfjioccljeaaJrB
namespace Go.Proofs.Ytjmhfjioccljeaa
open Go.RowKit
set_option linter.unusedVariables false
set_option linter.unusedSimpArgs false
attribute [local go_sem ↓] Go.wp_at_zero Go.wp_at_succ

theorem made_blk (w : World) (n : Nat) : Blk (w.alloc (.cells (madeCells #[.int .u8 0] n) 5)) w.heap.size 5 (bc (zeroB n)).toArray := by
  rw [made_zero]; exact Blk.new _ _ _
theorem rd_zero (w : World) (n : Nat) : RdB (w.alloc (.cells (madeCells #[.int .u8 0] n) 5)) (some ⟨w.heap.size, 0, none⟩) (zeroB n) := rd_blk (made_blk w n) 0
theorem PwS.notin {w : World} {p : Nat} {as_ : List Nat} {S : St} {F : Nat → Prop} (h : PwS w p as_ S F) {i : Nat} (hi : w.heap.size ≤ i) : ¬ F i := fun hf => by
  have := h.lt i hf; omega
set_option maxRecDepth 100000 in
set_option maxHeartbeats 2000000 in
theorem blank_any {w : World} {p k d : Nat} {as_ : List Nat} {S : St} {F : Nat → Prop} (h : PwS w p as_ S F) (hk : as_[k]? = some d) (at_ sectors first g : Nat) (ha : at_ ≤ 2097152) (hf : first ≤ 2097152) (hs : sectors ≤ 4000) (hg : g ≤ 8796093022208) :
    Calls Try.prog 76 #[ob d, .int .i64 (at_ : Int), .int .i64 (sectors : Int), .int .i64 (first : Int), .int .i64 (g : Int)] w fun e w' => StSpec p as_ F (blankF S k at_ sectors first g) w e w' := by
  obtain ⟨N, hN⟩ : ∃ N, sectors * 128 = N := ⟨_, rfl⟩
  have hNi : (sectors : Int) * 128 = (N : Int) := by omega
  have hNl : N ≤ 512000 := by omega
  have hmk := run_makeB N (by omega)
  have HW := Lib.hid (fun (w : World) (F : Nat → Prop) (S : St) (h : PwS w p as_ S F) (o : Nat) (ho : o ≤ 2097152) (A : Option Addr) (b : List UInt8) (n c : Nat) (hn : b.length = n) (hb : n ≤ 512000) (hA : RdB w A b) (hAn : ∀ ad, A = some ad → ¬ F ad.block) =>
    st_writeN h hk (o : Int) A b n c hn (by omega) (by unfold maxLen; omega) hA hAn)
  have HS := Lib.hid (fun (w : World) (F : Nat → Prop) (S : St) (h : PwS w p as_ S F) => st_sync h hk)
  obtain ⟨R, hR⟩ : ∃ R, blankF S k at_ sectors first g = R := ⟨_, rfl⟩
  rw [hR]
  unfold blankF at hR
  rw [hN] at hR
  have HR := Lib.hid hR
  have HP := Lib.hid h
  clear hk hN hR h
  go_enter Try.func76, Try.ntmps76
  go_wp2_with fail
  have hb0 : Below w.heap.size w (w.alloc (.cells (madeCells #[.int .u8 0] N) 5)) := (Below.refl _ _).alloc (Nat.le_refl _) _
  obtain ⟨E1, hE1⟩ : ∃ E, (S.write k (at_ : Int) (zeroB N)).1 = E := ⟨_, rfl⟩
  obtain ⟨S1, hS1⟩ : ∃ S1, (S.write k (at_ : Int) (zeroB N)).2 = S1 := ⟨_, rfl⟩
  have hcall := HW.out _ F S (HP.out.below hb0) at_ ha (some ⟨w.heap.size, 0, none⟩) (zeroB N) N N (zeroB_length N) hNl (rd_zero w N) (fun ad e => by cases e; exact HP.out.notin (Nat.le_refl _))
  unfold StSpec at hcall
  rw [hE1, hS1] at hcall
  have HC := Lib.hid hcall
  have HB0 := Lib.hid hb0
  have HE1 := Lib.hid (And.intro hE1 hS1)
  clear hcall hb0 hE1 hS1
  by_cases hz1 : E1 = 0
  · subst hz1
    refine HC.out.mono ?_
    rintro e w1 ⟨rfl, F1, hp1, hst1⟩
    have H1 : Hid (PwS w1 p as_ S1 F1 ∧ Step F F1 w w1) := Lib.hid ⟨hp1, (Step.of_below HB0.out F).trans hst1⟩
    clear hp1 hst1 HC
    go_wp2_with fail
    obtain ⟨E2, hE2⟩ : ∃ E, (S1.sync k).1 = E := ⟨_, rfl⟩
    obtain ⟨S2, hS2⟩ : ∃ S2, (S1.sync k).2 = S2 := ⟨_, rfl⟩
    have hcall := HS.out _ F1 S1 H1.out.1
    unfold StSpec at hcall
    rw [hE2, hS2] at hcall
    have HC := Lib.hid hcall
    have HE2 := Lib.hid (And.intro hE2 hS2)
    clear hcall hE2 hS2
    by_cases hz2 : E2 = 0
    · subst hz2
      refine HC.out.mono ?_
      rintro e w2 ⟨rfl, F2, hp2, hst2⟩
      have H2 : Hid (PwS w2 p as_ S2 F2 ∧ Step F F2 w w2) := Lib.hid ⟨hp2, H1.out.2.trans hst2⟩
      clear hp2 hst2 HC
      go_wp2_with fail
      refine (jsector_any w2 g 0 none 0 [] 0 rfl (by omega) (Nat.le_refl _) hg (by omega) (fun h => by simp at h)).mono ?_
      rintro e w3 ⟨A3, c3, rfl, hown3, hb3⟩
      have hp3 := H2.out.1.below hb3
      obtain ⟨E3, hE3⟩ : ∃ E, (S2.write k (first : Int) (secL g 0 [])).1 = E := ⟨_, rfl⟩
      obtain ⟨S3, hS3⟩ : ∃ S3, (S2.write k (first : Int) (secL g 0 [])).2 = S3 := ⟨_, rfl⟩
      have hcall := HW.out _ F2 S2 hp3 first hf A3 (secL g 0 []) 128 c3 (secL_length _ _ _) (by omega) (OwnB.rd hown3) (fun ad e => H2.out.1.notin (OwnR.lt hown3 ad.block (by rw [e]; rfl)).1)
      unfold StSpec at hcall
      rw [hE3, hS3] at hcall
      have HC := Lib.hid hcall
      have HE3 := Lib.hid (And.intro hE3 hS3)
      have HB3 := Lib.hid hb3
      clear hcall hE3 hS3 hown3 hp3 hb3
      go_wp2_with fail
      by_cases hz3 : E3 = 0
      · subst hz3
        refine HC.out.mono ?_
        rintro e w4 ⟨rfl, F4, hp4, hst4⟩
        have H4 : Hid (PwS w4 p as_ S3 F4 ∧ Step F F4 w w4) := Lib.hid ⟨hp4, (H2.out.2.then_below HB3.out).trans hst4⟩
        clear hp4 hst4 HC
        go_wp2_with fail
        refine (HS.out _ F4 S3 H4.out.1).mono ?_
        rintro e w5 ⟨rfl, F5, hp5, hst5⟩
        go_wp2_with fail
        go_ret
        have hr : R = S3.sync k := by
          rw [← HR.out, HE1.out.1, HE1.out.2, HE2.out.1, HE2.out.2, HE3.out.1, HE3.out.2]; simp
        rw [hr]
        exact ⟨rfl, F5, hp5, H4.out.2.trans hst5⟩
      · have hne : (E3 != 0) = true := by simpa using hz3
        have HZ := Lib.hid hz3
        clear hz3
        refine HC.out.mono ?_
        rintro e w4 ⟨rfl, F4, hp4, hst4⟩
        go_wp2_with fail
        go_ret
        have hr : R = S2.write k (first : Int) (secL g 0 []) := by
          rw [← HR.out, HE1.out.1, HE1.out.2, HE2.out.1, HE2.out.2, HE3.out.1]; simp [HZ.out]
        rw [hr]
        exact ⟨by rw [HE3.out.1]; rfl, F4, by rw [HE3.out.2]; exact hp4, (H2.out.2.then_below HB3.out).trans hst4⟩
    · have hne : (E2 != 0) = true := by simpa using hz2
      have HZ := Lib.hid hz2
      clear hz2
      refine HC.out.mono ?_
      rintro e w4 ⟨rfl, F4, hp4, hst4⟩
      go_wp2_with fail
      go_ret
      have hr : R = S1.sync k := by
        rw [← HR.out, HE1.out.1, HE1.out.2, HE2.out.1]; simp [HZ.out]
      rw [hr]
      exact ⟨by rw [HE2.out.1]; rfl, F4, by rw [HE2.out.2]; exact hp4, H1.out.2.trans hst4⟩
  · have hne : (E1 != 0) = true := by simpa using hz1
    have HZ := Lib.hid hz1
    clear hz1
    refine HC.out.mono ?_
    rintro e w4 ⟨rfl, F4, hp4, hst4⟩
    go_wp2_with fail
    go_ret
    have hr : R = S.write k (at_ : Int) (zeroB N) := by
      rw [← HR.out, HE1.out.1]; simp [HZ.out]
    rw [hr]
    exact ⟨by rw [HE1.out.1]; rfl, F4, by rw [HE1.out.2]; exact hp4, (Step.of_below HB0.out F).trans hst4⟩
set_option maxRecDepth 100000 in
set_option maxHeartbeats 2000000 in
theorem format_any {w : World} {p k d : Nat} {as_ : List Nat} {S : St} {F : Nat → Prop} (h : PwS w p as_ S F) (hk : as_[k]? = some d) (first sectors : Int) (hf : -9223372036854775808 ≤ first ∧ first ≤ 9223372036854775807) (hs : -9223372036854775808 ≤ sectors ∧ sectors ≤ 9223372036854775807) :
    Calls Try.prog 33 #[ob d, .int .i64 first, .int .i64 sectors] w fun e w' => StSpec p as_ F (formatF S k first sectors) w e w' := by
  have HCH := Lib.hid (jcheck_any h hk first sectors hf hs)
  have hlim : (S.at_ k).size ≤ 2097152 := by
    obtain ⟨_, _, _, _, _, _, _, _, _, h2, _⟩ := h.open_ hk
    have h3 := h2.lim
    have h4 := h2.ok.rd
    unfold Dk.size
    omega
  by_cases hc : checkB (S.at_ k).size first sectors = true
  · rw [if_pos hc] at HCH
    have hR : formatF S k first sectors = blankF S k first.toNat (2 * sectors.toNat) first.toNat 1 := by unfold formatF; rw [if_pos hc]
    rw [hR]
    unfold checkB at hc
    simp only [Bool.and_eq_true, decide_eq_true_eq] at hc
    obtain ⟨n, rfl⟩ : ∃ n : Nat, sectors = (n : Int) := ⟨sectors.toNat, by omega⟩
    obtain ⟨a, rfl⟩ : ∃ a : Nat, first = (a : Int) := ⟨first.toNat, by omega⟩
    have h1 : 2 * (n : Int) = ((2 * n : Nat) : Int) := by omega
    rw [Int.toNat_natCast, Int.toNat_natCast]
    obtain ⟨m, hm⟩ : ∃ m, 2 * n = m := ⟨_, rfl⟩
    rw [hm] at h1 ⊢
    have HB : Hid (Calls Try.prog 76 #[ob d, .int .i64 (a : Int), .int .i64 (m : Int), .int .i64 (a : Int), .int .i64 1] w fun e w' => StSpec p as_ F (blankF S k a m a 1) w e w') :=
      Lib.hid (blank_any h hk a m a 1 (by omega) (by omega) (by omega) (by omega))
    obtain ⟨R, hR2⟩ : ∃ R, blankF S k a m a 1 = R := ⟨_, rfl⟩
    rw [hR2] at HB ⊢
    have hm4 : m ≤ 4000 := by omega
    clear hR2
    clear hR hc h hk hlim hf hs hm
    go_enter Try.func33, Try.ntmps33
    go_wp2_with fail
    refine HCH.out.mono ?_
    rintro e _ ⟨rfl, rfl⟩
    go_wp2_with fail
    refine HB.out.mono ?_
    rintro e w1 ⟨rfl, F1, hp1, hst1⟩
    go_wp2_with fail
    go_ret
    exact ⟨rfl, F1, hp1, hst1⟩
  · rw [if_neg hc] at HCH
    have hR : formatF S k first sectors = (1, S) := by unfold formatF; rw [if_neg hc]
    rw [hR]
    have HP := Lib.hid h
    clear hR hc h hk hlim hf hs
    go_enter Try.func33, Try.ntmps33
    go_wp2_with fail
    refine HCH.out.mono ?_
    rintro e _ ⟨rfl, rfl⟩
    go_wp2_with fail
    go_ret
    exact ⟨rfl, F, HP.out, Step.refl _ _⟩
end Go.Proofs.Ytjmhfjioccljeaa
