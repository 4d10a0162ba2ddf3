/-
  Walk: package journal's sector, stamp, check, area.
-/
import Derived.Test.YtjmhfjioccljeaaJrA
import Derived.Deep.RegionHeld3
import Derived.Deep.DrawnRows
namespace Go.Proofs.Ytjmhfjioccljeaa
open Go.RowKit
set_option linter.unusedVariables false
set_option linter.unusedSimpArgs false
attribute [local go_sem ↓] Go.wp_at_zero Go.wp_at_succ

def JsecSpec (g i : Nat) (st : List UInt8) (w : World) (e : Ending) (w' : World) : Prop :=
  ∃ A' c', e = .returned (.slice A' 128 c') ∧ OwnB w' w.heap.size A' c' (secL g i st) ∧ Below w.heap.size w w'
set_option maxRecDepth 100000 in
set_option maxHeartbeats 1000000 in
theorem jsector_any (w : World) (g i : Nat) (A : Option Addr) (c : Nat) (st : List UInt8) (len : Nat) (hl : st.length = len) (hlen : len ≤ 1000000) (hc : len ≤ c) (hg : g ≤ 8796093022208) (hi : i ≤ 2000) (hA : RdB w A st) :
    Calls Try.prog 69 #[.int .i64 (g : Int), .int .i64 (i : Int), .slice A len c] w fun e w' => JsecSpec g i st w e w' := by
  have HA := Lib.hid hA
  have HL := Lib.hid hl
  obtain ⟨N, hN⟩ : ∃ N, g * 1048576 + i = N := ⟨_, rfl⟩
  have hw : IntKind.u64.wrap (wrap64 (wrap64 ((g : Int) * 1048576) + (i : Int))) = (N : Int) := by
    rw [IntKind.wrap_u64]
    unfold wrap64
    omega
  have HN := Lib.hid hN
  have HNUM : Hid (Calls Try.prog 65 #[.slice none 0 0, .int .u64 (N : Int), .int .i64 8] w fun e w' => NumSpec w.heap.size none [] N 8 w e w') :=
    Lib.hid (number_any w w.heap.size none 0 [] N 8 0 rfl (by omega) (by omega) (by omega) (by omega) (OwnB.nil _ _) (Nat.le_refl _))
  clear hN
  clear hA hl
  go_enter Try.func69, Try.ntmps69
  go_wp2_with fail
  refine HNUM.out.mono ?_
  rintro e w1 ⟨A1, c1, rfl, hown, hgr, hat⟩
  have H1 : Hid (OwnB w1 w.heap.size A1 c1 (beN N 8) ∧ Below w.heap.size w w1) := Lib.hid ⟨by simpa using hown, (Below.refl _ _).grown hgr (Nat.le_refl _) (fun k hk => by simp [blk] at hk)⟩
  have hs1 : w.heap.size ≤ w1.heap.size := hgr.size
  clear hown hgr hat HNUM
  obtain ⟨lo, hlo⟩ : ∃ lo : Nat, min ((i : Int) * 119) (len : Int) = (lo : Int) := ⟨min (i * 119) len, by omega⟩
  obtain ⟨hi_, hhi⟩ : ∃ hi_ : Nat, min (((i : Int) + 1) * 119) (len : Int) = (hi_ : Int) := ⟨min ((i + 1) * 119) len, by omega⟩
  obtain ⟨n, hn⟩ : ∃ n, hi_ - lo = n := ⟨_, rfl⟩
  obtain ⟨k, hk⟩ : ∃ k : Nat, (119 : Int) - (n : Int) = (k : Int) := ⟨119 - n, by omega⟩
  have hlh : lo ≤ hi_ ∧ hi_ ≤ len ∧ n ≤ 119 ∧ k ≤ 119 := by omega
  obtain ⟨hlh1, hlh2, hlh3, hlh4⟩ := hlh
  have HK : Hid (k = 119 - n) := Lib.hid (by omega)
  have HP : Hid ((st.drop lo).take n = partL i st ∧ (partL i st).length = n) := Lib.hid (by
    have h1 : (st.drop lo).take n = partL i st := by
      unfold partL
      by_cases h : i * 119 ≤ len
      · rw [show lo = i * 119 by omega]
        by_cases h2 : (i + 1) * 119 ≤ len
        · rw [show n = 119 by omega]
        · rw [List.take_of_length_le (by rw [List.length_drop, HL.out]; omega), List.take_of_length_le (by rw [List.length_drop, HL.out]; omega)]
      · rw [List.drop_of_length_le (by rw [HL.out]; omega), List.drop_of_length_le (by rw [HL.out]; omega)]; simp
    refine ⟨h1, ?_⟩
    rw [← h1, List.length_take, List.length_drop, HL.out]; omega)
  obtain ⟨x, hx⟩ : ∃ x, UInt8.ofNat n = x := ⟨_, rfl⟩
  have HX : Hid ((n : Int) = (x.toNat : Int)) := Lib.hid (by rw [← hx, UInt8.toNat_ofNat']; omega)
  have HXX := Lib.hid hx
  have HEND : Hid (secL g i st = ((beN N 8 ++ [x]) ++ partL i st) ++ zeroB k) := Lib.hid (by
    unfold secL
    rw [HN.out, HP.out.2, hx, HK.out]; simp)
  have HB8 := Lib.hid (beN_length N 8)
  have hrd0 := (HA.out.below H1.out.2)
  clear hx
  by_cases hcl : A = none ∨ c = lo
  · have hn0 : n = 0 := by
      rcases hcl with rfl | h
      · rcases Nat.eq_zero_or_pos len with h | h
        · omega
        · obtain ⟨_, e, _⟩ := HA.out (by rw [HL.out]; exact h)
          cases e
      · omega
    subst hn0
    have hk0 : k = 119 := HK.out
    subst hk0
    have hrd : ∀ (W : World) (B : Option Addr), RdB W B (partL i st) := fun W B h => by rw [HP.out.2] at h; omega
    have HRD := Lib.hid hrd
    clear hrd hrd0
    rcases A with _ | ad
    · go_wp2_with (first | (at_builtin; refine wpList_appB rfl (.tmp 28) (.tmp 32) rfl w.heap.size A1 8 c1 (beN N 8) rfl HB8.out.symm (OwnR.alloc H1.out.1 _) ⟨w1.heap.size, 0, none⟩ 1 1 [x] rfl rfl (cells_one _ _ _ _ HX.out) (by omega) (by simp; omega) ?_; (intro A2 c2 w2 hown2 hg2 hat2)) | (at_builtin; refine wpList_appRd (.inl rfl) (.tmp 33) (.tmp 34) rfl w.heap.size A2 9 c2 (beN N 8 ++ [x]) rfl (by rw [List.length_append, HB8.out]; rfl) hown2 _ _ _ (partL i st) rfl HP.out.2.symm (HRD.out _ _) (by rw [List.length_append, HB8.out, HP.out.2]; simp <;> omega) (by have := hg2.size; simp at this; omega) ?_; (rw [show (beN N 8 ++ [x]).length + (partL i st).length = 9 by rw [List.length_append, HB8.out, HP.out.2]; simp]; intro A3 c3 w3 hown3 hg3 hat3)) | (at_builtin; refine wpList_appN rfl (.tmp 36) (.tmp 39) rfl w.heap.size A3 (9) c3 ((beN N 8 ++ [x]) ++ partL i st) rfl (by rw [List.length_append, List.length_append, HB8.out, HP.out.2]; simp) hown3 119 rfl (by rw [List.length_append, List.length_append, HB8.out, HP.out.2]; simp <;> omega) (by have := hg2.size; have := hg3.size; simp at *; omega) ?_; (rw [show ((beN N 8 ++ [x]) ++ partL i st).length + 119 = 128 by rw [List.length_append, List.length_append, HB8.out, HP.out.2]; simp <;> (have := HK.out; omega)]; intro A4 c4 w4 hown4 hg4)))
      go_ret
      have hb2 := appB_below H1.out.2 H1.out.1 hg2 hs1
      have hb3 := hb2.grown hg3 (by have := hb2.size; omega) (fun q hq => (OwnR.lt hown2 q hq).1)
      have hb4 := hb3.grown hg4 (by have := hb3.size; omega) (fun q hq => (OwnR.lt hown3 q hq).1)
      exact ⟨A4, c4, rfl, by rw [HEND.out]; exact hown4, hb4⟩

    · have hcl : c = lo := by rcases hcl with h | h; cases h; exact h
      subst hcl
      go_wp2_with (first | (at_builtin; refine wpList_appB rfl (.tmp 28) (.tmp 32) rfl w.heap.size A1 8 c1 (beN N 8) rfl HB8.out.symm (OwnR.alloc H1.out.1 _) ⟨w1.heap.size, 0, none⟩ 1 1 [x] rfl rfl (cells_one _ _ _ _ HX.out) (by omega) (by simp; omega) ?_; (intro A2 c2 w2 hown2 hg2 hat2)) | (at_builtin; refine wpList_appRd (.inl rfl) (.tmp 33) (.tmp 34) rfl w.heap.size A2 9 c2 (beN N 8 ++ [x]) rfl (by rw [List.length_append, HB8.out]; rfl) hown2 _ _ _ (partL i st) rfl HP.out.2.symm (HRD.out _ _) (by rw [List.length_append, HB8.out, HP.out.2]; simp <;> omega) (by have := hg2.size; simp at this; omega) ?_; (rw [show (beN N 8 ++ [x]).length + (partL i st).length = 9 by rw [List.length_append, HB8.out, HP.out.2]; simp]; intro A3 c3 w3 hown3 hg3 hat3)) | (at_builtin; refine wpList_appN rfl (.tmp 36) (.tmp 39) rfl w.heap.size A3 (9) c3 ((beN N 8 ++ [x]) ++ partL i st) rfl (by rw [List.length_append, List.length_append, HB8.out, HP.out.2]; simp) hown3 119 rfl (by rw [List.length_append, List.length_append, HB8.out, HP.out.2]; simp <;> omega) (by have := hg2.size; have := hg3.size; simp at *; omega) ?_; (rw [show ((beN N 8 ++ [x]) ++ partL i st).length + 119 = 128 by rw [List.length_append, List.length_append, HB8.out, HP.out.2]; simp <;> (have := HK.out; omega)]; intro A4 c4 w4 hown4 hg4)))
      go_ret
      have hb2 := appB_below H1.out.2 H1.out.1 hg2 hs1
      have hb3 := hb2.grown hg3 (by have := hb2.size; omega) (fun q hq => (OwnR.lt hown2 q hq).1)
      have hb4 := hb3.grown hg4 (by have := hb3.size; omega) (fun q hq => (OwnR.lt hown3 q hq).1)
      exact ⟨A4, c4, rfl, by rw [HEND.out]; exact hown4, hb4⟩

  · obtain ⟨ad, rfl⟩ : ∃ ad, A = some ad := by
      rcases A with _ | ad
      · exact absurd (.inl rfl) hcl
      · exact ⟨ad, rfl⟩
    have hcl : ¬ c = lo := fun h => hcl (.inr h)
    have hrd : RdB w1 (some (ad.add lo)) (partL i st) := by
      have h1 := (hrd0.tail lo).take n
      rw [HP.out.1] at h1
      exact h1
    have hltw : ad.block < w1.heap.size ∨ n = 0 := by
      by_cases h : 0 < n
      · have := hrd.lt (by rw [HP.out.2]; exact h) rfl
        rw [block_of_add] at this
        exact .inl this
      · exact .inr (by omega)
    have HRD := Lib.hid hrd
    have HFAR : Hid (∀ w2, (w1.alloc (.cells #[.int .u8 (n : Int)] 5)).grownBy w2 (blk A1) → RdB w2 (some (ad.add lo)) (partL i st)) := Lib.hid (by
      intro w2 hg
      intro h0
      have hr := hrd h0
      obtain ⟨ad', e, hc⟩ := hr
      cases e
      refine ⟨_, rfl, fun q hq => ?_⟩
      have hl := World.block_lt_of_cell? _ _ (hc q hq)
      rw [block_of_add, block_of_add] at hl
      have hold : ad.block < w.heap.size := by
        obtain ⟨ad2, e2, hc2⟩ := HA.out (by rw [HL.out]; have := HP.out.2; omega)
        cases e2
        have := World.block_lt_of_cell? _ _ (hc2 0 (by rw [HL.out]; have := HP.out.2; omega))
        rwa [block_of_add] at this
      refine (World.cell?_of_block (w := w1) ?_).trans (hc q hq)
      rw [block_of_add, block_of_add]
      refine (hg.block ad.block (by simp; omega) fun e => ?_).trans (Below.heap_alloc w1 _ _ hl)
      have := (OwnR.lt H1.out.1 _ e.symm).1
      omega)
    clear hrd hrd0
    · go_wp2_with (first | (at_builtin; refine wpList_appB rfl (.tmp 28) (.tmp 32) rfl w.heap.size A1 8 c1 (beN N 8) rfl HB8.out.symm (OwnR.alloc H1.out.1 _) ⟨w1.heap.size, 0, none⟩ 1 1 [x] rfl rfl (cells_one _ _ _ _ HX.out) (by omega) (by simp; omega) ?_; (intro A2 c2 w2 hown2 hg2 hat2)) | (at_builtin; refine wpList_appRd (.inl rfl) (.tmp 33) (.tmp 34) rfl w.heap.size A2 9 c2 (beN N 8 ++ [x]) rfl (by rw [List.length_append, HB8.out]; rfl) hown2 _ _ _ (partL i st) rfl HP.out.2.symm (HFAR.out _ hg2) (by rw [List.length_append, HB8.out, HP.out.2]; simp <;> omega) (by have := hg2.size; simp at this; omega) ?_; (rw [show (beN N 8 ++ [x]).length + (partL i st).length = 9 + n by rw [List.length_append, HB8.out, HP.out.2]; simp]; intro A3 c3 w3 hown3 hg3 hat3)) | (at_builtin; refine wpList_appN rfl (.tmp 36) (.tmp 39) rfl w.heap.size A3 (9 + n) c3 ((beN N 8 ++ [x]) ++ partL i st) rfl (by rw [List.length_append, List.length_append, HB8.out, HP.out.2]; simp) hown3 k rfl (by rw [List.length_append, List.length_append, HB8.out, HP.out.2]; simp <;> omega) (by have := hg2.size; have := hg3.size; simp at *; omega) ?_; (rw [show ((beN N 8 ++ [x]) ++ partL i st).length + k = 128 by rw [List.length_append, List.length_append, HB8.out, HP.out.2]; simp <;> (have := HK.out; omega)]; intro A4 c4 w4 hown4 hg4)))
      go_ret
      have hb2 := appB_below H1.out.2 H1.out.1 hg2 hs1
      have hb3 := hb2.grown hg3 (by have := hb2.size; omega) (fun q hq => (OwnR.lt hown2 q hq).1)
      have hb4 := hb3.grown hg4 (by have := hb3.size; omega) (fun q hq => (OwnR.lt hown3 q hq).1)
      exact ⟨A4, c4, rfl, by rw [HEND.out]; exact hown4, hb4⟩

def StampSpec (l : List UInt8) (w : World) (e : Ending) (w' : World) : Prop :=
  e = .returned (.tuple #[.int .u64 (stampN l : Nat), .int .i64 (stampU l : Nat)]) ∧ Below w.heap.size w w'
set_option maxRecDepth 100000 in
set_option maxHeartbeats 1000000 in
theorem stamp_any (w : World) (A : Option Addr) (c : Nat) (l : List UInt8) (len : Nat) (hl : l.length = len) (h9 : 9 ≤ len) (hc : len ≤ c) (hA : RdB w A l) :
    Calls Try.prog 103 #[.slice A len c] w fun e w' => StampSpec l w e w' := by
  obtain ⟨ad, rfl, c8⟩ := hA.at_ (k := 8) (by omega)
  have H := Lib.hid (jread_any w.drew (some ad) c (l.take 8) 8 (by rw [List.length_take]; omega) (by omega) ((hA.take 8).drew))
  obtain ⟨X, hX⟩ : ∃ X, stampN l = X := ⟨_, rfl⟩
  obtain ⟨y, hy⟩ : ∃ y, l.getD 8 0 = y := ⟨_, rfl⟩
  have hY : stampU l = y.toNat := by unfold stampU; rw [hy]
  have hy8 := y.toNat_lt
  have hyw : IntKind.i64.wrap (y.toNat : Int) = (y.toNat : Int) := by rw [IntKind.wrap_i64]; omega
  unfold StampSpec
  unfold stampN at hX
  rw [hX] at H
  rw [hY, show stampN l = X from hX]
  rw [hy] at c8
  have h8 : (8 : Int) < (len : Int) := by omega
  have h8c : (8 : Int) ≤ (c : Int) := by omega
  rw [add_pos ad 8 (by omega)] at c8
  clear hA hl hX hY hy
  go_enter Try.func103, Try.ntmps103
  go_wp2_with fail
  go_region_held3 (fun W : World => W.cell? ⟨ad.block, ad.off + 8, none⟩ = some (.int .u8 (y.toNat : Int))) (exact c8) (first | (go_at_call 104; refine H.out.mono ?_; rintro e w2 ⟨rfl, rfl⟩))
  go_wp2_with fail
  go_ret2
  exact ⟨rfl, (Below.refl _ _).drew⟩
theorem jarea_any (w : World) (j first sectors g : Nat) (h1 : w.cell? ⟨j, 1, none⟩ = some (.int .i64 (first : Int))) (h2 : w.cell? ⟨j, 2, none⟩ = some (.int .i64 (sectors : Int))) (hf : first ≤ 2097152) (hs : sectors ≤ 2000) (hg : g ≤ 8796093022210) :
    Calls Try.prog 68 #[ob j, .int .i64 (g : Int)] w fun e w' => e = .returned (.int .i64 (areaN first sectors g : Nat)) ∧ Below w.heap.size w w' := by
  have hm : ((g : Int) + 1).tmod 2 = (((g + 1) % 2 : Nat) : Int) := by
    rw [Int.tmod_eq_emod_of_nonneg (by omega)]; omega
  obtain ⟨m, hm2⟩ : ∃ m, (g + 1) % 2 = m := ⟨_, rfl⟩
  have hm1 : m ≤ 1 := by omega
  have hN : areaN first sectors g = first + m * sectors * 128 := by unfold areaN; rw [hm2]
  rw [hN]
  rw [hm2] at hm
  have hms : m * sectors ≤ 2000 := by
    have := Nat.mul_le_mul hm1 hs
    omega
  have hmi : (m : Int) * (sectors : Int) = ((m * sectors : Nat) : Int) := by simp
  obtain ⟨q, hq⟩ : ∃ q, m * sectors = q := ⟨_, rfl⟩
  rw [hq] at hmi hms ⊢
  clear hm2 hN hq
  go_enter Try.func68, Try.ntmps68
  go_wp2_with fail
  go_quiet (fail)
  go_wp2_with fail
  go_ret
  refine ⟨by first | rfl | exact ret_int (by omega), below_drewN (Below.refl _ _) _⟩
set_option maxRecDepth 100000 in
set_option maxHeartbeats 2000000 in
theorem jcheck_any {w : World} {p k d : Nat} {as_ : List Nat} {S : St} {F : Nat → Prop} (h : PwS w p as_ S F) (hk : as_[k]? = some d) (first sectors : Int) (hf : -9223372036854775808 ≤ first ∧ first ≤ 9223372036854775807) (hs : -9223372036854775808 ≤ sectors ∧ sectors ≤ 9223372036854775807) :
    Calls Try.prog 72 #[ob d, .int .i64 first, .int .i64 sectors] w fun e w' => e = .returned (.int .i64 (if checkB (S.at_ k).size first sectors = true then 0 else 1)) ∧ w = w' := by
  have HS := Lib.hid (st_size h hk)
  have hlim : (S.at_ k).size ≤ 2097152 := by
    obtain ⟨_, _, _, _, _, _, _, _, _, h2, _⟩ := h.open_ hk
    have h3 := h2.lim
    have h4 := h2.ok.rd
    unfold Dk.size
    omega
  obtain ⟨Z, hZ⟩ : ∃ Z, (S.at_ k).size = Z := ⟨_, rfl⟩
  rw [hZ] at HS hlim ⊢
  obtain ⟨R, hR⟩ : ∃ R : Int, (if checkB Z first sectors = true then 0 else 1) = R := ⟨_, rfl⟩
  rw [hR]
  have HR := Lib.hid hR
  clear hR h hk hZ
  go_enter Try.func72, Try.ntmps72
  have FIN : Hid (∀ b : Bool, checkB Z first sectors = b → R = if b = true then 0 else 1) := Lib.hid fun b hb => by rw [← HR.out, hb]
  by_cases h1 : sectors < 2
  · have e1 : decide (sectors < 2) = true := decide_eq_true h1
    go_wp2_with fail
    go_ret
    refine ⟨ret_int ?_, rfl⟩
    rw [FIN.out false (by unfold checkB; rw [decide_eq_false (show ¬ 2 ≤ sectors by omega)]; rfl)]; rfl
  · have e1 : decide (sectors < 2) = false := decide_eq_false h1
    by_cases h2 : 2000 < sectors
    · have e2 : decide (2000 < sectors) = true := decide_eq_true h2
      go_wp2_with fail
      go_ret
      refine ⟨ret_int ?_, rfl⟩
      rw [FIN.out false (by unfold checkB; rw [decide_eq_false (show ¬ sectors ≤ 2000 by omega)]; simp)]; rfl
    · have e2 : decide (2000 < sectors) = false := decide_eq_false h2
      by_cases h3 : first < 0
      · have e3 : decide (first < 0) = true := decide_eq_true h3
        go_wp2_with fail
        go_ret
        refine ⟨ret_int ?_, rfl⟩
        rw [FIN.out false (by unfold checkB; rw [decide_eq_false (show ¬ 0 ≤ first by omega)]; simp)]; rfl
      · have e3 : decide (first < 0) = false := decide_eq_false h3
        have em : first.tmod 128 = first % 128 := Int.tmod_eq_emod_of_nonneg (by omega)
        by_cases h4 : first % 128 = 0
        · have e4 : (first.tmod 128 != 0) = false := by rw [em, h4]; rfl
          by_cases h5 : (Z : Int) - 2 * sectors * 128 < first
          · have e5 : decide ((Z : Int) - 2 * sectors * 128 < first) = true := decide_eq_true h5
            have HF : Hid (R = 1) := Lib.hid (by rw [FIN.out false (by unfold checkB; rw [decide_eq_false (show ¬ first ≤ (Z : Int) - 2 * sectors * 128 by omega)]; simp)]; rfl)
            go_wp2_with fail
            refine HS.out.mono ?_
            rintro e _ ⟨rfl, rfl⟩
            go_wp2_with fail
            go_ret
            exact ⟨ret_int HF.out.symm, rfl⟩
          · have e5 : decide ((Z : Int) - 2 * sectors * 128 < first) = false := decide_eq_false h5
            have HF : Hid (R = 0) := Lib.hid (by rw [FIN.out true (by unfold checkB; rw [decide_eq_true (show 2 ≤ sectors by omega), decide_eq_true (show sectors ≤ 2000 by omega), decide_eq_true (show 0 ≤ first by omega), decide_eq_true h4, decide_eq_true (show first ≤ (Z : Int) - 2 * sectors * 128 by omega)]; rfl)]; rfl)
            go_wp2_with fail
            refine HS.out.mono ?_
            rintro e _ ⟨rfl, rfl⟩
            go_wp2_with fail
            go_ret
            exact ⟨ret_int HF.out.symm, rfl⟩
        · have e4 : (first.tmod 128 != 0) = true := by rw [em]; simpa using h4
          go_wp2_with fail
          go_ret
          refine ⟨ret_int ?_, rfl⟩
          rw [FIN.out false (by unfold checkB; rw [decide_eq_false h4]; simp)]; rfl
end Go.Proofs.Ytjmhfjioccljeaa
