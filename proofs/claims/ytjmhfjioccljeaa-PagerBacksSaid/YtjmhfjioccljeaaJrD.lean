/-
  Walk: (*Log).load of package journal.
-/
import Derived.Test.YtjmhfjioccljeaaJrC
import Derived.Handy
namespace Go.Proofs.Ytjmhfjioccljeaa
open Go.RowKit
set_option linter.unusedVariables false
set_option linter.unusedSimpArgs false
attribute [local go_sem ↓] Go.wp_at_zero Go.wp_at_succ

/-- what load leaves: the power is off; the area isn't in use; its generation, stream and bytes, in new memory -/
def LoadSpec (off used : Bool) (b wk : List UInt8) (g L : Nat) (w : World) (e : Ending) (w' : World) : Prop :=
  Below w.heap.size w w' ∧ ((off = true ∧ e = .returned (.tuple #[.int .i64 0, .slice none 0 0, .slice none 0 0, .int .i64 4])) ∨
    (off = false ∧ used = false ∧ e = .returned (.tuple #[.int .i64 0, .slice none 0 0, .slice none 0 0, .int .i64 0])) ∨
    (off = false ∧ used = true ∧ ∃ A c q cB, e = .returned (.tuple #[.int .i64 (g : Int), .slice A wk.length c, .slice (some ⟨q, 0, none⟩) L cB, .int .i64 0]) ∧
      OwnB w' w.heap.size A c wk ∧ L ≤ cB ∧ RdB w' (some ⟨q, 0, none⟩) b ∧ w.heap.size ≤ q))
theorem walkL_stop {b : List UInt8} {X n t : Nat} (h : ¬ (stampN (b.drop (t * 128)) = X + t ∧ stampU (b.drop (t * 128)) ≤ 119)) : walkL b X n t = [] := by
  cases n with
  | zero => rfl
  | succ n => unfold walkL; rw [if_neg h]
theorem walkL_go {b : List UInt8} {X n t : Nat} (hn : t < n) (h : stampN (b.drop (t * 128)) = X + t ∧ stampU (b.drop (t * 128)) ≤ 119) :
    walkL b X (n - t) t = ((b.drop (t * 128)).drop 9).take (stampU (b.drop (t * 128))) ++ (if stampU (b.drop (t * 128)) < 119 then [] else walkL b X (n - (t + 1)) (t + 1)) := by
  obtain ⟨m, hm⟩ : ∃ m, n - t = m + 1 := ⟨n - t - 1, by omega⟩
  have e : n - (t + 1) = m := by omega
  rw [hm, e]
  conv => lhs; unfold walkL
  rw [if_pos h]
theorem rd_at {w : World} {g k : Nat} {l : List UInt8} (h : RdB w (some ⟨g, 0, none⟩) l) : RdB w (some ⟨g, k, none⟩) (l.drop k) := by
  have := h.tail k
  rcases Nat.eq_zero_or_pos k with e | e
  · subst e; exact this
  · rw [add_pos _ _ e] at this
    simpa using this
theorem area_in {first sectors which z : Nat} (h : first + 2 * sectors * 128 ≤ z) (hw : which ≤ 1) : first + which * sectors * 128 + sectors * 128 ≤ z := by
  have : which = 0 ∨ which = 1 := by omega
  rcases this with e | e <;> subst e <;> omega
theorem below_drew_trans {w w1 : World} (h : Below w.drew.heap.size w.drew w1) : Below w.heap.size w w1 := ⟨h.os, h.tape, h.output, h.size, h.block⟩
set_option maxRecDepth 100000 in
set_option maxHeartbeats 2000000 in
theorem jload_any {w : World} {p k d j first sectors which : Nat} {as_ : List Nat} {S : St} {F : Nat → Prop} (h : PwS w p as_ S F) (hk : as_[k]? = some d) (c0 : w.cell? ⟨j, 0, none⟩ = some (ob d)) (c1 : w.cell? ⟨j, 1, none⟩ = some (.int .i64 (first : Int))) (c2 : w.cell? ⟨j, 2, none⟩ = some (.int .i64 (sectors : Int)))
    (hs2 : 2 ≤ sectors) (hsM : sectors ≤ 2000) (hz : first + 2 * sectors * 128 ≤ (S.at_ k).size) (hw : which ≤ 1) :
    Calls Try.prog 73 #[ob j, .int .i64 (which : Int)] w fun e w' => LoadSpec S.off (usedB (areaL S k first sectors which) which) (areaL S k first sectors which) (walkL (areaL S k first sectors which) (stampN (areaL S k first sectors which)) sectors 0) (stampN (areaL S k first sectors which) / 1048576) (sectors * 128) w e w' := by
  have hlim : (S.at_ k).size ≤ 2097152 := by
    obtain ⟨_, _, _, _, _, _, _, _, _, h2, _⟩ := h.open_ hk
    have h3 := h2.lim
    have h4 := h2.ok.rd
    unfold Dk.size
    omega
  have hin := area_in hz hw
  have hrdl : (S.at_ k).rd.length = (S.at_ k).size := rfl
  obtain ⟨at_, hat⟩ : ∃ a, first + which * sectors * 128 = a := ⟨_, rfl⟩
  obtain ⟨L, hL⟩ : ∃ L, sectors * 128 = L := ⟨_, rfl⟩
  have hqi : (which : Int) * (sectors : Int) = ((which * sectors : Nat) : Int) := by simp
  obtain ⟨q, hq⟩ : ∃ q, which * sectors = q := ⟨_, rfl⟩
  have hLi : (sectors : Int) * 128 = (L : Int) := by omega
  rw [hq] at hqi hat
  have hati : (first : Int) + (q : Int) * 128 = (at_ : Int) := by omega
  have hb : areaL S k first sectors which = ((S.at_ k).rd.drop at_).take L := by unfold areaL; rw [hq, hat, hL]
  have hread := st_read (h.below ((Below.refl w.heap.size w).drew)) hk (at_ : Int) (L : Int) (by omega) (by omega)
  rw [hL]
  rw [hq, hat, hL] at hin
  have hqM : q ≤ 4000 := by
    have := Nat.mul_le_mul hw hsM
    omega
  obtain ⟨b, hbb⟩ : ∃ b, areaL S k first sectors which = b := ⟨_, rfl⟩
  rw [hbb] at hb ⊢
  have hbl : b.length = L := by rw [hb, List.length_take, List.length_drop, hrdl]; omega
  have hLM : L ≤ 256000 ∧ 256 ≤ L ∧ at_ ≤ 2097152 ∧ first ≤ 2097152 := by omega
  obtain ⟨hL1, hL2, hL3, hL4⟩ := hLM
  have HBL := Lib.hid hbl
  have HLS := Lib.hid hL
  have HM1 : Hid (IntKind.i64.wrap ((which : Int) * (sectors : Int)) = (q : Int)) := Lib.hid (by rw [hqi, IntKind.wrap_i64]; omega)
  have HM2 : Hid (IntKind.i64.wrap ((q : Int) * 128) = (q : Int) * 128) := Lib.hid (by rw [IntKind.wrap_i64]; omega)
  have HM3 : Hid (IntKind.i64.wrap ((first : Int) + (q : Int) * 128) = (at_ : Int)) := Lib.hid (by rw [hati, IntKind.wrap_i64]; omega)
  have HM4 : Hid (IntKind.i64.wrap ((sectors : Int) * 128) = (L : Int)) := Lib.hid (by rw [hLi, IntKind.wrap_i64]; omega)
  clear hqi hLi hati
  cases hoff : S.off with
  | true =>
    have hE : readE (S.at_ k) true (at_ : Int) (L : Int) = 4 := by unfold readE; rw [if_pos (inB_nat (by omega))]; rfl
    unfold ReadSpec at hread
    rw [hoff, hE] at hread
    have HRD := Lib.hid hread
    clear hread hE hb hbb hbl hin hz hlim hrdl hat hL hq hk h
    go_enter Try.func73, Try.ntmps73
    go_wp2_with fail
    have hm1 := HM1.out
    have hm2 := HM2.out
    have hm3 := HM3.out
    have hm4 := HM4.out
    go_region_held3 (fun W : World => W.cell? ⟨j, 0, none⟩ = some (ob d) ∧ W.cell? ⟨j, 1, none⟩ = some (.int .i64 (first : Int)) ∧ W.cell? ⟨j, 2, none⟩ = some (.int .i64 (sectors : Int))) (first | exact ⟨c0, c1, c2⟩ | exact ⟨below_cell hb1 c0, below_cell hb1 c1, below_cell hb1 c2⟩) (first | (go_at_call 16; refine HRD.out.mono ?_; rintro e w1 ⟨A, c, rfl, hown, hb1⟩))
    clear hm1 hm2 hm3 hm4
    go_wp2_with fail
    go_returns
    exact ⟨below_drew_trans hb1, .inl ⟨rfl, rfl⟩⟩
  | false =>
    have hE : readE (S.at_ k) false (at_ : Int) (L : Int) = 0 := by unfold readE; rw [if_pos (inB_nat (by omega))]; rfl
    have hB : readB (S.at_ k) false (at_ : Int) (L : Int) = b := by unfold readB; rw [hE, if_pos rfl, hb]; simp
    unfold ReadSpec at hread
    rw [hoff, hE, hB, hbl] at hread
    have HRD := Lib.hid hread
    obtain ⟨X, hX⟩ : ∃ X, stampN b = X := ⟨_, rfl⟩
    obtain ⟨U, hU⟩ : ∃ U, stampU b = U := ⟨_, rfl⟩
    have hX64 : X < 18446744073709551616 := by rw [← hX]; unfold stampN; exact rdN_lt64 _ (by simp; omega)
    have HST : Hid (∀ (w1 : World) (A : Option Addr) (c : Nat), L ≤ c → RdB w1 A b → Calls Try.prog 103 #[.slice A L c] w1 fun e w' => e = .returned (.tuple #[.int .u64 (X : Int), .int .i64 (U : Int)]) ∧ Below w1.heap.size w1 w') := Lib.hid (by
      intro w1 A c hc hr
      have := stamp_any w1 A c b L hbl (by omega) hc hr
      unfold StampSpec at this
      rw [hX, hU] at this
      exact this)
    rw [hX]
    have HX := Lib.hid hX
    have HU := Lib.hid hU
    obtain ⟨UB, hUB⟩ : ∃ UB, usedB b which = UB := ⟨_, rfl⟩
    obtain ⟨G, hG⟩ : ∃ G, X / 1048576 = G := ⟨_, rfl⟩
    rw [hUB, hG]
    have HG := Lib.hid hG
    have HUB := Lib.hid hUB
    have HUS : Hid (UB = true ↔ (X < 9223372036854775808 ∧ X % 1048576 = 0 ∧ 1 ≤ X / 1048576 ∧ (X / 1048576 + 1) % 2 = which ∧ U ≤ 119)) := Lib.hid (by
      rw [← hUB]; unfold usedB; rw [hX, hU]; simp only [Bool.and_eq_true, decide_eq_true_eq, and_assoc])
    have HWK : Hid (∃ WK, walkL b X sectors 0 = WK) := Lib.hid ⟨_, rfl⟩
    clear hX hU hUB hG
    clear hread hE hB hb hbb hbl hin hz hlim hrdl hat hL hq hk h
    cases UB with
    | false =>
      have hn := fun h => Bool.false_ne_true (HUS.out.2 h)
      have HN := Lib.hid hn
      clear hn
      obtain ⟨WK, hWK⟩ := HWK.out
      rw [hWK]
      clear hWK
      go_enter Try.func73, Try.ntmps73
      go_wp2_with fail
      have hm1 := HM1.out
      have hm2 := HM2.out
      have hm3 := HM3.out
      have hm4 := HM4.out
      go_region_held3 (fun W : World => W.cell? ⟨j, 0, none⟩ = some (ob d) ∧ W.cell? ⟨j, 1, none⟩ = some (.int .i64 (first : Int)) ∧ W.cell? ⟨j, 2, none⟩ = some (.int .i64 (sectors : Int))) (first | exact ⟨c0, c1, c2⟩ | exact ⟨below_cell hb1 c0, below_cell hb1 c1, below_cell hb1 c2⟩) (first | (go_at_call 16; refine HRD.out.mono ?_; rintro e w1 ⟨A, c, rfl, hown, hb1⟩))
      clear hm1 hm2 hm3 hm4
      go_wp2_with fail
      refine (HST.out _ A c (by have := OwnR.cap hown; rw [← HBL.out]; exact this) hown.rd).mono ?_
      rintro e w2 ⟨rfl, hb2⟩
      have c2w := below_cell hb2 (below_cell hb1 c2)
      go_wp2_with fail
      all_goals first
        | (exfalso; exact HN.out (by omega))
        | (go_returns; exact ⟨(below_drew_trans hb1).trans (hb2.mono hb1.size), .inr (.inl ⟨rfl, rfl, rfl⟩)⟩)
        | go_ways
    | true =>
      obtain ⟨u1, u2, u3, u4, u5⟩ := HUS.out.1 rfl
      have v1 : (X : Int) / 9223372036854775808 = 0 := by omega
      have v2 : (X : Int) % 1048576 = 0 := by omega
      have v3 : (1 : Int) ≤ (X : Int) / 1048576 := by omega
      have v4 : ((X : Int) / 1048576 + 1) % 2 = (which : Int) := by omega
      have HXL : Hid (X < 9223372036854775808) := Lib.hid u1
      clear u1 u2 u3 u4
      go_enter Try.func73, Try.ntmps73
      go_wp2_with fail
      have hm1 := HM1.out
      have hm2 := HM2.out
      have hm3 := HM3.out
      have hm4 := HM4.out
      go_region_held3 (fun W : World => W.cell? ⟨j, 0, none⟩ = some (ob d) ∧ W.cell? ⟨j, 1, none⟩ = some (.int .i64 (first : Int)) ∧ W.cell? ⟨j, 2, none⟩ = some (.int .i64 (sectors : Int))) (first | exact ⟨c0, c1, c2⟩ | exact ⟨below_cell hb1 c0, below_cell hb1 c1, below_cell hb1 c2⟩) (first | (go_at_call 16; refine HRD.out.mono ?_; rintro e w1 ⟨A, c, rfl, hown, hb1⟩))
      clear hm1 hm2 hm3 hm4
      go_wp2_with fail
      refine (HST.out _ A c (by have := OwnR.cap hown; rw [← HBL.out]; exact this) hown.rd).mono ?_
      rintro e w2 ⟨rfl, hb2⟩
      have c2w := below_cell hb2 (below_cell hb1 c2)
      have HWB : Hid (Below w.heap.size w w2) := Lib.hid ((below_drew_trans hb1).trans (hb2.mono hb1.size))
      have hcap := OwnR.cap hown
      rw [HBL.out] at hcap
      have hrd2 : RdB w2 A b := (OwnB.rd hown).below hb2
      obtain ⟨g, rfl⟩ : ∃ g, A = some ⟨g, 0, none⟩ := OwnR.some_ hown (by rw [HBL.out]; omega)
      have HAG : Hid (w.heap.size ≤ g ∧ g < w2.heap.size) := Lib.hid ⟨(OwnR.lt hown g rfl).1, Nat.lt_of_lt_of_le (OwnR.lt hown g rfl).2 hb2.size⟩
      have HRD2 := Lib.hid hrd2
      clear hrd2 hown hb1 hb2 HRD
      clear c0 c1 c2
      go_wp2_with fail
      obtain ⟨wo, hwo⟩ : ∃ wo : World, wo = w2 := ⟨_, rfl⟩
      subst hwo
      have HFIN : Hid (∀ (wr : World) (A1 : Option Addr) (n1 c1 : Nat) (st : List UInt8), n1 = st.length → OwnB wr wo.heap.size A1 c1 st → Below wo.heap.size wo wr → walkL b X sectors 0 = st →
          LoadSpec false true b (walkL b X sectors 0) G L w (.returned (.tuple #[.int .i64 ((X : Int) / 1048576), .slice A1 n1 c1, .slice (some ⟨g, 0, none⟩) L c, .int .i64 0])) wr) := Lib.hid (by
        intro wr A1 n1 c1 st h1 h2 h3 h4
        have hG : (X : Int) / 1048576 = (G : Int) := by have := HG.out; omega
        rw [h4, hG, h1]
        exact ⟨HWB.out.trans (h3.mono HWB.out.size), .inr (.inr ⟨rfl, rfl, A1, c1, _, c, rfl, OwnR.mono h2 HWB.out.size, hcap, HRD2.out.below h3, HAG.out.1⟩)⟩)
      go_loopw [13, 81] (fun s i wr => ∃ (t : Nat) (A1 : Option Addr) (n1 c1 : Nat) (st : List UInt8), t ≤ sectors ∧ s = .slice A1 n1 c1 ∧ i = .int .i64 (t : Int) ∧ n1 ≤ 119 * t ∧
        Hid (n1 = st.length ∧ OwnB wr wo.heap.size A1 c1 st ∧ Below wo.heap.size wo wr ∧ walkL b X sectors 0 = st ++ walkL b X (sectors - t) t)) (fun _ i _ => sectors - (RowKit.intOf i).toNat)
      case atStart => exact ⟨0, none, 0, 0, [], Nat.zero_le _, rfl, rfl, by omega, Lib.hid ⟨rfl, OwnB.nil _ _, Below.refl _ _, rfl⟩⟩
      case round =>
        obtain ⟨t, A1, n1, c1, st, ht, rfl, rfl, hn1, HJ⟩ := hrel
        by_cases hlt : t < sectors
        · have hi1 : (t : Int) < (sectors : Int) := by omega
          have hL4 : L = 128 * sectors := by have := HLS.out; omega
          have hne : ¬ (c = t * 128) := by omega
          have hle : (t : Int) * 128 ≤ (L : Int) := by omega
          obtain ⟨bt, hbt⟩ : ∃ bt, b.drop (t * 128) = bt := ⟨_, rfl⟩
          obtain ⟨Y, hY⟩ : ∃ Y, stampN bt = Y := ⟨_, rfl⟩
          obtain ⟨V, hV⟩ : ∃ V, stampU bt = V := ⟨_, rfl⟩
          have hbtl : bt.length = L - t * 128 := by rw [← hbt, List.length_drop, HBL.out]
          have hrdw : RdB wr (some ⟨g, t * 128, none⟩) bt := by rw [← hbt]; exact rd_at (HRD2.out.below HJ.out.2.2.1)
          have HRW := Lib.hid hrdw
          have HSI : Hid (Calls Try.prog 103 #[.slice (some ⟨g, t * 128, none⟩) (L - t * 128) (c - t * 128)] wr fun e w' => e = .returned (.tuple #[.int .u64 (Y : Int), .int .i64 (V : Int)]) ∧ Below wr.heap.size wr w') := Lib.hid (by
            have := stamp_any wr (some ⟨g, t * 128, none⟩) (c - t * 128) bt (L - t * 128) hbtl (by omega) (by omega) hrdw
            unfold StampSpec at this
            rw [hY, hV] at this
            exact this)
          have HST1 : Hid (¬ (Y = X + t ∧ V ≤ 119) → walkL b X sectors 0 = st) := Lib.hid (fun h => by
            have e := HJ.out.2.2.2
            rw [walkL_stop (n := sectors - t) (t := t) (by rw [hbt, hY, hV]; exact h), List.append_nil] at e
            exact e)
          have HST2 : Hid (Y = X + t ∧ V ≤ 119 → walkL b X sectors 0 = st ++ ((bt.drop 9).take V ++ (if V < 119 then [] else walkL b X (sectors - (t + 1)) (t + 1)))) := Lib.hid (fun h => by
            have e := HJ.out.2.2.2
            rw [walkL_go hlt (by rw [hbt, hY, hV]; exact h), hbt, hV] at e
            exact e)
          have HBT : Hid (V ≤ 119 → ((bt.drop 9).take V).length = V) := Lib.hid (fun h => by rw [List.length_take, List.length_drop, hbtl]; omega)
          have hV8 : V < 256 := by rw [← hV]; exact (bt.getD 8 0).toNat_lt
          have hcr : ¬ (c - t * 128 = 9) := by omega
          have hcr2 : (9 : Int) + 119 ≤ ((c - t * 128 : Nat) : Int) := by omega
          clear hL4 hY hV hbtl hrdw hbt
          go_wp2_with fail
          refine HSI.out.mono ?_
          rintro e w3 ⟨rfl, hb3⟩
          have HB3 := Lib.hid hb3
          have hs3 := hb3.size
          have hs4 : wo.heap.size ≤ wr.heap.size := HJ.out.2.2.1.size
          clear hb3
          by_cases hq : Y = X + t ∧ V ≤ 119
          · obtain ⟨rfl, hq2⟩ := hq
            have hY1 : IntKind.u64.wrap ((X : Int) + (t : Int)) = (X : Int) + (t : Int) := by have := HXL.out; rw [IntKind.wrap_u64]; omega
            have hsv := HST2.out ⟨rfl, hq2⟩
            have HSV := Lib.hid hsv
            have hbl := HBT.out hq2
            have HBLV := Lib.hid hbl
            have hq3 : (9 : Int) + (V : Int) ≤ ((c - t * 128 : Nat) : Int) := by omega
            have hrd9 : RdB w3 (some ⟨g, t * 128 + 9, none⟩) ((bt.drop 9).take V) := by
              have h1 := (HRW.out.below HB3.out).tail 9
              rw [add_pos _ _ (by omega)] at h1
              exact h1.take V
            have HR9 := Lib.hid hrd9
            clear hbl hrd9 hsv HST1 HST2 HSI HBT
            have hlen4 : n1 + V = (st ++ (bt.drop 9).take V).length := by rw [List.length_append, HBLV.out, ← HJ.out.1]
            have HL4 := Lib.hid hlen4
            clear hlen4
            by_cases hv : V < 119
            · go_wp2_with (at_builtin; go_must (refine wpList_appRd (.inl rfl) (.tmp 103) (.tmp 107) rfl wo.heap.size A1 n1 c1 st rfl HJ.out.1 (OwnB.below HJ.out.2.1 HB3.out) _ _ _ ((bt.drop 9).take V) rfl (by rw [HBLV.out]; omega) HR9.out (by rw [HBLV.out, ← HJ.out.1]; omega) (by omega) ?_); (rw [HBLV.out, ← HJ.out.1]; intro A4 c4 w4 hown4 hg4 hat4))
              have HB4 : Hid (Below wo.heap.size wo w4) := Lib.hid ((HJ.out.2.2.1.trans (HB3.out.mono hs4)).grown hg4 (by omega) (fun k hk => (OwnR.lt HJ.out.2.1 k hk).1))
              have HO4 := Lib.hid hown4
              clear hown4 hg4 hat4
              go_wp2_with fail
              go_returns
              refine HFIN.out w4 A4 _ c4 _ HL4.out HO4.out HB4.out ?_
              rw [HSV.out, if_pos hv, List.append_nil]
            · go_wp2_with (at_builtin; go_must (refine wpList_appRd (.inl rfl) (.tmp 103) (.tmp 107) rfl wo.heap.size A1 n1 c1 st rfl HJ.out.1 (OwnB.below HJ.out.2.1 HB3.out) _ _ _ ((bt.drop 9).take V) rfl (by rw [HBLV.out]; omega) HR9.out (by rw [HBLV.out, ← HJ.out.1]; omega) (by omega) ?_); (rw [HBLV.out, ← HJ.out.1]; intro A4 c4 w4 hown4 hg4 hat4))
              have HB4 : Hid (Below wo.heap.size wo w4) := Lib.hid ((HJ.out.2.2.1.trans (HB3.out.mono hs4)).grown hg4 (by omega) (fun k hk => (OwnR.lt HJ.out.2.1 k hk).1))
              have HO4 := Lib.hid hown4
              clear hown4 hg4 hat4
              go_wp2_with fail
              refine ⟨⟨t + 1, A4, _, c4, _, by omega, rfl, int_eq (by omega), by omega, Lib.hid ⟨HL4.out, HO4.out, HB4.out, ?_⟩⟩, by simp [RowKit.intOf]; omega⟩
              rw [HSV.out, if_neg hv, List.append_assoc]
          · have hnq := HST1.out hq
            have HNQ := Lib.hid hnq
            clear hnq HST1 HST2 HSI HBT
            by_cases hy : Y = X + t
            · have hv : (119 : Int) < (V : Int) := by omega
              subst hy
              have hY1 : IntKind.u64.wrap ((X : Int) + (t : Int)) = (X : Int) + (t : Int) := by have := HXL.out; rw [IntKind.wrap_u64]; omega
              go_wp2_with fail
              go_returns
              exact HFIN.out w3 A1 n1 c1 st HJ.out.1 (OwnB.below HJ.out.2.1 HB3.out) (HJ.out.2.2.1.trans (HB3.out.mono hs4)) HNQ.out
            · have hyz : (Y : Int) ≠ ((X + t : Nat) : Int) := by omega
              have hyb : ((Y : Int) != (X : Int) + (t : Int)) = true := by rw [bne_iff_ne]; omega
              have hY1 : IntKind.u64.wrap ((X : Int) + (t : Int)) = (X : Int) + (t : Int) := by have := HXL.out; rw [IntKind.wrap_u64]; omega
              clear hyz hy hq
              go_wp2_with fail
              all_goals first
                | (go_returns; exact HFIN.out w3 A1 n1 c1 st HJ.out.1 (OwnB.below HJ.out.2.1 HB3.out) (HJ.out.2.2.1.trans (HB3.out.mono hs4)) HNQ.out)
                | go_ways
        · have ht2 : t = sectors := by omega
          subst ht2
          go_wp2_with fail
          go_returns
          refine HFIN.out wr A1 n1 c1 st HJ.out.1 HJ.out.2.1 HJ.out.2.2.1 ?_
          have e := HJ.out.2.2.2
          rw [Nat.sub_self] at e
          rw [e]; exact List.append_nil _
end Go.Proofs.Ytjmhfjioccljeaa
