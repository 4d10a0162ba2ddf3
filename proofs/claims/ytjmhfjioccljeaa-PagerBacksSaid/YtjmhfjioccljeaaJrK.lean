/-
  Walk: Open of package journal.
-/
import Derived.Test.YtjmhfjioccljeaaJrJ
namespace Go.Proofs.Ytjmhfjioccljeaa
open Go.RowKit
set_option linter.unusedVariables false
set_option linter.unusedSimpArgs false
attribute [local go_sem ↓] Go.wp_at_zero Go.wp_at_succ

theorem jsplit_nil (w : World) (c : Nat) : Calls Try.prog 74 #[.slice none 0 c] w fun e w' => SplitSpec [] 0 w e w' := by
  go_enter Try.func74, Try.ntmps74
  go_wp2_with fail
  refine wp_loop_rounds 1 ?_
  rw [rounds_succ]
  go_wp2_with fail
  go_returns
  exact ⟨none, 0, rfl, OwnW.nil _ _, Below.refl _ _⟩
theorem jsplit_at (w : World) (A : Option Addr) (c : Nat) (s : List UInt8) (len : Nat) (hl : s.length = len) (hc : len ≤ c) (hlen : len ≤ 1000000) (hA : RdB w A s) (hf : (A = none ∧ len = 0) ∨ ∃ g, A = some ⟨g, 0, none⟩) :
    Calls Try.prog 74 #[.slice A len c] w fun e w' => SplitSpec (splitL s).1 (splitL s).2 w e w' := by
  rcases hf with ⟨rfl, rfl⟩ | ⟨g, rfl⟩
  · have hs : s = [] := List.eq_nil_of_length_eq_zero hl
    subst hs
    exact jsplit_nil w c
  · exact jsplit_any w g c s len hl hc hlen hA
/-- which area is picked, area by area -/
def pkF (S : St) (k first sectors : Nat) : Nat → Nat × List UInt8 × List UInt8
  | 0 => (0, [], [])
  | t + 1 => if (loadL (areaL S k first sectors t) sectors t).1 > (pkF S k first sectors t).1 then ((loadL (areaL S k first sectors t) sectors t).1, (loadL (areaL S k first sectors t) sectors t).2, areaL S k first sectors t) else pkF S k first sectors t
theorem pkF_two (S : St) (k first sectors : Nat) : (pkF S k first sectors 2).1 = (pickF S k first sectors).1 ∧ ((pkF S k first sectors 2).1 ≠ 0 → pkF S k first sectors 2 = pickF S k first sectors) := by
  have h1 : (pkF S k first sectors 1).1 = (loadL (areaL S k first sectors 0) sectors 0).1 := by
    show (if _ then _ else pkF S k first sectors 0).1 = _
    by_cases h : (loadL (areaL S k first sectors 0) sectors 0).1 > (pkF S k first sectors 0).1
    · rw [if_pos h]
    · rw [if_neg h]
      show 0 = _
      have : (pkF S k first sectors 0).1 = 0 := rfl
      omega
  have h2 : (pkF S k first sectors 1).1 ≠ 0 → pkF S k first sectors 1 = ((loadL (areaL S k first sectors 0) sectors 0).1, (loadL (areaL S k first sectors 0) sectors 0).2, areaL S k first sectors 0) := fun hne => by
    show (if _ then _ else pkF S k first sectors 0) = _
    rw [h1] at hne
    exact if_pos (Nat.pos_of_ne_zero hne)
  have e2 : pkF S k first sectors 2 = if (loadL (areaL S k first sectors 1) sectors 1).1 > (pkF S k first sectors 1).1 then ((loadL (areaL S k first sectors 1) sectors 1).1, (loadL (areaL S k first sectors 1) sectors 1).2, areaL S k first sectors 1) else pkF S k first sectors 1 := rfl
  unfold pickF
  rw [e2, h1]
  by_cases h : (loadL (areaL S k first sectors 1) sectors 1).1 > (loadL (areaL S k first sectors 0) sectors 0).1
  · rw [if_pos h, if_pos h]; exact ⟨rfl, fun _ => rfl⟩
  · rw [if_neg h, if_neg h]
    exact ⟨h1, fun hne => h2 hne⟩
theorem load_used {b : List UInt8} {m which : Nat} (h : usedB b which = true) : loadL b m which = (stampN b / 1048576, walkL b (stampN b) m 0) ∧ 1 ≤ stampN b / 1048576 ∧ stampN b / 1048576 ≤ 8796093022207 := by
  refine ⟨by unfold loadL; rw [if_pos h], ?_⟩
  unfold usedB at h
  simp only [Bool.and_eq_true, decide_eq_true_eq] at h
  omega
theorem load_unused {b : List UInt8} {m which : Nat} (h : usedB b which = false) : loadL b m which = (0, []) := by unfold loadL; rw [if_neg (by rw [h]; simp)]
def OpenSpec (p : Nat) (as_ : List Nat) (S : St) (k d first sectors : Nat) (F : Nat → Prop) (R : Int × St) (w : World) (e : Ending) (w' : World) : Prop :=
  (R.1 ≠ 0 ∧ e = .returned (.tuple #[.pointer none, .slice none 0 0, .int .i64 R.1]) ∧ ∃ F', PwS w' p as_ R.2 F' ∧ Step F F' w w') ∨
  (R.1 = 0 ∧ ∃ j A n c F' G, e = .returned (.tuple #[ob j, .slice A n c, .int .i64 0]) ∧ n = (openR S k first sectors).length ∧ OwnW w' w.heap.size A c (openR S k first sectors) ∧ n ≤ c ∧ PwS w' p as_ R.2 F' ∧ JrR w' j d (openJ S k first sectors) G ∧
    Dis F' G ∧ Step F (Un F' G) w w' ∧ (∀ b, blk A = some b → w.heap.size ≤ b ∧ ¬ F' b ∧ ¬ G b ∧ b < w'.heap.size) ∧ (openJ S k first sectors).Ok (R.2.at_ k).size ∧ (openR S k first sectors).length ≤ 60000 ∧ Ge G w.heap.size)
theorem OwnR.form_ {w : World} {base : Nat} {e : TypeId} {size : Nat} {A : Option Addr} {n c : Nat} {xs : List Value} (h : OwnR w base e size A n c xs) : (A = none ∧ n = 0) ∨ ∃ g, A = some ⟨g, 0, none⟩ := by
  rcases h.2 with ⟨e0, _⟩ | ⟨g, cap, cur, e0, _⟩
  · left
    injection e0 with h1 h2 h3
    exact ⟨h1, h2⟩
  · right
    injection e0 with h1 h2 h3
    exact ⟨g, h1⟩
/-- how far an opening has come when t areas are gone through -/
def OInv (S : St) (k first sectors d j L t : Nat) (wr : World) (v : Value) : Prop :=
  ∃ (gn : Nat) (st : List UInt8) (A : Option Addr) (n c : Nat), Blk wr j 108 #[ob d, .int .i64 (first : Int), .int .i64 (sectors : Int), .int .i64 (gn : Int), .slice A n c, .slice none 0 0, .int .i64 0] ∧
    n = st.length ∧ n ≤ c ∧ n ≤ 119 * sectors ∧ RdB wr A st ∧ ((A = none ∧ n = 0) ∨ ∃ g, A = some ⟨g, 0, none⟩ ∧ j < g ∧ g < wr.heap.size) ∧ gn = (pkF S k first sectors t).1 ∧ gn ≤ 8796093022207 ∧
    (gn ≠ 0 → st = (pkF S k first sectors t).2.1 ∧ ∃ q cr, v = .slice (some ⟨q, 0, none⟩) L cr ∧ L ≤ cr ∧ RdB wr (some ⟨q, 0, none⟩) (pkF S k first sectors t).2.2 ∧ (pkF S k first sectors t).2.2.length = L)
theorem area_len {S : St} {k first sectors which : Nat} (h : first + 2 * sectors * 128 ≤ (S.at_ k).size) (hw : which ≤ 1) : (areaL S k first sectors which).length = sectors * 128 := by
  have := area_in h hw
  unfold areaL
  rw [List.length_take, List.length_drop]
  unfold Dk.size at this
  omega
section
variable {w w' : World} {p k d : Nat} {as_ : List Nat} {S : St} {F : Nat → Prop}
theorem jopen_bad (h : PwS w p as_ S F) (hk : as_[k]? = some d) (first sectors : Int) (hf : -9223372036854775808 ≤ first ∧ first ≤ 9223372036854775807) (hs : -9223372036854775808 ≤ sectors ∧ sectors ≤ 9223372036854775807) (hc : checkB (S.at_ k).size first sectors = false) :
    Calls Try.prog 17 #[ob d, .int .i64 first, .int .i64 sectors] w fun e w' => e = .returned (.tuple #[.pointer none, .slice none 0 0, .int .i64 1]) ∧ w = w' := by
  have HCH := Lib.hid (jcheck_any h hk first sectors hf hs)
  rw [if_neg (by rw [hc]; simp)] at HCH
  clear hc h hk hf hs
  go_enter Try.func17, Try.ntmps17
  go_wp2_with fail
  refine HCH.out.mono ?_
  rintro e _ ⟨rfl, rfl⟩
  go_wp2_with fail
  go_returns
  exact ⟨rfl, rfl⟩
set_option maxRecDepth 100000 in
set_option maxHeartbeats 4000000 in
theorem jopen_any (h : PwS w p as_ S F) (hk : as_[k]? = some d) (first sectors : Nat) (hc : checkB (S.at_ k).size (first : Int) (sectors : Int) = true) :
    Calls Try.prog 17 #[ob d, .int .i64 (first : Int), .int .i64 (sectors : Int)] w fun e w' => OpenSpec p as_ S k d first sectors F (openF S k first sectors) w e w' := by
  have hlim : (S.at_ k).size ≤ 2097152 := by
    obtain ⟨_, _, _, _, _, _, _, _, _, h2, _⟩ := h.open_ hk
    have h3 := h2.lim
    have h4 := h2.ok.rd
    unfold Dk.size
    omega
  have hcc := hc
  unfold checkB at hcc
  simp only [Bool.and_eq_true, decide_eq_true_eq] at hcc
  have hs2 : 2 ≤ sectors := by omega
  have hsM : sectors ≤ 2000 := by omega
  have hpl : first + 2 * sectors * 128 ≤ (S.at_ k).size := by omega
  have hfirst : first ≤ 2097152 := by omega
  have HCH := Lib.hid (jcheck_any h hk (first : Int) (sectors : Int) (by omega) (by omega))
  rw [if_pos hc] at HCH
  have HP := Lib.hid h
  have HK := Lib.hid hk
  have HLD : Hid (∀ (W : World) (wh : Nat), Below w.heap.size w W → wh ≤ 1 → W.cell? ⟨w.heap.size, 0, none⟩ = some (ob d) → W.cell? ⟨w.heap.size, 1, none⟩ = some (.int .i64 (first : Int)) → W.cell? ⟨w.heap.size, 2, none⟩ = some (.int .i64 (sectors : Int)) →
      Calls Try.prog 73 #[ob w.heap.size, .int .i64 (wh : Int)] W fun e w' => LoadSpec S.off (usedB (areaL S k first sectors wh) wh) (areaL S k first sectors wh) (walkL (areaL S k first sectors wh) (stampN (areaL S k first sectors wh)) sectors 0) (stampN (areaL S k first sectors wh) / 1048576) (sectors * 128) W e w') :=
    Lib.hid (fun W wh hW hwh a b c => jload_any (h.below hW) hk a b c hs2 hsM hpl hwh)
  obtain ⟨R, hR⟩ : ∃ R, openF S k first sectors = R := ⟨_, rfl⟩
  rw [hR]
  have HR := Lib.hid hR
  clear hR hcc hc h hk
  cases hoff : S.off with
  | true =>
    have hR4 : R = (4, S) := by rw [← HR.out]; unfold openF; rw [if_pos hoff]
    have HR4 := Lib.hid hR4
    rw [hoff] at HLD
    have HOFF := Lib.hid hoff
    clear hoff hR4
    go_enter Try.func17, Try.ntmps17
    go_wp2_with fail
    refine HCH.out.mono ?_
    rintro e _ ⟨rfl, rfl⟩
    go_wp2_with fail
    obtain ⟨w1, hw1⟩ : ∃ w1, w1 = w.alloc (.cells #[ob d, .int .i64 (first : Int), .int .i64 (sectors : Int), .int .i64 0, .slice none 0 0, .slice none 0 0, .int .i64 0] 108) := ⟨_, rfl⟩
    have hbk : Blk w1 w.heap.size 108 #[ob d, .int .i64 (first : Int), .int .i64 (sectors : Int), .int .i64 0, .slice none 0 0, .slice none 0 0, .int .i64 0] := by rw [hw1]; exact Blk.new _ _ _
    have hb1 : Below w.heap.size w w1 := by rw [hw1]; exact (Below.refl _ _).alloc (Nat.le_refl _) _
    have hcall := HLD.out w1 0 hb1 (by omega) (hbk.cell 0) (hbk.cell 1) (hbk.cell 2)
    have HC := Lib.hid hcall
    have HB1 := Lib.hid hb1
    rw [← hw1]
    clear hcall hb1 hbk hw1
    refine wp_loop_rounds 1 ?_
    rw [rounds_succ]
    go_wp2_with fail
    refine HC.out.mono ?_
    rintro e w2 ⟨hb2, hcs⟩
    rcases hcs with ⟨_, rfl⟩ | ⟨h9, _⟩ | ⟨h9, _⟩
    · have HB2 := Lib.hid hb2
      clear hb2
      go_wp2_with fail
      go_returns
      rw [HR4.out]
      have hb := HB1.out.trans (HB2.out.mono HB1.out.size)
      exact .inl ⟨by simp, rfl, F, HP.out.below hb, Step.of_below hb F⟩
    · cases h9
    · cases h9
  | false =>
    have hR2 : R = if (pickF S k first sectors).1 = 0 then (2, S) else trimF S k first sectors (pickF S k first sectors).1 ((pickF S k first sectors).2.1.take (splitL (pickF S k first sectors).2.1).2) (pickF S k first sectors).2.2 := by
      rw [← HR.out]; unfold openF; rw [if_neg (by rw [hoff]; simp)]
    have HR2 := Lib.hid hR2
    rw [hoff] at HLD
    obtain ⟨L, hL⟩ : ∃ L, sectors * 128 = L := ⟨_, rfl⟩
    obtain ⟨j, hj⟩ : ∃ j, w.heap.size = j := ⟨_, rfl⟩
    rw [hL] at HLD
    have HLS := Lib.hid hL
    have HJJ := Lib.hid hj
    clear hoff hR2 hL
    go_enter Try.func17, Try.ntmps17
    go_wp2_with fail
    refine HCH.out.mono ?_
    rintro e _ ⟨rfl, rfl⟩
    go_wp2_with fail
    obtain ⟨w1, hw1⟩ : ∃ w1, w1 = w.alloc (.cells #[ob d, .int .i64 (first : Int), .int .i64 (sectors : Int), .int .i64 0, .slice none 0 0, .slice none 0 0, .int .i64 0] 108) := ⟨_, rfl⟩
    have hbk : Blk w1 j 108 #[ob d, .int .i64 (first : Int), .int .i64 (sectors : Int), .int .i64 0, .slice none 0 0, .slice none 0 0, .int .i64 0] := by rw [hw1, ← hj]; exact Blk.new _ _ _
    have hb1 : Below w.heap.size w w1 := by rw [hw1]; exact (Below.refl _ _).alloc (Nat.le_refl _) _
    have HB1 := Lib.hid hb1
    have HBK1 := Lib.hid hbk
    try rw [← hw1]
    try rw [hj]
    rw [hj] at HLD
    clear hb1 hbk hw1 hj
    go_loopw [11, 32] (fun v i wr => ∃ t : Nat, t ≤ 2 ∧ i = .int .i64 (t : Int) ∧ Hid (Below w.heap.size w wr ∧ OInv S k first sectors d j L t wr v)) (fun _ i _ => 2 - (RowKit.intOf i).toNat)
    case atStart => exact ⟨0, by omega, rfl, Lib.hid ⟨HB1.out, 0, [], none, 0, 0, HBK1.out, rfl, Nat.le_refl _, Nat.zero_le _, fun h => absurd h (by simp), .inl ⟨rfl, rfl⟩, rfl, by omega, fun h => absurd rfl h⟩⟩
    case round =>
      obtain ⟨t, ht, rfl, HI⟩ := hrel
      obtain ⟨hbw, gn, st, A, n, c, hbk, hn, hnc, hn119, hrd, hA, hgn, hgm, hraw⟩ := HI.out
      have HBW := Lib.hid hbw
      have HBK := Lib.hid hbk
      have HN := Lib.hid hn
      have HRD := Lib.hid hrd
      have HA := Lib.hid hA
      have HGN := Lib.hid hgn
      have HRAW := Lib.hid hraw
      clear hbw hbk hn hrd hA hgn hraw HI
      by_cases hlt : t < 2
      · have hti : (t : Int) < 2 := by omega
        have hcall := HLD.out wr t (by have h1 := HBW.out; rw [HJJ.out] at h1; exact h1) (by omega) (HBK.out.cell 0) (HBK.out.cell 1) (HBK.out.cell 2)
        have HC := Lib.hid hcall
        clear hcall
        go_wp2_with fail
        refine HC.out.mono ?_
        rintro e w2 ⟨hb2, hcs⟩
        have HB2 := Lib.hid hb2
        have c3 : w2.cell? ⟨j, 3, none⟩ = some (.int .i64 (gn : Int)) := below_cell hb2 (HBK.out.cell 3)
        have HBK2 := Lib.hid (HBK.out.below_ hb2)
        have HA2 : Hid ((A = none ∧ n = 0) ∨ ∃ g, A = some ⟨g, 0, none⟩ ∧ j < g ∧ g < w2.heap.size) := Lib.hid (by
          rcases HA.out with h1 | ⟨g, h1, h2, h3⟩
          · exact .inl h1
          · exact .inr ⟨g, h1, h2, Nat.lt_of_lt_of_le h3 hb2.size⟩)
        clear hb2
        rcases hcs with ⟨h9, _⟩ | ⟨_, hu, rfl⟩ | ⟨_, hu, A2, c2, q, cr, rfl, hown, hLc, hrq, hq⟩
        · cases h9
        · have HU := Lib.hid hu
          clear hu
          go_wp2_with fail
          have hpk : pkF S k first sectors (t + 1) = pkF S k first sectors t := by
            show (if _ then _ else _) = _
            rw [load_unused HU.out, if_neg (by simp)]
          refine ⟨⟨t + 1, by omega, by first | omega | exact int_eq (by omega), Lib.hid ⟨HBW.out.trans (HB2.out.mono HBW.out.size), gn, st, A, n, c, HBK2.out, HN.out, hnc, hn119, HRD.out.below HB2.out, HA2.out, by rw [hpk]; exact HGN.out, hgm, fun hne => ?_⟩⟩, by simp [RowKit.intOf]; omega⟩
          rw [hpk]
          obtain ⟨h1, q, cr, h2, h3, h4, h5⟩ := HRAW.out hne
          exact ⟨h1, q, cr, h2, h3, h4.below HB2.out, h5⟩
        · obtain ⟨hl1, hl2, hl3⟩ := load_used (m := sectors) hu
          obtain ⟨G, hG⟩ : ∃ G, stampN (areaL S k first sectors t) / 1048576 = G := ⟨_, rfl⟩
          obtain ⟨wk, hwk⟩ : ∃ wk, walkL (areaL S k first sectors t) (stampN (areaL S k first sectors t)) sectors 0 = wk := ⟨_, rfl⟩
          have hwkl : wk.length ≤ 119 * sectors := by rw [← hwk]; exact walkL_le _ _ _ _
          rw [hG] at hl1 hl2 hl3
          rw [hwk] at hl1 hown
          rw [hG, hwk]
          have HL1 := Lib.hid hl1
          have HOWN := Lib.hid hown
          have HRQ := Lib.hid hrq
          have f3 := HBK2.out.frozen 3
          have f4 := HBK2.out.frozen 4
          have c4 : w2.cell? ⟨j, 4, none⟩ = some (.slice A n c) := HBK2.out.cell 4
          obtain ⟨wl, hwl⟩ : ∃ wl, wk.length = wl := ⟨_, rfl⟩
          rw [hwl] at hwkl ⊢
          have HWL := Lib.hid hwl
          have HQ := Lib.hid hq
          have HAL : Hid ((areaL S k first sectors t).length = L) := Lib.hid (by rw [area_len hpl (by omega)]; exact HLS.out)
          clear hl1 hG hwk hown hrq hu hwl hq
          by_cases hgt : gn < G
          · have hgti : (gn : Int) < (G : Int) := by omega
            go_wp2_with fail
            have hst : Step (one j) (one j) w2 ((w2.setCell ⟨j, 3, none⟩ (.int .i64 (G : Int))).setCell ⟨j, 4, none⟩ (.slice A2 wl c2)) := Step.setCell (a := ⟨j, 4, none⟩) (Step.setCell (a := ⟨j, 3, none⟩) (Step.refl (one j) _) (.inl rfl) _) (.inl rfl) _
            have hb := (HBK2.out.set_ 3 (.int .i64 (G : Int))).set_ 4 (.slice A2 wl c2)
            have hpk : pkF S k first sectors (t + 1) = (G, wk, areaL S k first sectors t) := by
              show (if _ then _ else _) = _
              rw [HL1.out, if_pos (by show G > _; rw [← HGN.out]; exact hgt)]
            have hjlt : j < wr.heap.size := HBK.out.lt
            have hns : ∀ b, wr.heap.size ≤ b → b < w2.heap.size → ((w2.setCell ⟨j, 3, none⟩ (.int .i64 (G : Int))).setCell ⟨j, 4, none⟩ (.slice A2 wl c2)).heap[b]? = w2.heap[b]? := fun b h1 h2 => hst.block b h2 (fun e => by have : b = j := e; omega)
            refine ⟨⟨t + 1, by omega, by first | omega | exact int_eq (by omega), Lib.hid ⟨?_, G, wk, A2, wl, c2, hb, HWL.out.symm, ?_, hwkl, ?_, ?_, by rw [hpk], by omega, fun _ => ?_⟩⟩, by simp [RowKit.intOf]; omega⟩
            · have hj0 : w.heap.size ≤ j := Nat.le_of_eq HJJ.out
              exact ((HBW.out.trans (HB2.out.mono HBW.out.size)).setCell (p := ⟨j, 3, none⟩) hj0 _).setCell (p := ⟨j, 4, none⟩) hj0 _
            · have := OwnR.cap HOWN.out
              rw [HWL.out] at this; exact this
            · refine HOWN.out.rd.keep fun ad e => hns _ ?_ ?_
              · exact (OwnR.lt HOWN.out ad.block (by rw [e]; rfl)).1
              · exact (OwnR.lt HOWN.out ad.block (by rw [e]; rfl)).2
            · rcases OwnR.form_ HOWN.out with ⟨h1, h2⟩ | ⟨g, hg⟩
              · exact .inl ⟨h1, by rw [← HWL.out]; exact h2⟩
              · have := OwnR.lt HOWN.out g (by rw [hg]; rfl)
                exact .inr ⟨g, hg, by omega, Nat.lt_of_lt_of_le this.2 hst.size⟩
            · rw [hpk]
              exact ⟨rfl, q, cr, rfl, hLc, HRQ.out.keep (fun ad e => by cases e; exact hns q HQ.out (HRQ.out.lt (by rw [HAL.out, ← HLS.out]; omega) rfl)), HAL.out⟩
          · have hgti : ¬ (gn : Int) < (G : Int) := by omega
            have hgtj : (G : Int) ≤ (gn : Int) := by omega
            go_wp2_with fail
            have hpk : pkF S k first sectors (t + 1) = pkF S k first sectors t := by
              show (if _ then _ else _) = _
              rw [HL1.out, if_neg (by show ¬ G > _; rw [← HGN.out]; exact hgt)]
            refine ⟨⟨t + 1, by omega, by first | omega | exact int_eq (by omega), Lib.hid ⟨HBW.out.trans (HB2.out.mono HBW.out.size), gn, st, A, n, c, HBK2.out, HN.out, hnc, hn119, HRD.out.below HB2.out, HA2.out, by rw [hpk]; exact HGN.out, hgm, fun hne => ?_⟩⟩, by simp [RowKit.intOf]; omega⟩
            rw [hpk]
            obtain ⟨h1, q, cr, h2, h3, h4, h5⟩ := HRAW.out hne
            exact ⟨h1, q, cr, h2, h3, h4.below HB2.out, h5⟩
      · have ht2 : t = 2 := by omega
        subst ht2
        obtain ⟨hpk1, hpk2⟩ := pkF_two S k first sectors
        have HPK1 := Lib.hid hpk1
        have HPK2 := Lib.hid hpk2
        have c3 : wr.cell? ⟨j, 3, none⟩ = some (.int .i64 (gn : Int)) := HBK.out.cell 3
        clear hpk1 hpk2
        by_cases hg0 : gn = 0
        · subst hg0
          go_wp2_with fail
          go_returns
          have hR3 : R = (2, S) := by rw [HR2.out, if_pos (by rw [← HPK1.out]; exact HGN.out.symm)]
          rw [hR3]
          exact .inl ⟨by simp, rfl, F, HP.out.below HBW.out, Step.of_below HBW.out F⟩
        · obtain ⟨hst, q, cr, rfl, hLc, hrq, hrl⟩ := HRAW.out hg0
          have hpk : pkF S k first sectors 2 = pickF S k first sectors := HPK2.out (by rw [← HGN.out]; exact hg0)
          rw [hpk] at hst hrq hrl
          have hgn2 : (pickF S k first sectors).1 = gn := by rw [← HPK1.out]; exact HGN.out.symm
          obtain ⟨raw, hraw⟩ : ∃ raw, (pickF S k first sectors).2.2 = raw := ⟨_, rfl⟩
          obtain ⟨rs, hrs⟩ : ∃ rs, (splitL st).1 = rs := ⟨_, rfl⟩
          obtain ⟨m, hm⟩ : ∃ m, (splitL st).2 = m := ⟨_, rfl⟩
          have hsp := splitG_le st.length st
          have hmn : m ≤ n ∧ 4 * rs.length ≤ m := by
            rw [HN.out, ← hrs, ← hm]; exact hsp
          obtain ⟨hmn1, hmn2⟩ := hmn
          have hJ : openJ S k first sectors = ⟨first, sectors, gn, st.take m, [], 0⟩ := by unfold openJ; rw [← hst, hm, hgn2]
          have hOR : openR S k first sectors = rs := by unfold openR; rw [← hst, hrs]
          have hR3 : R = trimF S k first sectors gn (st.take m) raw := by
            rw [HR2.out, if_neg (by rw [hgn2]; exact hg0), hgn2, ← hst, hm, hraw]
          rw [hraw] at hrq hrl
          have hml : (st.take m).length = m := by rw [List.length_take, ← HN.out]; omega
          have HML := Lib.hid hml
          have HJ := Lib.hid hJ
          have HOR := Lib.hid hOR
          have HR3 := Lib.hid hR3
          have HRQ := Lib.hid hrq
          have HRL := Lib.hid hrl
          have HSPL : Hid (Calls Try.prog 74 #[.slice A n c] wr fun e w' => SplitSpec rs m wr e w') := Lib.hid (by
            have := jsplit_at wr A c st n HN.out.symm hnc (by omega) HRD.out (by
              rcases HA.out with h1 | ⟨g, h1, _⟩
              · exact .inl h1
              · exact .inr ⟨g, h1⟩)
            rw [hrs, hm] at this
            exact this)
          have HOK : Hid ((⟨first, sectors, gn, st.take m, [], 0⟩ : Js).Ok (S.at_ k).size) := Lib.hid ⟨hs2, hsM, hpl, hlim, by show 1 ≤ gn; omega, by show gn ≤ 8796093022208; omega, by show (st.take m).length + ([] : List UInt8).length ≤ 119 * sectors; rw [hml]; simp; omega, by simp, fun _ => rfl⟩
          have hgz : ((gn : Int) == 0) = false := by rw [beq_eq_false_iff_ne]; omega
          have c4 : wr.cell? ⟨j, 4, none⟩ = some (.slice A n c) := HBK.out.cell 4
          have HG0 := Lib.hid hg0
          have hmc : m ≤ c := by omega
          clear hst hpk hgn2 hraw hrs hm hsp hJ hOR hR3 hml hrq hrl hg0
          go_wp2_with fail
          refine HSPL.out.mono ?_
          rintro e w2 ⟨A3, c3', rfl, hown3, hb2⟩
          have HO3 := Lib.hid hown3
          have HB2 := Lib.hid hb2
          have HBK2 := Lib.hid (HBK.out.below_ hb2)
          have d4 : w2.cell? ⟨j, 4, none⟩ = some (.slice A n c) := HBK2.out.cell 4
          have f4 := HBK2.out.frozen 4
          have HJR : Hid (JrR (w2.setCell ⟨j, 4, none⟩ (.slice A m m)) j d ⟨first, sectors, gn, st.take m, [], 0⟩ (jrF j A none)) := Lib.hid (by
            have hb := HBK2.out.set_ 4 (.slice A m m)
            have hrd2 := (HRD.out.below HB2.out).take m
            have hsz2 := HB2.out.size
            refine ⟨A, m, none, 0, ⟨hb.lit (by rw [HML.out]; rfl), hrd2.keep (fun ad e => Below.heap_setCell _ _ _ _ (fun e2 => ?_)), by show (st.take m).length ≤ m; rw [HML.out]; exact Nat.le_refl _, fun b hb => ?_, OwnB.nil _ _, fun e => ?_, fun b _ e => by simp [blk] at e⟩, rfl⟩
            · rcases HA.out with ⟨h1, _⟩ | ⟨g, h1, h2, _⟩
              · rw [h1] at e; cases e
              · rw [h1] at e; cases e
                have : g = j := e2
                omega
            · have h4 : (w2.setCell ⟨j, 4, none⟩ (.slice A m m)).heap.size = w2.heap.size := by simp [World.setCell]
              rcases HA.out with ⟨h1, _⟩ | ⟨g, h1, h2, h3⟩
              · rw [h1] at hb; simp [blk] at hb
              · rw [h1] at hb
                have : g = b := by simpa [blk] using hb
                omega
            · rcases HA.out with ⟨h1, _⟩ | ⟨g, h1, h2, _⟩
              · rw [h1] at e; simp [blk] at e
              · rw [h1] at e
                have : g = j := by simpa [blk] using e
                omega)
          have HB4 : Hid (Below w.heap.size w (w2.setCell ⟨j, 4, none⟩ (.slice A m m))) := Lib.hid ((HBW.out.trans (HB2.out.mono HBW.out.size)).setCell (p := ⟨j, 4, none⟩) (Nat.le_of_eq HJJ.out) _)
          have HGE : Hid (∀ i, jrF j A none i → w.heap.size ≤ i) := Lib.hid (fun i hi => by
            have h0 := HJJ.out
            rcases hi with hi | hi | hi
            · omega
            · rcases HA.out with ⟨h1, _⟩ | ⟨g, h1, h2, _⟩
              · rw [h1] at hi; simp [blk] at hi
              · rw [h1] at hi
                have : g = i := by simpa [blk] using hi
                omega
            · simp [blk] at hi)
          have HDI : Hid (Dis F (jrF j A none)) := Lib.hid (fun i h1 h2 => by have h3 := HP.out.lt i h1; have h4 := HGE.out i h2; omega)
          have HTR : Hid (Calls Try.prog 75 #[ob j, .slice (some ⟨q, 0, none⟩) L cr] (w2.setCell ⟨j, 4, none⟩ (.slice A m m)) fun e w' => StSpec p as_ F R (w2.setCell ⟨j, 4, none⟩ (.slice A m m)) e w') := Lib.hid (by
            have hq2 : RdB (w2.setCell ⟨j, 4, none⟩ (.slice A m m)) (some ⟨q, 0, none⟩) raw := by
              have hqj : q ≠ j := fun e => by
                obtain ⟨ad, e1, h1⟩ := HRQ.out.at_ (k := 0) (by rw [HRL.out, ← HLS.out]; omega)
                cases e1
                have h2 := HBK.out.cell 0
                rw [e] at h1
                have h3 : wr.cell? ⟨j, 0, none⟩ = some (.int .u8 ((raw.getD 0 0).toNat : Int)) := h1
                rw [h3] at h2
                simp at h2
              exact (HRQ.out.below HB2.out).keep fun ad e => by cases e; exact Below.heap_setCell _ _ _ _ hqj
            have := jtrim_any (HP.out.below HB4.out) HK.out HJR.out HOK.out HDI.out q cr L raw HLS.out hq2 HRL.out hLc
            rw [HR3.out]
            exact this)
          obtain ⟨E, hE⟩ : ∃ E, R.1 = E := ⟨_, rfl⟩
          have HE := Lib.hid hE
          have hln : rs.length ≤ 60000 := by omega
          clear hE hb2 hown3
          go_wp2_with fail
          refine HTR.out.mono ?_
          rintro e w5 ⟨rfl, F5, hp5, hst5⟩
          have HP5 := Lib.hid hp5
          have HS5 := Lib.hid hst5
          clear hp5 hst5
          rw [HE.out]
          by_cases hz : E = 0
          · subst hz
            go_wp2_with fail
            go_returns
            have hs24 : (w2.setCell ⟨j, 4, none⟩ (.slice A m m)).heap.size = w2.heap.size := by simp [World.setCell]
            refine .inr ⟨HE.out, j, A3, rs.length, c3', F5, jrF j A none, rfl, by rw [HOR.out], ?_, ?_, HP5.out, ?_, ?_, ?_, ?_, ?_, by rw [HOR.out]; exact hln, HGE.out⟩
            · rw [HOR.out]
              refine OwnR.mono (OwnR.block HO3.out fun b hb => ?_) HBW.out.size
              have h1 := OwnR.lt HO3.out b hb
              have hjl := HBK.out.lt
              refine (HS5.out.block _ (by rw [hs24]; exact h1.2) fun hf => ?_).trans (Below.heap_setCell _ _ _ _ (fun e2 => by
                have : b = j := e2
                omega))
              have := HP.out.lt _ hf
              have := HBW.out.size
              omega
            · exact OwnR.cap HO3.out
            · rw [HJ.out]
              exact HJR.out.step HS5.out HDI.out
            · exact HS5.out.dis HDI.out HJR.out.lt
            · exact ((Step.of_below HB4.out F).trans HS5.out).regroup fun i hi => by
                rcases hi with hi | hi
                · exact .inl hi
                · exact .inr (HGE.out i hi)
            · intro b hb
              have h1 := OwnR.lt HO3.out b hb
              have h2 := HBW.out.size
              have h3 := HS5.out.size
              have hjl := HBK.out.lt
              refine ⟨by omega, fun hf => ?_, fun hg => ?_, by omega⟩
              · rcases HS5.out.fresh b hf with h4 | h4
                · have := HP.out.lt b h4; omega
                · omega
              · rcases hg with hg | hg | hg
                · omega
                · rcases HA.out with ⟨h5, _⟩ | ⟨g, h5, _, h6⟩
                  · rw [h5] at hg; simp [blk] at hg
                  · rw [h5] at hg
                    have : g = b := by simpa [blk] using hg
                    omega
                · simp [blk] at hg
            · rw [HJ.out, ← HR.out, openF_size]
              exact HOK.out
          · have hne : (E != 0) = true := by simpa using hz
            have HZ := Lib.hid hz
            clear hz
            go_wp2_with fail
            go_returns
            exact .inl ⟨by rw [HE.out]; exact HZ.out, by rw [HE.out]; rfl, F5, HP5.out, (Step.of_below HB4.out F).trans HS5.out⟩
end
end Go.Proofs.Ytjmhfjioccljeaa
