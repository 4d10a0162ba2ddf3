/-
  Walks of the laws of layer 13: Same, short, wakes.
-/
import Derived.Test.YtjmhfjioccljeaaJrM
import Derived.Test.YtjmhfjioccljeaaRefI
namespace Go.Proofs.Ytjmhfjioccljeaa
open Go.RowKit
set_option linter.unusedVariables false
set_option linter.unusedSimpArgs false
attribute [local go_sem ↓] Go.wp_at_zero Go.wp_at_succ

theorem texts_ne {a b : List (List UInt8)} {j : Nat} (hl : a.length = b.length) (hj : j < a.length) (h : a.getD j [] ≠ b.getD j []) : decide (a = b) = false := by
  rw [decide_eq_false_iff_not]; rintro rfl; exact h rfl
theorem texts_eq {a b : List (List UInt8)} (hl : a.length = b.length) (h : ∀ j, j < a.length → a.getD j [] = b.getD j []) : decide (a = b) = true := by
  rw [decide_eq_true_iff]
  apply List.ext_getElem hl
  intro i h1 h2
  have := h i h1
  rwa [getD_eq _ _ _ h1, getD_eq _ _ _ h2] at this
set_option maxRecDepth 100000 in
set_option maxHeartbeats 1000000 in
theorem same_any (A B : Option Addr) (a b : List (List UInt8)) (ca cb : Nat) (w : World) (ha : RdW w A a) (hb : RdW w B b) (hla : a.length ≤ maxLen) (hlb : b.length ≤ maxLen) :
    Calls Try.prog 19 #[.slice A a.length ca, .slice B b.length cb] w fun e w' => QuietB (decide (a = b)) w e w' := by
  unfold maxLen at hla hlb
  have HA := Lib.hid ha
  have HB := Lib.hid hb
  obtain ⟨n, hn⟩ : ∃ n, a.length = n := ⟨_, rfl⟩
  have HN : Hid (a.length = n) := Lib.hid hn
  obtain ⟨m, hm⟩ : ∃ m, b.length = m := ⟨_, rfl⟩
  have HM : Hid (b.length = m) := Lib.hid hm
  rw [hn] at hla ⊢
  rw [hm] at hlb ⊢
  clear ha hb hn hm
  by_cases hl : n = m
  · have hne : ((n : Int) != (m : Int)) = false := by rw [bne_eq_false_iff_eq]; omega
    have HL := Lib.hid hl
    clear hl
    go_enter Try.func19, Try.ntmps19
    go_wp2
    go_loopw [5] (fun i wr => ∃ j : Nat, i = .int .i64 (j : Int) ∧ j ≤ n ∧ Hid (∀ k, k < j → a.getD k [] = b.getD k []) ∧ Hid (∃ q, wr = w.drewN q)) (fun i _ => n - (RowKit.intOf i).toNat)
    case atStart => exact ⟨0, rfl, Nat.zero_le _, Lib.hid fun k hk => by omega, Lib.hid ⟨0, rfl⟩⟩
    case round =>
      obtain ⟨j, rfl, hj, HE, HW⟩ := hrel
      by_cases hlt : j < n
      · obtain ⟨q, hq⟩ := HW.out
        have HQ := Lib.hid hq
        obtain ⟨ad, rfl, c1⟩ := (show RdW wr A a by rw [hq]; exact HA.out).at_ (k := j) (by rw [HN.out]; exact hlt)
        obtain ⟨bd, rfl, c2⟩ := (show RdW wr B b by rw [hq]; exact HB.out).at_ (k := j) (by rw [HM.out, ← HL.out]; exact hlt)
        have hjm : (j : Int) < (m : Int) := by have := HL.out; omega
        have hjn : (j : Int) < (n : Int) := by omega
        obtain ⟨x, hx⟩ : ∃ x, bs (a.getD j []) = x := ⟨_, rfl⟩
        have HX : Hid (bs (a.getD j []) = x) := Lib.hid hx
        obtain ⟨y, hy⟩ : ∃ y, bs (b.getD j []) = y := ⟨_, rfl⟩
        have HY : Hid (bs (b.getD j []) = y) := Lib.hid hy
        rw [hx] at c1
        rw [hy] at c2
        clear hx hy hq
        by_cases hxy : x = y
        · have hb1 : (x.toList != y.toList) = false := by rw [hxy]; simp
          have hb2 : (x.toList == y.toList) = true := by rw [hxy]; simp
          have HXY := Lib.hid hxy
          clear hxy
          go_wp2
          go_quiet (fail)
          go_wp2
          refine ⟨⟨j + 1, int_eq (by omega), by omega, Lib.hid fun k hk => ?_, Lib.hid ⟨q + nq, by rw [HQ.out, World.drewN_drewN]⟩⟩, by simp [RowKit.intOf]; omega⟩
          by_cases hkj : k = j
          · subst hkj; exact bs_inj (by rw [HX.out, HY.out]; exact HXY.out)
          · exact HE.out k (by omega)
        · have hne2 : x.toList ≠ y.toList := fun e => hxy (by rw [← HX.out, ← HY.out] at e ⊢; rw [toList_bs, toList_bs] at e; rw [e])
          have hb1 : (x.toList != y.toList) = true := by simpa using hne2
          have hb2 : (x.toList == y.toList) = false := by simpa using hne2
          clear hne2
          have HD : Hid (decide (a = b) = false) := Lib.hid (texts_ne (j := j) (by rw [HN.out, HM.out]; exact HL.out) (by rw [HN.out]; exact hlt) (fun e => hxy (by rw [← HX.out, ← HY.out, e])))
          clear hxy
          go_wp2
          go_quiet (fail)
          go_wp2
          go_ret
          unfold QuietB
          rw [HD.out]
          exact ⟨rfl, q + nq, by rw [HQ.out, World.drewN_drewN]⟩
      · have hje : j = n := by omega
        have HD : Hid (decide (a = b) = true) := Lib.hid (texts_eq (by rw [HN.out, HM.out]; exact HL.out) fun k hk => HE.out k (by rw [HN.out] at hk; omega))
        go_wp2
        go_ret
        unfold QuietB
        rw [HD.out]
        exact ⟨rfl, HW.out⟩
  · have hne : ((n : Int) != (m : Int)) = true := by rw [bne_iff_ne]; omega
    have HD : Hid (decide (a = b) = false) := Lib.hid (by
      rw [decide_eq_false_iff_not]; rintro rfl; exact hl (by rw [← HN.out, ← HM.out]))
    clear hl
    go_enter Try.func19, Try.ntmps19
    go_wp2
    go_ret
    unfold QuietB
    rw [HD.out]
    exact ⟨rfl, 0, rfl⟩
def WakesSpec (w : World) (e : Ending) (w' : World) : Prop := e = .returned (.bool true) ∧ Below w.heap.size w w'
theorem Step.into {K K' : Nat → Prop} {w0 w w' : World} (h : Step K K' w w') (hg : Ge K w0.heap.size) (hb : Below w0.heap.size w0 w) : Ge K' w0.heap.size ∧ Below w0.heap.size w0 w' :=
  ⟨h.ge hg hb.size, hb.trans (h.below hg hb.size)⟩
theorem Held.append_ok {S : St} {J : Js} {n q m g : Nat} {l r : List (List UInt8)} (h : Held S J n q m g l r) (s : List UInt8) (hs : (framesL l).length + (framesL r).length + s.length + 4 ≤ 119 * m) : J.appE s = 0 ∧ Held S (J.app s) n q m g l (r ++ [s]) := by
  rcases h.append s with ⟨_, a, _⟩ | ⟨_, _, a, _⟩ | ⟨a, _, b⟩
  · omega
  · omega
  · exact ⟨a, b⟩
theorem frames_single (s : List UInt8) : (framesL [s]).length = 4 + s.length := by rw [framesL_cons]; simp [framesL]
theorem Held.gen {S : St} {J : Js} {n q m g : Nat} {l r : List (List UInt8)} (h : Held S J n q m g l r) : J.gen = g := by rw [h.js]
set_option maxRecDepth 100000 in
set_option maxHeartbeats 4000000 in
theorem wakes_any (w : World) : Calls Try.prog 11 #[] w fun e w' => WakesSpec w e w' := by
  go_enter Try.func11, Try.ntmps11
  go_wp2_with fail
  refine (begin_any w 0 4 0 rfl (by decide) (by decide)).mono ?_
  rintro e w1 ⟨x, p, d, j, S, J, K, rfl, hd1, hh1, ha1, hg1, hb1, _⟩
  have hroom : J.room = 472 := by rw [hh1.room]; simp [framesL]; rfl
  obtain ⟨c0, c1, c2, _⟩ := hd1.cells
  have H1 := Lib.hid (And.intro hd1 (And.intro hh1 (And.intro ha1 (And.intro hg1 hb1))))
  have HRM := Lib.hid (desk_room hd1)
  rw [hroom] at HRM
  clear hroom hd1 hh1 ha1 hg1 hb1
  go_wp2_with fail
  refine HRM.out.mono ?_
  rintro e w2 ⟨rfl, hb2⟩
  have hd2 := H1.out.1.below hb2
  obtain ⟨h3e, hh3⟩ := H1.out.2.1.append_ok [97, 98, 99] (by simp [framesL])
  have hap := desk_append hd2 ⟨#[97, 98, 99]⟩ (by decide)
  have hap : Calls Try.prog 14 #[ob j, .string ⟨#[97, 98, 99]⟩] w2 fun e w' => DSpec x p d j (.int .i64 0) S (J.app [97, 98, 99]) K w2 e w' := by
    rw [← h3e]; exact hap
  have HAP := Lib.hid hap
  have HB2 := Lib.hid (H1.out.2.2.2.2.trans (hb2.mono H1.out.2.2.2.2.size))
  obtain ⟨d0, d1, d2, _⟩ := hd2.cells
  have HH3 := Lib.hid hh3
  clear hap hb2 hd2 h3e hh3 c0 c1 c2
  go_wp2_with fail
  refine HAP.out.mono ?_
  rintro e w3 ⟨rfl, K3, hd3, hs3⟩
  have HG3 := Lib.hid (hs3.into H1.out.2.2.2.1 HB2.out)
  obtain ⟨e4, _, a4, hh4⟩ := HH3.out.commit.calm H1.out.2.2.1
  obtain ⟨S4, hS4⟩ : ∃ S4, (commitF (J.app [97, 98, 99]) S 0).2 = S4 := ⟨_, rfl⟩
  have hcm := desk_commit hd3
  rw [e4, hS4] at hcm
  rw [hS4] at a4 hh4
  have HCM := Lib.hid hcm
  have HH4 := Lib.hid (And.intro a4 hh4)
  obtain ⟨c0, c1, c2, _⟩ := hd3.cells
  clear hcm e4 a4 hh4 hS4 hs3 hd3 d0 d1 d2
  go_wp2_with fail
  refine HCM.out.mono ?_
  rintro e w4 ⟨rfl, K4, hd4, hs4⟩
  have HG4 := Lib.hid (hs4.into HG3.out.1 HG3.out.2)
  obtain ⟨h5e, hh5⟩ := HH4.out.2.append_ok [108, 111, 115, 116] (by rw [List.nil_append, List.nil_append, frames_single]; simp [framesL])
  obtain ⟨J4, hJ4⟩ : ∃ J4, (J.app [97, 98, 99]).commit S 0 = J4 := ⟨_, rfl⟩
  rw [hJ4] at hd4 h5e hh5
  have hap : Calls Try.prog 14 #[ob j, .string ⟨#[108, 111, 115, 116]⟩] w4 fun e w' => DSpec x p d j (.int .i64 0) S4 (J4.app [108, 111, 115, 116]) K4 w4 e w' := by
    rw [← h5e]; exact desk_append hd4 ⟨#[108, 111, 115, 116]⟩ (by decide)
  have HAP := Lib.hid hap
  obtain ⟨d0, d1, d2, _⟩ := hd4.cells
  have HH5 := Lib.hid hh5
  clear hap h5e hh5 hs4 hd4 hJ4 c0 c1 c2
  go_wp2_with fail
  refine HAP.out.mono ?_
  rintro e w5 ⟨rfl, K5, hd5, hs5⟩
  have HG5 := Lib.hid (hs5.into HG4.out.1 HG4.out.2)
  have HCR := Lib.hid (desk_crash0 hd5)
  obtain ⟨c0, c1, c2, _⟩ := hd5.cells
  obtain ⟨hh6, ha6⟩ := HH5.out.crash []
  have HH6 := Lib.hid (And.intro hh6 ha6)
  clear hs5 hd5 hh6 ha6 d0 d1 d2
  go_wp2_with fail
  refine HCR.out.mono ?_
  rintro e w6 ⟨rfl, K6, hd6, hs6⟩
  have HG6 := Lib.hid (hs6.into HG5.out.1 HG5.out.2)
  obtain ⟨hor, hop⟩ := HH6.out.1.open_
  obtain ⟨o1, _, _, o4⟩ := hop.calm HH6.out.2
  obtain ⟨S6, hS6⟩ : ∃ S6, S4.crash [] = S6 := ⟨_, rfl⟩
  rw [hS6] at hd6 hor o1 o4
  obtain ⟨R, hR⟩ : ∃ R, openF S6 0 (128 * 0) 4 = R := ⟨_, rfl⟩
  have hck : checkB (S6.at_ 0).size ((0 : Nat) : Int) ((4 : Nat) : Int) = true := by
    obtain ⟨f, ht, _⟩ := HH6.out.1.torn
    have h1 := ht.rd.1
    rw [hS6] at h1
    unfold checkB Dk.size
    simp only [Bool.and_eq_true, decide_eq_true_eq]
    omega
  have hopn := desk_open hd6 0 4 hck
  have hopn : Calls Try.prog 17 #[ob d, .int .i64 0, .int .i64 4] w6 fun e w' => DOpen x p d j S6 0 4 R (J4.app [108, 111, 115, 116]) K6 w6 e w' := by rw [← hR]; exact hopn
  have HOP := Lib.hid hopn
  have HOR := Lib.hid (And.intro hor (by rw [hR] at o1; exact o1))
  obtain ⟨d0, d1, d2, _⟩ := hd6.cells
  clear hopn hor o1 o4 hop hck hR hS6 hs6 hd6 c0 c1 c2
  go_wp2_with fail
  refine HOP.out.mono ?_
  rintro e w7 hop
  rcases hop with ⟨h9, _⟩ | ⟨_, j2, A, n, c, K7, G, rfl, hn, hr, hnc, hd7, hj7, hdi, hs7, _⟩
  · exact absurd HOR.out.2 h9
  · have hor : openR S6 0 0 4 = [[97, 98, 99]] := HOR.out.1
    rw [hor] at hn hr
    have hn1 : n = 1 := hn
    subst hn1
    have HG7 := Lib.hid (hs7.into HG6.out.1 HG6.out.2)
    have HSM : Hid (Calls Try.prog 19 #[.slice A 1 c, .slice (some ⟨w7.heap.size, 0, none⟩) 1 1] (w7.alloc (.cells #[.string ⟨#[97, 98, 99]⟩] 9)) fun e w' => QuietB true (w7.alloc (.cells #[.string ⟨#[97, 98, 99]⟩] 9)) e w') := Lib.hid (by
      have := same_any A (some ⟨w7.heap.size, 0, none⟩) [[97, 98, 99]] [[97, 98, 99]] c 1 (w7.alloc (.cells #[.string ⟨#[97, 98, 99]⟩] 9)) ((OwnW.rd hr).below ((Below.refl _ _).alloc (Nat.le_refl _) _)) (rdw_one w7 [97, 98, 99] _ rfl) (by decide) (by decide)
      rw [decide_eq_true rfl] at this
      exact this)
    clear hn hr hnc hd7 hj7 hdi hs7 hor
    go_wp2_with fail
    refine HSM.out.mono ?_
    rintro e w8 ⟨rfl, nq, rfl⟩
    go_wp2_with fail
    go_returns
    exact ⟨rfl, below_drewN ((HG7.out.2).alloc (HG7.out.2.size) _) _⟩
theorem short_any (l : List UInt8) (w : World) (hl : l.length ≤ 9223372036854775807) :
    Calls Try.prog 13 #[.string (bs l)] w fun e w' => e = .returned (.string (bs (l.take 700))) ∧ w = w' := by
  obtain ⟨k, hk⟩ : ∃ k : Nat, min (l.length : Int) 700 = (k : Int) := ⟨min l.length 700, by omega⟩
  have hkl : k ≤ l.length := by omega
  have hsl := fun W => slice_bsh W l (k : Int) k rfl hkl
  have htk : l.take k = l.take 700 := by
    by_cases h : l.length ≤ 700
    · rw [List.take_of_length_le (by omega), List.take_of_length_le h]
    · rw [show k = 700 by omega]
  have hsz : (bs l).size = l.length := bs_size l
  have HK := Lib.hid hkl
  rw [htk] at hsl
  obtain ⟨y, hy⟩ : ∃ y, bs (l.take 700) = y := ⟨_, rfl⟩
  rw [hy] at hsl
  rw [hy]
  obtain ⟨n, hn⟩ : ∃ n, l.length = n := ⟨_, rfl⟩
  rw [hn] at hsz hk hl
  generalize bs l = x at *
  clear hn htk hkl hy
  go_enter Try.func13, Try.ntmps13
  go_wp2_with fail
  go_ret
  exact ⟨rfl, rfl⟩
end Go.Proofs.Ytjmhfjioccljeaa
