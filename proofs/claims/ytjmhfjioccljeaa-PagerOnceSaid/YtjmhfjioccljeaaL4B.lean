/-
  L4B: PgR Law4B
-/
import Derived.Test.YtjmhfjioccljeaaPE
import Derived.Test.YtjmhfjioccljeaaRecZ
/-
  Walks of the laws of layer 14: text; two books side by side.
-/
namespace Go.Proofs.Ytjmhfjioccljeaa
open Go.RowKit
set_option linter.unusedVariables false
set_option linter.unusedSimpArgs false
attribute [local go_sem ↓] Go.wp_at_zero Go.wp_at_succ

theorem text_any (l : List UInt8) (w : World) (hl : l.length ≤ 9223372036854775807) :
    Calls Try.prog 47 #[.string (bs l)] w fun e w' => e = .returned (.string (bs (l.take 260))) ∧ w = w' := by
  obtain ⟨k, hk⟩ : ∃ k : Nat, min (l.length : Int) 260 = (k : Int) := ⟨min l.length 260, by omega⟩
  have hkl : k ≤ l.length := by omega
  have hsl := fun W => slice_bsh W l (k : Int) k rfl hkl
  have htk : l.take k = l.take 260 := by
    by_cases h : l.length ≤ 260
    · rw [List.take_of_length_le (by omega), List.take_of_length_le h]
    · rw [show k = 260 by omega]
  have hsz : (bs l).size = l.length := bs_size l
  have HK := Lib.hid hkl
  rw [htk] at hsl
  obtain ⟨y, hy⟩ : ∃ y, bs (l.take 260) = y := ⟨_, rfl⟩
  rw [hy] at hsl
  rw [hy]
  generalize bs l = z at *
  clear hy htk hkl hl
  go_enter Try.func47, Try.ntmps47
  go_wp2_with fail
  go_ret
  exact ⟨rfl, rfl⟩
theorem RecAt.ops3 {w : World} {ad : Addr} {i : Nat} {r : Rec} (h : RecAt 3 w ad i r) : w.cell? (ad.add (i * 5)) = some (.int .i64 (r.at_ 0)) ∧ w.cell? ⟨(ad.add (i * 5)).block, (ad.add (i * 5)).off + 1, none⟩ = some (.int .i64 (r.at_ 1)) ∧
    w.cell? ⟨(ad.add (i * 5)).block, (ad.add (i * 5)).off + 2, none⟩ = some (.int .i64 (r.at_ 2)) ∧
    w.cell? ⟨(ad.add (i * 5)).block, (ad.add (i * 5)).off + 3, none⟩ = some (.string r.data) ∧ w.cell? ⟨(ad.add (i * 5)).block, (ad.add (i * 5)).off + 4, none⟩ = some (.slice r.pa r.picks.length r.pc) := by
  have h0 := h.ints 0 (by omega)
  have h1 := h.ints 1 (by omega)
  have h2 := h.ints 2 (by omega)
  have h4 := h.data
  have h5 := h.picks
  rw [addr_add0] at h0
  rw [add_pos _ _ (by omega)] at h1 h2 h4 h5
  exact ⟨h0, h1, h2, h4, h5⟩
theorem two_x {w0 w w' : World} {K1 K1' K2 : Nat → Prop} (ho : Own0 w0 w (Un K1 K2)) (hd : Dis K1 K2) (hl : Lt K2 w.heap.size) (hs : Step K1 K1' w w') : Own0 w0 w' (Un K1' K2) ∧ Dis K1' K2 := ⟨ho.step (hs.frame K2), hs.dis hd hl⟩
theorem two_y {w0 w w' : World} {K1 K2 K2' : Nat → Prop} (ho : Own0 w0 w (Un K1 K2)) (hd : Dis K1 K2) (hl : Lt K1 w.heap.size) (hs : Step K2 K2' w w') : Own0 w0 w' (Un K1 K2') ∧ Dis K1 K2' := ⟨ho.step (hs.frameL K1), (hs.dis hd.symm hl).symm⟩
end Go.Proofs.Ytjmhfjioccljeaa
/-
  PagerOnce: the walk.
-/
namespace Go.Proofs.Ytjmhfjioccljeaa
open Go.RowKit
set_option linter.unusedVariables false
set_option linter.unusedSimpArgs false
attribute [local go_sem ↓] Go.wp_at_zero Go.wp_at_succ

/-- the two books: the one that commits now and then, the one that commits once -/
def OnI (w : World) (x p1 d1 pg1 y p2 d2 pg2 : Nat) (S2 : St) (gm rm : Nat) (wr : World) : Prop :=
  ∃ S1 g1 rs1 r A1 now1 K1 C now2 K2, BkR wr x p1 d1 pg1 S1 40 8 12 g1 rs1 ((r : Nat) : Int) A1 C now1 K1 ∧ BkR wr y p2 d2 pg2 S2 40 8 12 1 [] 0 zeroP C now2 K2 ∧ Dis K1 K2 ∧ S1.arm = -1 ∧ g1 ≤ gm ∧ r ≤ rm ∧ Own0 w wr (Un K1 K2)
theorem OnI.more {w : World} {x p1 d1 pg1 y p2 d2 pg2 : Nat} {S2 : St} {gm rm gm' rm' : Nat} {wr : World} (h : OnI w x p1 d1 pg1 y p2 d2 pg2 S2 gm rm wr) (hg : gm ≤ gm') (hr : rm ≤ rm') : OnI w x p1 d1 pg1 y p2 d2 pg2 S2 gm' rm' wr := by
  obtain ⟨S1, g1, rs1, r, A1, now1, K1, C, now2, K2, h1, h2, h3, h4, h5, h6, h7⟩ := h
  exact ⟨S1, g1, rs1, r, A1, now1, K1, C, now2, K2, h1, h2, h3, h4, by omega, by omega, h7⟩
set_option maxRecDepth 100000 in
set_option maxHeartbeats 4000000 in
theorem once_any (w : World) (a0 : Option Addr) (len0 cap0 : Nat) (z0 : List Rec) (w0 : IsRec2 3 w a0 len0 cap0 z0) (a1 : Option Addr) (len1 cap1 : Nat) (z1 : List Int) (w1 : IsZ w a1 len1 cap1 z1) :
    Calls Try.prog 7 #[.slice a0 len0 cap0, .slice a1 len1 cap1] w fun e w' => e = .returned (.bool true) ∧ Below w.heap.size w w' := by
  have HL := Lib.hid w0
  have HZ := Lib.hid w1
  have hm0 : len0 ≤ 9223372036854775807 := by have := w0.2.2.1; unfold maxLen at this; omega
  have hm1 : len1 ≤ 17592186044416 := w1.2.2.2.2.2
  clear w0 w1
  go_enter Try.func7, Try.ntmps7
  go_wp2_with fail
  refine (reads_any _).mono ?_
  rintro e w1 ⟨rfl, hb1⟩
  have HB1 := Lib.hid hb1
  clear hb1
  go_wp2_with fail
  refine (bound_any _).mono ?_
  rintro e w2 ⟨x, p1, d1, pg1, S1, K1, rfl, hx, ha1, hge1, hbe1⟩
  have HX := Lib.hid (And.intro hx (And.intro ha1 (And.intro hge1 hbe1)))
  clear hx ha1 hge1 hbe1
  go_wp2_with fail
  refine (bound_any _).mono ?_
  rintro e w3 ⟨y, p2, d2, pg2, S2, K2, rfl, hy, ha2, hge2, hbe2⟩
  have HB0 : Hid (Below w.heap.size w w3) := Lib.hid (HB1.out.trans ((HX.out.2.2.2.trans (hbe2.mono HX.out.2.2.2.size)).mono HB1.out.size))
  have HS2 := Lib.hid ha2
  have HI0 : Hid (OnI w x p1 d1 pg1 y p2 d2 pg2 S2 1 0 w3) := Lib.hid ⟨S1, 1, [], 0, zeroP, _, K1, zeroP, _, K2, HX.out.1.below hbe2, hy, fun i h1 h2 => by
    have e1 := HX.out.1.lt i h1
    have e2 := hge2 i h2
    omega, HX.out.2.1, Nat.le_refl _, Nat.le_refl _, ⟨Ge.un (fun i hi => Nat.le_trans HB1.out.size (HX.out.2.2.1 i hi)) (fun i hi => Nat.le_trans (Nat.le_trans HB1.out.size HX.out.2.2.2.size) (hge2 i hi)), HB0.out⟩⟩
  clear hy ha2 hge2 hbe2 HX HB1 HB0
  go_wp2_with fail
  go_loopw [9] (fun i wr => ∃ (k : Nat), i = .int .i64 (k : Int) ∧ k ≤ 30 ∧ Hid (OnI w x p1 d1 pg1 y p2 d2 pg2 S2 (1 + 2 * k) k wr)) (fun i _ => 30 - (intOf i).toNat)
  case atStart => exact ⟨0, rfl, by omega, HI0⟩
  case round =>
    clear HI0
    obtain ⟨k, rfl, hk, HI⟩ := hrel
    by_cases hend : k < len0 ∧ k < 30
    · obtain ⟨hlt, h30⟩ := hend
      obtain ⟨ad, rfl, hrec⟩ := HL.out.2.1 k (by rw [HL.out.1]; exact hlt)
      obtain ⟨S1, g1, rs1, r, A1, now1, K1, C, now2, K2, hx, hy, hd, ha, hg, hr, ho⟩ := HI.out
      obtain ⟨rec, hrc⟩ : ∃ rec, z0.getD k rec0 = rec := ⟨_, rfl⟩
      rw [hrc] at hrec
      have HGD := Lib.hid hrec.good
      have hrb := hrec.below ho.be
      obtain ⟨_, c1, c2, c3, _⟩ := hrb.ops3
      have HAL : Hid (ad.block < w.heap.size) := Lib.hid (by
        have := World.block_lt_of_cell? _ _ hrec.ops3.1
        rwa [block_of_add] at this)
      have HO := Lib.hid ho
      have HXY := Lib.hid (And.intro hx (And.intro hy (And.intro hd (And.intro ha (And.intro hg hr)))))
      obtain ⟨tx, htx⟩ : ∃ tx : List UInt8, rec.data.data.toList = tx := ⟨_, rfl⟩
      have hdt : rec.data = bs tx := by rw [← htx]; rfl
      have htl : tx.length ≤ 9223372036854775807 := by
        have := HGD.out.data
        rw [hdt, bs_size] at this
        unfold maxLen at this; omega
      have HTX : Hid (∀ W, Calls Try.prog 47 #[.string (bs tx)] W fun e w' => e = .returned (.string (bs (tx.take 260))) ∧ W = w') := Lib.hid fun W => text_any tx W htl
      obtain ⟨pq, hpq⟩ : ∃ v, rec.at_ 1 = v := ⟨_, rfl⟩
      obtain ⟨of_, hof⟩ : ∃ v, rec.at_ 2 = v := ⟨_, rfl⟩
      have HQI : Hid (IntIn pq ∧ IntIn of_) := Lib.hid ⟨by rw [← hpq]; exact HGD.out.ints 1, by rw [← hof]; exact HGD.out.ints 2⟩
      rw [hpq] at c1
      rw [hof] at c2
      rw [hdt] at c3
      clear hrec hrb hx hy hd ha hg hr ho hdt htl hpq hof htx hrc HI
      have e1 : decide ((k : Int) < (len0 : Int)) = true := decide_eq_true (by omega)
      have e2 : decide ((k : Int) < 30) = true := decide_eq_true (by omega)
      go_wp2_with fail
      refine (HTX.out _).mono ?_
      rintro e _ ⟨rfl, rfl⟩
      obtain ⟨s, hs⟩ : ∃ s, tx.take 260 = s := ⟨_, rfl⟩
      have hsl : s.length ≤ 9223372036854775807 := by rw [← hs, List.length_take]; omega
      rw [hs]
      obtain ⟨C', hC'⟩ : ∃ C', wrC 12 C pq of_ s = C' := ⟨_, rfl⟩
      obtain ⟨E, hE⟩ : ∃ E, okE (wrB 12 pq of_ s.length) = E := ⟨_, rfl⟩
      obtain ⟨sv, hsv⟩ : ∃ sv, bs s = sv := ⟨_, rfl⟩
      have hKx : ¬ K2 x := fun h => by obtain ⟨Q, _, _, _, rfl⟩ := HXY.out.1; exact HXY.out.2.2.1 x (.inr rfl) h
      have hKy : ¬ K1 y := fun h => by obtain ⟨Q, _, _, _, rfl⟩ := HXY.out.2.1; exact HXY.out.2.2.1 y h (.inr rfl)
      have hKa : ¬ K1 ad.block ∧ ¬ K2 ad.block := ⟨fun h => by have := HO.out.ge _ (.inl h); have := HAL.out; omega, fun h => by have := HO.out.ge _ (.inr h); have := HAL.out; omega⟩
      have HWX : Hid (∀ W, Below wr.heap.size wr W → Calls Try.prog 48 #[ob pg1, .int .i64 pq, .int .i64 of_, .string sv] W fun e w' =>
          e = .returned (.int .i64 E) ∧ ∃ now1', BkR w' x p1 d1 pg1 S1 40 8 12 g1 rs1 (r : Int) A1 C' now1' K1 ∧ Step K1 K1 wr w') := Lib.hid fun W hb => by
        have h := bk_write (HXY.out.1.below hb) pq of_ s HQI.out.1 HQI.out.2 hsl
        rw [hE, hC', hsv] at h
        exact h.mono fun e w' ⟨h1, h2, h3⟩ => ⟨h1, _, h2, (Step.of_below hb K1).trans h3⟩
      have HWY : Hid (∀ W, Step K1 K1 wr W → Calls Try.prog 48 #[ob pg2, .int .i64 pq, .int .i64 of_, .string sv] W fun e w' =>
          e = .returned (.int .i64 E) ∧ ∃ now2', BkR w' y p2 d2 pg2 S2 40 8 12 1 [] 0 zeroP C' now2' K2 ∧ Step K2 K2 W w') := Lib.hid fun W hst => by
        have h := bk_write (HXY.out.2.1.step hst HXY.out.2.2.1) pq of_ s HQI.out.1 HQI.out.2 hsl
        rw [hE, hC', hsv] at h
        exact h.mono fun e w' ⟨h1, h2, h3⟩ => ⟨h1, _, h2, h3⟩
      have HBd : Hid (Below wr.heap.size wr wr.drew) := Lib.hid (Below.refl _ _).drew
      have HKN := Lib.hid (And.intro hKx (And.intro hKy hKa))
      have x2 : wr.cell? ⟨x, 2, none⟩ = some (ob pg1) := HXY.out.1.cells.2.2.1
      have y2 : wr.cell? ⟨y, 2, none⟩ = some (ob pg2) := HXY.out.2.1.cells.2.2.1
      have hbl : ∀ n : Nat, (⟨(ad.add (k * 5)).block, (ad.add (k * 5)).off + n, none⟩ : Addr).block = ad.block := fun n => block_of_add _ _
      have hn1 : ∀ n : Nat, ¬ K1 (⟨(ad.add (k * 5)).block, (ad.add (k * 5)).off + n, none⟩ : Addr).block := fun n => by rw [hbl]; exact hKa.1
      have hn2 : ∀ n : Nat, ¬ K2 (⟨(ad.add (k * 5)).block, (ad.add (k * 5)).off + n, none⟩ : Addr).block := fun n => by rw [hbl]; exact hKa.2
      have HN1 := Lib.hid hn1
      have HN2 := Lib.hid hn2
      have ene : (E != E) = false := by simp
      rw [hsv]
      clear hs hsl hC' hE hsv hKx hKy hKa HTX c3 hn1 hn2 hbl
      go_wp2_with fail
      go_region_held3 (fun W : World => W.cell? ⟨x, 2, none⟩ = some (ob pg1) ∧ W.cell? ⟨y, 2, none⟩ = some (ob pg2) ∧ W.cell? ⟨(ad.add (k * 5)).block, (ad.add (k * 5)).off + 1, none⟩ = some (.int .i64 pq) ∧ W.cell? ⟨(ad.add (k * 5)).block, (ad.add (k * 5)).off + 2, none⟩ = some (.int .i64 of_)) (first | exact ⟨x2, y2, c1, c2⟩ | exact ⟨g1_, g2_, g3_, g4_⟩ | exact ⟨f1_, f2_, f3_, f4_⟩) (first | (go_at_call 48; with_reducible refine (HWX.out _ HBd.out).mono ?_; rintro e w5 ⟨rfl, now5, hx5, hs5⟩; have f1_ := hx5.cells.2.2.1; have f2_ := step_cell hs5 y2 HKN.out.2.1; have f3_ := step_cell hs5 c1 (HN1.out 1); have f4_ := step_cell hs5 c2 (HN1.out 2)) | (go_at_call 48; with_reducible refine (HWY.out _ hs5).mono ?_; rintro e w6 ⟨rfl, now6, hy6, hs6⟩; have g1_ := step_cell hs6 f1_ HKN.out.1; have g2_ := hy6.cells.2.2.1; have g3_ := step_cell hs6 f3_ (HN2.out 1); have g4_ := step_cell hs6 f4_ (HN2.out 2)))
      have HM : Hid (OnI w x p1 d1 pg1 y p2 d2 pg2 S2 (1 + 2 * k) k w6) := Lib.hid (by
        have h1 := two_x HO.out HXY.out.2.2.1 HXY.out.2.1.lt hs5
        have h2 := two_y h1.1 h1.2 hx5.lt hs6
        exact ⟨S1, g1, rs1, r, A1, now5, K1, C', now6, K2, hx5.step hs6 h1.2.symm, hy6, h2.2, HXY.out.2.2.2.1, HXY.out.2.2.2.2.1, HXY.out.2.2.2.2.2, h2.1⟩)
      clear hx5 hy6 hs5 hs6 f1_ f2_ f3_ f4_ g1_ g2_ g3_ g4_ HWX HWY HBd HKN HN1 HN2 x2 y2 c1 c2 HO HXY HQI HGD e1 e2
      have HCZ : Hid (∀ W, OnI w x p1 d1 pg1 y p2 d2 pg2 S2 (1 + 2 * k) k W → k < len1 → ∃ (b1 : Addr) (v : Int), a1 = some b1 ∧ W.cell? (b1.add k) = some (.int .i64 v)) := Lib.hid fun W h hk1 => by
        obtain ⟨_, _, _, _, _, _, _, _, _, _, _, _, _, _, _, _, ho⟩ := h
        obtain ⟨b1, e, hc⟩ := HZ.out.2.1 (by rw [HZ.out.1]; omega)
        have hc1 := hc k (by rw [HZ.out.1]; exact hk1)
        exact ⟨b1, _, e, below_cell ho.be hc1⟩
      go_upto_region 13 with fail
      go_cut [104] from 36 to 124 (fun v104 wx => ∃ b : Bool, v104 = .bool b ∧ Hid ((b = true → Below w.heap.size w wx) ∧ (b = false → OnI w x p1 d1 pg1 y p2 d2 pg2 S2 (2 + 2 * k) (k + 1) wx)))
      case first =>
        by_cases h1 : k < len1
        · have f1 : decide ((k : Int) < (len1 : Int)) = true := decide_eq_true (by omega)
          have hlk : (k : Int) < (len1 : Int) := by omega
          obtain ⟨b1, v, rfl, cv⟩ := HCZ.out _ HM.out h1
          by_cases h2 : v.tmod 3 = 0
          · have f2 : (v.tmod 3 == 0) = true := by simpa using h2
            obtain ⟨S1, g1, rs1, r, A1, now1, K1, C, now2, K2, hx, hy, hd, ha, hg, hr, ho⟩ := HM.out
            have x2 := hx.cells.2.2.1
            have hcm := bk_commit hx (by omega) (by decide) (by omega)
            have HO := Lib.hid (And.intro hy (And.intro hd (And.intro ha (And.intro hg (And.intro hr ho)))))
            have HCM := Lib.hid hcm
            clear hx hy hd hg hr ho hcm ha
            go_wp2_with fail
            refine HCM.out.mono ?_
            rintro e w7 (⟨_, _, _, _, q1, _⟩ | ⟨S7, K7, rfl, _, _, _, _, hs7⟩ | ⟨S7, K7, g7, rfl, _, hg7, hx7, ha7, hs7⟩)
            · exact absurd HO.out.2.2.1 q1
            · have HB7 : Hid (Below w.heap.size w w7) := Lib.hid ((two_x HO.out.2.2.2.2.2 HO.out.2.1 HO.out.1.lt hs7).1.be)
              clear hs7 HCM
              go_wp2_with fail
              go_meet
              case rel => exact ⟨true, rfl, Lib.hid ⟨fun _ => HB7.out, fun h => by simp at h⟩⟩
            · have HN : Hid (OnI w x p1 d1 pg1 y p2 d2 pg2 S2 (2 + 2 * k) (k + 1) w7) := Lib.hid (by
                obtain ⟨hy, hd, ha, hg, hr, ho⟩ := HO.out
                have h1 := two_x ho hd hy.lt hs7
                exact ⟨S7, g7, _, r + 1, C, _, K7, C, now2, K2, hx7, hy.step hs7 hd, h1.2, ha7 ha, by omega, by omega, h1.1⟩)
              clear hs7 hx7 ha7 hg7 HCM
              go_wp2_with fail
              go_meet
              case rel => exact ⟨false, rfl, Lib.hid ⟨fun h => by simp at h, fun _ => HN.out⟩⟩
          · have f2 : (v.tmod 3 == 0) = false := by simpa using h2
            go_wp2_with fail
            go_meet
            case rel => exact ⟨false, rfl, Lib.hid ⟨fun h => by simp at h, fun _ => HM.out.more (by omega) (by omega)⟩⟩
        · have f1 : decide ((k : Int) < (len1 : Int)) = false := decide_eq_false (by omega)
          go_wp2_with fail
          go_meet
          case rel => exact ⟨false, rfl, Lib.hid ⟨fun h => by simp at h, fun _ => HM.out.more (by omega) (by omega)⟩⟩
      case rest =>
        obtain ⟨b, rfl, HC⟩ := hcut
        cases b
        · have HM2 : Hid (OnI w x p1 d1 pg1 y p2 d2 pg2 S2 (2 + 2 * k) (k + 1) wc) := Lib.hid (HC.out.2 (by trivial))
          clear HC HM
          have HCZ2 : Hid (∀ W, OnI w x p1 d1 pg1 y p2 d2 pg2 S2 (2 + 2 * k) (k + 1) W → k < len1 → ∃ (b1 : Addr) (v : Int), a1 = some b1 ∧ W.cell? (b1.add k) = some (.int .i64 v)) := Lib.hid fun W h hk1 => by
            obtain ⟨_, _, _, _, _, _, _, _, _, _, _, _, _, _, _, _, ho⟩ := h
            obtain ⟨b1, e, hc⟩ := HZ.out.2.1 (by rw [HZ.out.1]; omega)
            have hc1 := hc k (by rw [HZ.out.1]; exact hk1)
            exact ⟨b1, _, e, below_cell ho.be hc1⟩
          clear HCZ
          go_upto_region 15 with fail
          go_cut [124] from 36 to 124 (fun v124 wx => v124 = .bool false ∧ Hid (OnI w x p1 d1 pg1 y p2 d2 pg2 S2 (1 + 2 * (k + 1)) (k + 1) wx))
          case first =>
            by_cases h1 : k < len1
            · have f1 : decide ((k : Int) < (len1 : Int)) = true := decide_eq_true (by omega)
              have hlk : (k : Int) < (len1 : Int) := by omega
              obtain ⟨b1, v, rfl, cv⟩ := HCZ2.out _ HM2.out h1
              by_cases h2 : v.tmod 5 = 0
              · have f2 : (v.tmod 5 == 0) = true := by simpa using h2
                obtain ⟨S1, g1, rs1, r, A1, now1, K1, C, now2, K2, hx, hy, hd, ha, hg, hr, ho⟩ := HM2.out
                have x2 := hx.cells.2.2.1
                have hcm := bk_ckpt hx (by omega)
                have HO := Lib.hid (And.intro hy (And.intro hd (And.intro ha (And.intro hg (And.intro hr ho)))))
                have HCM := Lib.hid hcm
                clear hx hy hd hg hr ho hcm ha
                go_wp2_with fail
                refine HCM.out.mono ?_
                rintro e w7 (⟨_, _, _, _, q1, _⟩ | ⟨S7, K7, rfl, hx7, ha7, hs7⟩)
                · exact absurd HO.out.2.2.1 q1
                · have HN : Hid (OnI w x p1 d1 pg1 y p2 d2 pg2 S2 (1 + 2 * (k + 1)) (k + 1) w7) := Lib.hid (by
                    obtain ⟨hy, hd, ha, hg, hr, ho⟩ := HO.out
                    have h1 := two_x ho hd hy.lt hs7
                    exact ⟨S7, g1 + 1, _, r, A1, _, K7, C, now2, K2, hx7, hy.step hs7 hd, h1.2, ha7 ha, by omega, by omega, h1.1⟩)
                  clear hs7 hx7 ha7 HCM
                  go_wp2_with fail
                  go_meet
                  case rel => exact ⟨rfl, HN⟩
              · have f2 : (v.tmod 5 == 0) = false := by simpa using h2
                go_wp2_with fail
                go_meet
                case rel => exact ⟨rfl, Lib.hid (HM2.out.more (by omega) (by omega))⟩
            · have f1 : decide ((k : Int) < (len1 : Int)) = false := decide_eq_false (by omega)
              go_wp2_with fail
              go_meet
              case rel => exact ⟨rfl, Lib.hid (HM2.out.more (by omega) (by omega))⟩
          case rest =>
            obtain ⟨rfl, HC⟩ := hcut
            clear HM2 HCZ2
            have HC2 := HC
            clear HC
            go_wp2_with fail
            go_roundw
            case rel => exact ⟨k + 1, int_eq (by omega), by omega, HC2⟩
            case measure => simp [intOf]; omega
        · go_wp2_with fail
          go_ret
          exact ⟨rfl, HC.out.1 (by trivial)⟩
    · go_upto_region 8 with fail
      go_cut [43] from 36 to 124 (fun v43 wx => v43 = .bool false ∧ Hid (OnI w x p1 d1 pg1 y p2 d2 pg2 S2 61 30 wx))
      case first =>
        have HM : Hid (OnI w x p1 d1 pg1 y p2 d2 pg2 S2 61 30 wr) := Lib.hid (HI.out.more (by omega) (by omega))
        by_cases h1 : k < len0
        · have e1 : decide ((k : Int) < (len0 : Int)) = true := decide_eq_true (by omega)
          have e2 : decide ((k : Int) < 30) = false := decide_eq_false (by omega)
          go_wp2_with fail
          go_meet
          case rel => exact ⟨rfl, HM⟩
        · have e1 : decide ((k : Int) < (len0 : Int)) = false := decide_eq_false (by omega)
          go_wp2_with fail
          go_meet
          case rel => exact ⟨rfl, HM⟩
      case rest =>
        obtain ⟨rfl, HC⟩ := hcut
        clear HI
        obtain ⟨S1, g1, rs1, r, A1, now1, K1, C, now2, K2, hx, hy, hd, ha, hg, hr, ho⟩ := HC.out
        clear HC
        have x2 := hx.cells.2.2.1
        have hcm := bk_commit hx (by omega) (by decide) (by omega)
        have HO := Lib.hid (And.intro hy (And.intro hd (And.intro ha ho)))
        have HCM := Lib.hid hcm
        clear hx hy hd hg hr ho hcm ha hend hk
        go_wp2_with fail
        refine HCM.out.mono ?_
        rintro e w7 (⟨_, _, _, _, q1, _⟩ | ⟨S7, K7, rfl, _, _, _, _, hs7⟩ | ⟨S7, K7, g7, rfl, _, _, hx7, ha7, hs7⟩)
        · exact absurd HO.out.2.2.1 q1
        · have HB7 : Hid (Below w.heap.size w w7) := Lib.hid ((two_x HO.out.2.2.2 HO.out.2.1 HO.out.1.lt hs7).1.be)
          clear hs7 HCM
          go_wp2_with fail
          go_ret
          exact ⟨rfl, HB7.out⟩
        · obtain ⟨hy, hd, ha, ho⟩ := HO.out
          have h7 := two_x ho hd hy.lt hs7
          have hy7 := hy.step hs7 hd
          have y2 := hy7.cells.2.2.1
          have hcm := bk_commit hy7 (by decide) (by decide) (by decide)
          have HX7 := Lib.hid (And.intro hx7 (And.intro (ha7 ha) (And.intro hy7.lt h7)))
          have HCM2 := Lib.hid hcm
          clear hx7 ha7 ha ho hy hd hs7 h7 hy7 hcm HCM HO x2
          go_wp2_with fail
          refine HCM2.out.mono ?_
          rintro e w8 (⟨_, _, _, _, q1, _⟩ | ⟨S8, K8, rfl, _, _, _, _, hs8⟩ | ⟨S8, K8, g8, rfl, _, _, hy8, ha8, hs8⟩)
          · exact absurd HS2.out q1
          · have HB8 : Hid (Below w.heap.size w w8) := Lib.hid ((two_y HX7.out.2.2.2.1 HX7.out.2.2.2.2 HX7.out.1.lt hs8).1.be)
            clear hs8 HCM2
            go_wp2_with fail
            go_ret
            exact ⟨rfl, HB8.out⟩
          · have h8 := two_y HX7.out.2.2.2.1 HX7.out.2.2.2.2 HX7.out.1.lt hs8
            have hx8 := HX7.out.1.step hs8 HX7.out.2.2.2.2.symm
            have x1 := hx8.cells.2.1
            have y1 := hy8.cells.2.1
            have hKy : ¬ K7 y := fun h => by
              have h2 : K8 y := by obtain ⟨Q, _, _, _, e⟩ := hy8; rw [e]; exact .inr rfl
              exact h8.2 y h h2
            have HOX : Hid (∀ W, Below w8.heap.size w8 W → Calls Try.prog 51 #[ob d1, cfg 8 12] W fun e w' => ∃ pg S' X K' rs g, e = .returned (.tuple #[ob pg, .int .i64 0]) ∧ BoR w' x p1 d1 pg S' 40 8 12 g rs 0 X X (fun _ => none) K' ∧ (∀ q, q < 12 → X q = C q) ∧ Step K7 K' w8 w') := Lib.hid fun W hb =>
              (bk_open (hx8.below hb) HX7.out.2.1).mono fun e w' ⟨pg, S', X, K', h1, h2, h3, h4, h5⟩ => ⟨pg, S', X, K', _, _, h1, h2, h4.elim id id, (Step.of_below hb K7).trans h5⟩
            have HOY : Hid (∀ W, Below w8.heap.size w8 W ∨ (∃ K', Step K7 K' w8 W) → True) := Lib.hid fun _ _ => trivial
            have HY8 := Lib.hid (And.intro hy8 (And.intro (ha8 HS2.out) (And.intro h8.1 h8.2)))
            have HBd : Hid (Below w8.heap.size w8 w8.drew) := Lib.hid (Below.refl _ _).drew
            have HKY := Lib.hid hKy
            clear hx8 hy8 ha8 hs8 h8 hKy HCM2 HX7 y2 HOY
            go_wp2_with fail
            go_region_held3 (fun W : World => W.cell? ⟨x, 1, none⟩ = some (ob d1) ∧ W.cell? ⟨y, 1, none⟩ = some (ob d2)) (first | exact ⟨x1, y1⟩ | exact ⟨below_cell hb9 x1, below_cell hb9 y1⟩ | exact ⟨g1_, g2_⟩) (first | (go_at_call 52; refine (config_any _).mono ?_; rintro e w9 ⟨rfl, hb9'⟩; have hb9 : Below w8.heap.size w8 w9 := HBd.out.trans hb9') | (go_at_call 51; refine (HOX.out _ hb9).mono ?_; rintro e wA ⟨pgA, SA, XA, KA, rsA, gA, rfl, hbA, hXA, hsA⟩; have g1_ := hbA.cells.2.1; have g2_ := step_cell hsA y1 HKY.out))
            have hA := two_x HY8.out.2.2.1 HY8.out.2.2.2 HY8.out.1.lt hsA
            have hyA := HY8.out.1.step hsA HY8.out.2.2.2
            obtain ⟨QA, hpA⟩ := hbA.pb
            have HOY : Hid (∀ W, Below wA.heap.size wA W → Calls Try.prog 51 #[ob d2, cfg 8 12] W fun e w' => ∃ pg S' X K' rs g Q, e = .returned (.tuple #[ob pg, .int .i64 0]) ∧ BoR w' y p2 d2 pg S' 40 8 12 g rs 0 X X (fun _ => none) K' ∧ (∀ q, q < 12 → X q = C q) ∧ PgB w' p1 d1 pgA SA 40 8 12 gA rsA 0 XA XA (fun _ => none) Q ∧ w'.cell? ⟨x, 1, none⟩ = some (ob d1) ∧ Below w.heap.size w w') := Lib.hid fun W hb =>
              (bk_open (hyA.below hb) HY8.out.2.1).mono fun e w' ⟨pg, S', X, K', h1, h2, h3, h4, h5⟩ => by
                have hst := (Step.of_below hb K8).trans h5
                have hbx : BoR w' x p1 d1 pgA SA 40 8 12 gA rsA 0 XA XA (fun _ => none) KA := by
                  obtain ⟨Q1, v, k1, k2, k3, rfl⟩ := hbA
                  have hs : Same (Un Q1 (one x)) wA w' := hst.same hA.2.symm (k1.lt.un fun i e => by rw [show i = x from e]; exact k2.lt)
                  exact ⟨Q1, v, k1.keep (hs.sub fun i hi => .inl hi) hst.size, k2.same hs (.inr rfl), k3, rfl⟩
                obtain ⟨Q, hq⟩ := hbx.pb
                exact ⟨pg, S', X, K', _, _, Q, h1, h2, h4.elim id id, hq, hbx.cells.2.1, (hA.1.step (hst.frameL KA)).be⟩
            have HXA := Lib.hid hXA
            have HBe : Hid (Below wA.heap.size wA wA.drew) := Lib.hid (Below.refl _ _).drew
            clear hbA hXA hsA HOX HY8 HBd HKY hA hyA hpA hb9 hb9' x1 y1
            go_wp2_with fail
            go_region_held3 (fun W : World => W.cell? ⟨x, 1, none⟩ = some (ob d1) ∧ W.cell? ⟨y, 1, none⟩ = some (ob d2)) (first | exact ⟨g1_, g2_⟩ | exact ⟨below_cell hb10 g1_, below_cell hb10 g2_⟩ | exact ⟨l1_, l2_⟩) (first | (go_at_call 52; refine (config_any _).mono ?_; rintro e w10 ⟨rfl, hb10'⟩; have hb10 : Below wA.heap.size wA w10 := HBe.out.trans hb10') | (go_at_call 51; refine (HOY.out _ hb10).mono ?_; rintro e wB ⟨pgB, SB, XB, KB, rsB, gB, QB, rfl, hbB, hXB, hpA, l1_, hbeB⟩; have l2_ := hbB.cells.2.1))
            obtain ⟨QY, hpB⟩ := hbB.pb
            have HXB := Lib.hid hXB
            have HPA := Lib.hid hpA
            have HPB := Lib.hid hpB
            have HBB := Lib.hid hbeB
            clear hbB hXB hpA hpB hbeB l1_ l2_ g1_ g2_ hb10 hb10' HOY HBe
            go_wp2_with fail
            go_loopw [15] (fun i wr => ∃ (q : Nat), i = .int .i64 (q : Int) ∧ q ≤ 12 ∧ Hid (Below wB.heap.size wB wr)) (fun i _ => 12 - (intOf i).toNat)
            case atStart => exact ⟨0, rfl, by omega, Lib.hid (Below.refl _ _)⟩
            case round =>
              obtain ⟨q, rfl, hq, HR⟩ := hrel
              by_cases hlt : q < 12
              · have hqi : IntIn (q : Int) := by unfold IntIn; omega
                have hr1 := fun W (hb : Below wB.heap.size wB W) => pb_read (HPA.out.below hb) (q : Int) hqi
                have hr2 := fun W (hb : Below wB.heap.size wB W) => pb_read (HPB.out.below hb) (q : Int) hqi
                have hv : ∀ X : Pgs, readV 12 X (q : Int) = .tuple #[.string (bs (X q)), .int .i64 0] := fun X => by
                  unfold readV; rw [if_pos (by omega)]; rfl
                simp only [hv, HXA.out q hlt, HXB.out q hlt] at hr1 hr2
                obtain ⟨sv, hsv⟩ : ∃ sv, bs (C q) = sv := ⟨_, rfl⟩
                rw [hsv] at hr1 hr2
                have HR1 := Lib.hid hr1
                have HR2 := Lib.hid hr2
                have esv : (sv.toList != sv.toList) = false := by simp
                clear hr1 hr2 hsv hv hqi
                go_wp2_with fail
                refine (HR1.out _ HR.out).mono ?_
                rintro e w11 ⟨rfl, hb11⟩
                have HB11 := Lib.hid (HR.out.trans (hb11.mono HR.out.size))
                clear hb11
                go_wp2_with fail
                refine (HR2.out _ HB11.out).mono ?_
                rintro e w12 ⟨rfl, hb12⟩
                have HB12 := Lib.hid (HB11.out.trans (hb12.mono HB11.out.size))
                clear hb12
                go_wp2_with fail
                go_roundw
                case rel => exact ⟨q + 1, int_eq (by omega), by omega, HB12⟩
                case measure => simp [intOf]; omega
              · go_wp2_with fail
                go_ret
                exact ⟨rfl, HBB.out.trans (HR.out.mono HBB.out.size)⟩
end Go.Proofs.Ytjmhfjioccljeaa
