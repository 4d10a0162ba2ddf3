/-
  Walks of the reference's disks: DocWrite.
-/
import Derived.Test.YtoompglghjpapaaRkB
import Derived.StillTailTactics
namespace Go.Proofs.Ytoompglghjpapaa
open Go.RowKit
set_option linter.unusedVariables false
set_option linter.unusedSimpArgs false
attribute [local go_sem ↓] Go.wp_at_zero Go.wp_at_succ

theorem touch_zero' (o s : Nat) : touch o 0 s = false := by simp [touch]
theorem touch_succ' (o j s : Nat) : touch o (j + 1) s = (touch o j s || decide (s = (o + j) / 128)) := by
  unfold touch
  by_cases h : s = (o + j) / 128
  · have h1 : 0 < j + 1 ∧ o / 128 ≤ s ∧ 128 * s < o + (j + 1) := ⟨by omega, by omega, by omega⟩
    rw [decide_eq_true h1, decide_eq_true h, Bool.or_true]
  · have h2 : decide (s = (o + j) / 128) = false := decide_eq_false h
    rw [h2, Bool.or_false, decide_eq_decide]
    constructor <;> intro ⟨x, y, z⟩ <;> refine ⟨by omega, by omega, by omega⟩
/-- the sectors, when the first j bytes of a write are marked -/
def marks (D : Dk) (o j : Nat) : List Bool := (List.range D.nw.length).map fun s => D.new s || touch o j s
theorem marks_zero (D : Dk) (o : Nat) : marks D o 0 = D.nw := by
  unfold marks
  apply List.ext_getElem (by simp)
  intro i h1 h2
  simp [touch_zero', Dk.new, List.getD, h2]
theorem marks_length (D : Dk) (o j : Nat) : (marks D o j).length = D.nw.length := by simp [marks]
theorem marks_set (D : Dk) (o j : Nat) : (marks D o j).set ((o + j) / 128) true = marks D o (j + 1) := by
  unfold marks
  apply List.ext_getElem (by simp)
  intro i h1 h2
  rw [List.getElem_set]
  simp only [List.getElem_map, List.getElem_range, touch_succ']
  split
  · rename_i e; simp [← e]
  · rename_i e; simp [Ne.symm e]
theorem boolsL_set (l : List Bool) (i : Nat) (v : Bool) : (boolsL l).setIfInBounds i (.bool v) = boolsL (l.set i v) := by
  apply Array.ext'
  simp [boolsL, List.map_set]
theorem boolsL_get (l : List Bool) (i : Nat) (h : i < l.length) : (boolsL l)[i]? = some (.bool (l.getD i false)) := by
  simp [boolsL, List.getD, h]
/-- while a write's sectors are marked -/
def WIn (w wr : World) (p d nb : Nat) (D D' : Dk) (F : Nat → Prop) (l : List Bool) (sl : Value) (off : Bool) (arm : Int) : Prop :=
  Blk wr d 84 #[ob p, .string (bs D'.rd), .string (bs D.la), .slice (some ⟨nb, 0, none⟩) D.nw.length D.nw.length] ∧ Blk wr nb 4 (boolsL l) ∧ QwSelf wr p sl off arm ∧ Step F F w wr
theorem bs_list (B : ByteArray) : bs B.data.toList = B := by apply ByteArray.ext; simp [bs]
set_option maxRecDepth 100000 in
theorem rwrite_at {p d nb : Nat} {D : Dk} {sl : Value} {off : Bool} {arm : Int} (o : Int) (B : ByteArray) (w : World) (h : RkAt w p d D nb) (hp : QwSelf w p sl off arm) (hlo : -1 ≤ arm ∧ arm ≤ 9223372036854775807) (hn : ¬ rkF d nb p) (ho : -9223372036854775808 ≤ o ∧ o ≤ 9223372036854775807) (hB : B.size ≤ maxLen) :
    Calls Try.prog 40 #[ob d, .int .i64 o, .string B] w fun e w' => RtSpec p d nb sl (writeE D off arm o B.data.toList.length) (writeOff D off arm o B.data.toList.length) (writeArm D off arm o B.data.toList.length) (writeD D off arm o B.data.toList) w e w' := by
  unfold maxLen at hB
  have hlim : D.size ≤ 2097152 := by have := h.size; have := h.lim; omega
  obtain ⟨n, hnn⟩ : ∃ n, B.data.toList.length = n := ⟨_, rfl⟩
  have hBn : B.size = n := by rw [← hnn, str_len]
  have HI := Lib.hid (rin_any d D.size (ob p) _ _ (bs D.rd) o (n : Int) w h.self (by rw [bs_size]; rfl) hlim ho (by omega))
  have c0 := h.self.cell 0
  simp at c0
  have HH := Lib.hid h
  have HA := Lib.hid (act_any p sl off arm w hp hlo)
  have HN := Lib.hid hn
  have HNN := Lib.hid hnn
  have HP := Lib.hid hp
  have HL : Hid (D.rd.length = D.size) := Lib.hid rfl
  rw [hnn]
  clear h hp hn hnn
  by_cases hin : inB D.size o n = true
  · rw [hin] at HI
    have HIN := Lib.hid hin
    have hin' := hin
    simp only [inB, decide_eq_true_eq] at hin'
    obtain ⟨o, rfl⟩ := Int.eq_ofNat_of_zero_le hin'.1
    have hle : o + n ≤ D.size := by omega
    clear hin hin'
    go_enter Try.func40, Try.ntmps40
    go_wp2_with fail
    refine HI.out.mono ?_
    rintro e w1 ⟨rfl, rfl⟩
    go_wp2_with fail
    refine HA.out.mono ?_
    rintro e w1 ⟨rfl, hq, hs⟩
    have hd1 : ¬ one p d := fun e => HN.out (.inl (show p = d from (show d = p from e).symm))
    have hd2 : ¬ one p nb := fun e => HN.out (.inr (show p = nb from (show nb = p from e).symm))
    have HS1 : Hid (Blk w1 d 84 _) := Lib.hid (HH.out.self.step hs hd1)
    have HB1 : Hid (Blk w1 nb 4 (boolsL D.nw)) := Lib.hid (HH.out.bits.step hs hd2)
    have HQ := Lib.hid hq
    have HT := Lib.hid hs
    clear hq hs c0
    have c1 := HS1.out.cell 1
    have f1 := HS1.out.frozen 1
    simp at c1
    rcases useP_err off arm with he | he
    · have HE : Hid (writeE D off arm o n = 0 ∧ (useP off arm).1 = 0) := Lib.hid ⟨by unfold writeE; rw [if_pos HIN.out, he], he⟩
      rw [he]
      clear he
      have hs1 := fun W => slice_bsh W D.rd (o : Int) o rfl (by rw [HL.out]; omega)
      obtain ⟨q, hq⟩ : ∃ q, o + n = q := ⟨_, rfl⟩
      have hs2 := fun W => slice_bsl W D.rd (q : Int) q rfl (by rw [HL.out]; omega)
      have hon : IntKind.i64.wrap ((o : Int) + n) = (q : Int) := by rw [IntWalk.i64_in _ (by omega)]; omega
      have z1 : (bs (D.rd.take o)).size = o := by rw [bs_size, List.length_take, HL.out]; omega
      have z2 : (bs (D.rd.drop q)).size = D.size - q := by rw [bs_size, List.length_drop, HL.out]
      obtain ⟨X1, hX1⟩ : ∃ X, bs (D.rd.take o) = X := ⟨_, rfl⟩
      obtain ⟨X2, hX2⟩ : ∃ X, bs (D.rd.drop q) = X := ⟨_, rfl⟩
      obtain ⟨R, hR⟩ : ∃ X, bs D.rd = X := ⟨_, rfl⟩
      obtain ⟨X3, hX3⟩ : ∃ X, X1 ++ B = X := ⟨_, rfl⟩
      have z3 : X3.size = q := by rw [← hX3, ByteArray.size_append, ← hX1, z1, hBn]; exact hq
      rw [hX1] at z1 hs1
      rw [hX2] at z2 hs2
      rw [hR] at hs1 hs2 c1
      have k1 : ¬ 9223372036854775807 < X1.size + n := by omega
      have k0 : ¬ 9223372036854775807 < X1.size + B.size := by omega
      have k2 : ¬ 9223372036854775807 < X3.size + X2.size := by omega
      have HX : Hid (X3 ++ X2 = bs (putAt D.rd o B.data.toList)) := Lib.hid (by
        rw [← hX3, ← hX1, ← hX2]
        unfold putAt
        rw [← bs_cat, ← bs_cat, bs_list, HNN.out, hq])
      clear hX1 hX2 hR z1 z2 z3
      go_upto_region 6 with (fail)
      go_still_tail 21, (by kernel_rfl)
      change wpList _ _ _ _ _ w1.drew
      have c1d : w1.drew.cell? ⟨d, 1, none⟩ = some (.string R) := c1
      have f1d : w1.drew.frozen? ⟨d, 1, none⟩ = false := f1
      go_wp2_with fail
      rw [HX.out]
      have hpd : p ≠ d := fun e => HN.out (.inl e)
      have hpn : p ≠ nb := fun e => HN.out (.inr e)
      have hdn : d ≠ nb := Blk.ne_ HS1.out HB1.out (by decide)
      have hsz : D.size = 128 * D.nw.length := HH.out.size
      have hlen : D.nw.length ≤ 16384 := HH.out.lim
      have HW : Hid (WIn w (w1.setCell ⟨d, 1, none⟩ (.string (bs (putAt D.rd o B.data.toList)))).drew p d nb D (D.write o B.data.toList) (Un (one p) (rkF d nb)) (marks D o 0) sl (useP off arm).2.1 (useP off arm).2.2) := Lib.hid (by
        have q1 : Blk w1 p 81 _ := HQ.out
        have b1 := HS1.out.set_ 1 (.string (bs (putAt D.rd o B.data.toList)))
        refine ⟨?_, ?_, (q1.far (p := ⟨d, 1, none⟩) hpd _).drew, ((HT.out.frame (rkF d nb)).setCell (a := ⟨d, 1, none⟩) (.inl (.inr (.inl rfl))) _).drew⟩
        · show Blk (w1.setCell _ _) _ _ #[ob p, .string (bs (putAt D.rd o B.data.toList)), _, _]
          simpa using b1
        rw [marks_zero]
        exact (HB1.out.far (p := ⟨d, 1, none⟩) (Ne.symm hdn) _).drew)
      clear c1 f1 c1d f1d hs1 hs2 hon hX3 k1 k0 k2 HX HS1 HB1 HQ HT HP HA HI
      obtain ⟨wq, hwq⟩ : ∃ wq, (w1.setCell ⟨d, 1, none⟩ (.string (bs (putAt D.rd o B.data.toList)))).drew = wq := ⟨_, rfl⟩
      rw [hwq] at HW ⊢
      clear hwq
      go_loopw [8] (fun i wr => ∃ j : Nat, i = .int .i64 ((o : Int) + (j : Int)) ∧ j ≤ n ∧ Hid (WIn w wr p d nb D (D.write o B.data.toList) (Un (one p) (rkF d nb)) (marks D o j) sl (useP off arm).2.1 (useP off arm).2.2)) (fun i _ => q - (RowKit.intOf i).toNat)
      case atStart => exact ⟨0, int_eq (by omega), by omega, HW⟩
      case round =>
        clear HW
        obtain ⟨j, rfl, hj, HW⟩ := hrel
        obtain ⟨g1, g2, g3, g4⟩ := HW.out
        by_cases hjn : j < n
        · have hlt : (o + j) / 128 < D.nw.length := by omega
          have c3 := g1.cell 3
          simp at c3
          have ct := g2.cell ((o + j) / 128)
          rw [boolsL_get _ _ (by rw [marks_length]; exact hlt)] at ct
          have ft := g2.frozen ((o + j) / 128)
          clear g1 g2 g3 g4
          go_wp2_with fail
          refine ⟨⟨j + 1, int_eq (by omega), by omega, ?_⟩, by simp [RowKit.intOf]; omega⟩
          obtain ⟨g1, g2, g3, g4⟩ := HW.out
          have g2' := g2.set_ ((o + j) / 128) (.bool true)
          rw [boolsL_set, marks_set] at g2'
          have g3' : Blk wr p 81 _ := g3
          exact Lib.hid ⟨g1.far (p := ⟨nb, _, none⟩) hdn _, g2', g3'.far (p := ⟨nb, _, none⟩) hpn _, g4.setCell (a := ⟨nb, (o + j) / 128, none⟩) (.inl (.inr (.inr rfl))) _⟩
        · obtain rfl : j = n := by omega
          clear g1 g2 g3 g4
          go_wp2_with fail
          go_ret
          obtain ⟨g1, g2, g3, g4⟩ := HW.out
          have e1 : writeD D off arm o B.data.toList = D.write o B.data.toList := by unfold writeD; rw [HNN.out, HE.out.1, if_pos rfl, Int.toNat_natCast]
          have e2 : writeOff D off arm o (j : Int) = (useP off arm).2.1 := by unfold writeOff; rw [if_pos HIN.out]
          have e3 : writeArm D off arm o (j : Int) = (useP off arm).2.2 := by unfold writeArm; rw [if_pos HIN.out]
          have e4 : marks D o j = (D.write o B.data.toList).nw := by unfold marks Dk.write; rw [HNN.out]
          have hnl : (D.write o B.data.toList).nw.length = D.nw.length := write_nw _ _ _
          rw [e1, e2, e3, HE.out.1]
          rw [e4] at g2
          refine ⟨rfl, g3, nb, ⟨write_ok HH.out.ok (by rw [HNN.out]; exact hle), by rw [hnl]; exact HH.out.pos, by rw [hnl]; exact HH.out.lim, ?_, g2⟩, g4⟩
          rw [hnl]; exact g1
    · have HE : Hid (writeE D off arm o n = 4 ∧ (useP off arm).1 = 4) := Lib.hid ⟨by unfold writeE; rw [if_pos HIN.out, he], he⟩
      rw [he]
      clear he
      go_wp2_with fail
      go_ret
      have e1 : writeD D off arm o B.data.toList = D := by unfold writeD; rw [HNN.out, HE.out.1, if_neg (by decide)]
      have e2 : writeOff D off arm o (n : Int) = (useP off arm).2.1 := by unfold writeOff; rw [if_pos HIN.out]
      have e3 : writeArm D off arm o (n : Int) = (useP off arm).2.2 := by unfold writeArm; rw [if_pos HIN.out]
      rw [e1, e2, e3, HE.out.1]
      exact ⟨rfl, HQ.out, nb, ⟨HH.out.ok, HH.out.pos, HH.out.lim, HS1.out, HB1.out⟩, HT.out.frame _⟩
  · have hin' : inB D.size o n = false := by simpa using hin
    rw [hin'] at HI
    have HE : Hid (inB D.size o n = false) := Lib.hid hin'
    clear hin hin'
    go_enter Try.func40, Try.ntmps40
    go_wp2_with fail
    refine HI.out.mono ?_
    rintro e w1 ⟨rfl, rfl⟩
    go_wp2_with fail
    go_ret
    have e0 : writeE D off arm o (n : Int) = 1 := by unfold writeE; rw [HE.out]; rfl
    have e1 : writeD D off arm o B.data.toList = D := by unfold writeD; rw [HNN.out, e0, if_neg (by decide)]
    have e2 : writeOff D off arm o (n : Int) = off := by unfold writeOff; rw [HE.out]; rfl
    have e3 : writeArm D off arm o (n : Int) = arm := by unfold writeArm; rw [HE.out]; rfl
    rw [e1, e2, e3, e0]
    exact ⟨rfl, HP.out, nb, HH.out, Step.refl _ _⟩
end Go.Proofs.Ytoompglghjpapaa
