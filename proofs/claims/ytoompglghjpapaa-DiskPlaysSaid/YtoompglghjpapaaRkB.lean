/-
  Walks of the reference's disks: DocSync.
-/
import Derived.Test.YtoompglghjpapaaRkA
namespace Go.Proofs.Ytoompglghjpapaa
open Go.RowKit
set_option linter.unusedVariables false
set_option linter.unusedSimpArgs false
attribute [local go_sem ↓] Go.wp_at_zero Go.wp_at_succ

theorem info_bool' : (Try.prog.info? 4).map (fun i => (i.zero, i.size, i.bytes)) = some (some (.bool false), 1, 1) := by kernel_rfl
theorem made_bools (n : Nat) : madeCells #[.bool false] n = boolsL (List.replicate n false) := by
  apply Array.ext'
  rw [toList_madeCells_one]
  simp [boolsL]
theorem run_makeBools (n : Nat) (i : Int) (h : i = (n : Int)) (hn : n ≤ 140737488355328) (w : World) :
    (Instr.makeSlice 62 (.int .i64 i) (.int .i64 i)).run Try.prog w = .ok (.slice (some ⟨w.heap.size, 0, none⟩) n n) (w.alloc (.cells (boolsL (List.replicate n false)) 4)) := by
  subst h
  obtain ⟨i, hi0, hz0, hz1, hz2⟩ := info_parts info_bool'
  have hr := run_make (P := Try.prog) w 62 4 i (.bool false) Try.underlying62 hi0 hz0 .i64 .i64 n n (by omega) (by omega) (by rw [hz2]; omega) (by omega)
  simp only [Int.toNat_natCast, hz1, Nat.mul_one] at hr
  rw [← made_bools]
  exact hr
/-- what a call that turns one disk and its power leaves -/
def RtSpec (p d : Nat) (nb : Nat) (sl : Value) (E : Int) (off' : Bool) (arm' : Int) (D' : Dk) (w : World) (e : Ending) (w' : World) : Prop :=
  e = .returned (.int .i64 E) ∧ QwSelf w' p sl off' arm' ∧ ∃ nb', RkAt w' p d D' nb' ∧ Step (Un (one p) (rkF d nb)) (Un (one p) (rkF d nb')) w w'
set_option maxRecDepth 100000 in
theorem rsync_at {p d nb : Nat} {D : Dk} {sl : Value} {off : Bool} {arm : Int} (w : World) (h : RkAt w p d D nb) (hp : QwSelf w p sl off arm) (hlo : -1 ≤ arm ∧ arm ≤ 9223372036854775807) (hn : ¬ rkF d nb p) :
    Calls Try.prog 41 #[ob d] w fun e w' => RtSpec p d nb sl (useP off arm).1 (useP off arm).2.1 (useP off arm).2.2 (syncD D off arm) w e w' := by
  have c0 := h.self.cell 0
  simp at c0
  have HH := Lib.hid h
  have HA := Lib.hid (act_any p sl off arm w hp hlo)
  have HN := Lib.hid hn
  clear h hp hn
  go_enter Try.func41, Try.ntmps41
  go_wp2_with fail
  refine HA.out.mono ?_
  rintro e w1 ⟨rfl, hq, hs⟩
  have hd1 : ¬ one p d := fun e => HN.out (.inl (show p = d from (show d = p from e).symm))
  have hd2 : ¬ one p nb := fun e => HN.out (.inr (show p = nb from (show nb = p from e).symm))
  have HS1 : Hid (Blk w1 d 84 _) := Lib.hid (HH.out.self.step hs hd1)
  have HB1 : Hid (Blk w1 nb 4 (boolsL D.nw)) := Lib.hid (HH.out.bits.step hs hd2)
  have HQ := Lib.hid hq
  have HT := Lib.hid hs
  clear hq hs
  have c1 := HS1.out.cell 1
  have c2 := HS1.out.cell 2
  have c3 := HS1.out.cell 3
  have f2 := HS1.out.frozen 2
  have f3 := HS1.out.frozen 3
  simp at c1 c2 c3
  rcases useP_err off arm with he | he
  · have HE : Hid (syncD D off arm = D.sync ∧ (useP off arm).1 = 0) := Lib.hid ⟨if_pos he, he⟩
    rw [he]
    have hmk := fun W => run_makeBools D.nw.length (D.nw.length : Int) rfl (by have := HH.out.lim; omega) W
    clear he
    have HS2 := fun o => (HS1.out.set_ 2 (.string (bs D.rd))).alloc o
    have c32 := fun o => (HS2 o).cell 3
    have f32 := fun o => (HS2 o).frozen 3
    simp at c32
    have HS2 := Lib.hid HS2
    go_wp2_with fail
    go_ret
    unfold RtSpec
    rw [HE.out.1, HE.out.2]
    have hpd : p ≠ d := fun e => HN.out (.inl e)
    have hdl := HS1.out.lt
    have hz : (w1.setCell ⟨d, 2, none⟩ (.string (bs D.rd))).heap.size = w1.heap.size := by simp [World.setCell]
    have b1 := (HS2.out (.cells (boolsL (List.replicate D.nw.length false)) 4)).set_ 3 (.slice (some ⟨w1.heap.size, 0, none⟩) D.nw.length D.nw.length)
    have b2 := Blk.new (w1.setCell ⟨d, 2, none⟩ (.string (bs D.rd))) 4 (boolsL (List.replicate D.nw.length false))
    rw [hz] at b2
    have b3 := b2.far (p := ⟨d, 3, none⟩) (by show w1.heap.size ≠ d; omega) (.slice (some ⟨w1.heap.size, 0, none⟩) D.nw.length D.nw.length)
    have q1 : Blk w1 p 81 _ := HQ.out
    have q2 := ((q1.far (p := ⟨d, 2, none⟩) hpd (.string (bs D.rd))).alloc (.cells (boolsL (List.replicate D.nw.length false)) 4)).far (p := ⟨d, 3, none⟩) hpd (.slice (some ⟨w1.heap.size, 0, none⟩) D.nw.length D.nw.length)
    have t1 := (((HT.out.frame (rkF d nb)).setCell (a := ⟨d, 2, none⟩) (.inl (.inr (.inl rfl))) (.string (bs D.rd))).alloc' (.cells (boolsL (List.replicate D.nw.length false)) 4)).setCell (a := ⟨d, 3, none⟩) (.inl (.inr (.inl rfl))) (.slice (some ⟨w1.heap.size, 0, none⟩) D.nw.length D.nw.length)
    have hsz := HT.out.size
    have hnl : D.sync.nw.length = D.nw.length := by simp [Dk.sync]
    refine ⟨rfl, q2, w1.heap.size, ⟨sync_ok HH.out.ok, by rw [hnl]; exact HH.out.pos, by rw [hnl]; exact HH.out.lim, ?_, b3⟩, t1.regroup fun i hi => ?_⟩
    · rw [hnl]
      show Blk _ _ _ #[ob p, .string (bs D.rd), .string (bs D.rd), _]
      simpa using b1
    · rcases hi with hi | rfl | rfl
      · exact .inl (.inl hi)
      · exact .inl (.inr (.inl rfl))
      · exact .inr hsz
  · have HE : Hid (syncD D off arm = D ∧ (useP off arm).1 = 4) := Lib.hid ⟨if_neg (by rw [he]; omega), he⟩
    rw [he]
    clear he
    go_wp2_with fail
    go_ret
    unfold RtSpec
    rw [HE.out.1, HE.out.2]
    exact ⟨rfl, HQ.out, nb, ⟨HH.out.ok, HH.out.pos, HH.out.lim, HS1.out, HB1.out⟩, HT.out.frame _⟩
end Go.Proofs.Ytoompglghjpapaa
