/-
  Walks of package disk: Sync, Size, Unsynced, Rot, and the power's calls.
-/
import Derived.Test.YtjmhfjioccljeaaDiskC
import Derived.Test.YtjmhfjioccljeaaUns
namespace Go.Proofs.Ytjmhfjioccljeaa
open Go.RowKit
set_option linter.unusedVariables false
set_option linter.unusedSimpArgs false
attribute [local go_sem ↓] Go.wp_at_zero Go.wp_at_succ

/-- the old bytes are forgotten -/
theorem DkAt.cleared {w w' : World} {p d fb mb : Nat} {D D' : Dk} {og oc : Nat → Nat} (h : DkAt w p d D fb mb og oc) (hm : MapAt w' 3 mb D.nw.length (fun _ => none)) (hg : w.grownBy w' (some mb))
    (hrd : D'.rd = D.rd) (hn : D'.nw = List.replicate D.nw.length false) (hok : D'.Ok) : DkAt w' p d D' fb mb og oc ∧ Step (dkF D d fb mb og) (dkF D' d fb mb og) w w' := by
  have hl : D'.nw.length = D.nw.length := by rw [hn]; simp
  have hnew : ∀ s, D'.new s = false := fun s => by
    unfold Dk.new; rw [hn]
    simp [List.getD, List.getElem?_replicate]; split <;> simp
  have hs : D'.size = D.size := congrArg List.length hrd
  have hdm : d ≠ mb := Blk.ne_map h.self h.map
  have hfm : fb ≠ mb := Blk.ne_map h.data h.map
  refine ⟨⟨hok, by rw [hl]; exact h.pos, by rw [hl]; exact h.lim, ?_, ?_, ?_, fun s hs => ?_, fun s t hs => ?_, fun s hs => ?_⟩, ⟨hg.os, hg.tape, hg.output, hg.size, fun i hi hF => hg.block i hi (by
    intro e
    have : i = mb := by simpa using e
    exact hF (.inr (.inr (.inl this)))), fun i hi => ?_⟩⟩
  · rw [hs]; exact (hg.block d h.self.lt (by simpa using hdm)).trans h.self
  · rw [hrd]; exact (hg.block fb h.data.lt (by simpa using hfm)).trans h.data
  · rw [hl]
    exact hm.congr fun s => by unfold oldF; rw [hnew]; rfl
  · rw [hnew] at hs; cases hs
  · rw [hnew] at hs; cases hs
  · rw [hnew] at hs; cases hs
  · rcases hi with hi | hi | hi | ⟨s, hs, _⟩
    · exact .inl (.inl hi)
    · exact .inl (.inr (.inl hi))
    · exact .inl (.inr (.inr (.inl hi)))
    · rw [hnew] at hs; cases hs
def syncD (D : Dk) (off : Bool) (arm : Int) : Dk := if (useP off arm).1 = 0 then D.sync else D
def SyncSpec (p d : Nat) (D : Dk) (fb mb : Nat) (og oc : Nat → Nat) (sl : Value) (off : Bool) (arm : Int) (w : World) (e : Ending) (w' : World) : Prop :=
  e = .returned (.int .i64 (useP off arm).1) ∧ PwSelf w' p sl (useP off arm).2.1 (useP off arm).2.2 ∧
    DkAt w' p d (syncD D off arm) fb mb og oc ∧ Step (Un (one p) (dkF D d fb mb og)) (Un (one p) (dkF (syncD D off arm) d fb mb og)) w w'
set_option maxRecDepth 100000 in
set_option maxHeartbeats 1000000 in
theorem sync_at {p d fb mb : Nat} {D : Dk} {og oc : Nat → Nat} {sl : Value} {off : Bool} {arm : Int} (w : World) (h : DkAt w p d D fb mb og oc) (hp : PwSelf w p sl off arm)
    (hlo : -1 ≤ arm ∧ arm ≤ 9223372036854775807) (hpn : ¬ dkF D d fb mb og p) :
    Calls Try.prog 70 #[ob d] w fun e w' => SyncSpec p d D fb mb og oc sl off arm w e w' := by
  have hu := use_any p sl off arm w hp hlo
  have c0 := h.self.cell 0
  simp at c0
  have HU := Lib.hid hu
  have HD := Lib.hid h
  have HP := Lib.hid hp
  have HPN := Lib.hid hpn
  clear h hp hu hpn hlo
  by_cases hz : (useP off arm).1 = 0
  · have HX : Hid (syncD D off arm = D.sync) := Lib.hid (by unfold syncD; rw [if_pos hz])
    have HZ := Lib.hid hz
    clear hz
    go_enter Try.func70, Try.ntmps70
    go_wp2_with fail
    refine HU.out.mono ?_
    rintro e w1 ⟨rfl, hps, hst⟩
    rw [HZ.out]
    have HD1 : Hid (DkAt w1 p d D fb mb og oc) := Lib.hid (HD.out.keep (hst.same (fun i h1 h2 => HPN.out (by unfold one at h1; rwa [h1] at h2)) HD.out.lt) hst.size)
    have HPS := Lib.hid hps
    have HST := Lib.hid hst
    clear hps hst HU
    have d2 := HD1.out.self.cell 2
    simp at d2
    obtain ⟨w2, hcl, hm2, hg2, _⟩ := HD1.out.map.clear Try.underlying118
    have HM2 := Lib.hid hm2
    have HG2 := Lib.hid hg2
    clear hm2 hg2
    go_wp2_with fail
    go_ret
    unfold SyncSpec
    rw [HX.out]
    obtain ⟨r1, r2⟩ := HD1.out.cleared (D' := D.sync) HM2.out HG2.out rfl rfl (sync_ok HD.out.ok)
    exact ⟨by rw [HZ.out]; rfl, HPS.out.keep (HG2.out.block p HPS.out.lt (by have := HPS.out.ne_map HD1.out.map; simpa using this)), r1, (HST.out.frame _).trans (r2.frameL _)⟩
  · have h4 : (useP off arm).1 = 4 := by rcases useP_err off arm with h | h; exact absurd h hz; exact h
    have HX : Hid (syncD D off arm = D) := Lib.hid (by unfold syncD; rw [if_neg hz])
    have HZ := Lib.hid h4
    clear hz h4
    go_enter Try.func70, Try.ntmps70
    go_wp2_with fail
    refine HU.out.mono ?_
    rintro e w1 ⟨rfl, hps, hst⟩
    rw [HZ.out]
    have HD1 : Hid (DkAt w1 p d D fb mb og oc) := Lib.hid (HD.out.keep (hst.same (fun i h1 h2 => HPN.out (by unfold one at h1; rwa [h1] at h2)) HD.out.lt) hst.size)
    have HPS := Lib.hid hps
    have HST := Lib.hid hst
    clear hps hst HU
    go_wp2_with fail
    go_ret
    unfold SyncSpec
    rw [HX.out]
    exact ⟨by rw [HZ.out]; rfl, HPS.out, HD1.out, HST.out.frame _⟩
/-- the sectors that are told -/
def UnsSpec (D : Dk) (w : World) (e : Ending) (w' : World) : Prop :=
  ∃ A c, e = .returned (.slice A D.uns.length c) ∧ OwnR w' w.heap.size 3 1 A D.uns.length c (ic (D.uns.map fun s : Nat => (s : Int))) ∧ Below w.heap.size w w'
theorem keys_uns (D : Dk) (og oc : Nat → Nat) : keysOf (oldF D og oc) D.nw.length = D.uns := by
  unfold keysOf Dk.uns
  congr 1
  funext s
  unfold oldF
  cases D.new s <;> rfl
set_option maxRecDepth 100000 in
set_option maxHeartbeats 1000000 in
theorem uns_at {p d fb mb : Nat} {D : Dk} {og oc : Nat → Nat} (w : World) (h : DkAt w p d D fb mb og oc) :
    Calls Try.prog 43 #[ob d] w fun e w' => UnsSpec D w e w' := by
  have c2 := h.self.cell 2
  simp at c2
  have HM := Lib.hid h.map
  clear h
  go_enter Try.func43, Try.ntmps43
  go_wp2_with fail
  refine (keys_any (some mb) w).mono ?_
  rintro e w1 ⟨rfl, rfl⟩
  have hso := sorted_any mb D.nw.length (oldF D og oc) w HM.out
  rw [keys_uns] at hso
  have HSO := Lib.hid hso
  clear hso
  go_wp2_with fail
  refine HSO.out.mono ?_
  rintro e w2 ⟨A, c, rfl, hown, hb⟩
  have HO := Lib.hid hown
  have HB := Lib.hid hb
  clear hown hb HSO
  go_wp2_with fail
  go_ret
  refine ⟨A, c, by simp, ?_, ((Below.refl _ w).alloc (Nat.le_refl _) _).trans (HB.out.mono (by simp))⟩
  have := HO.out
  rw [List.length_map] at this
  exact OwnR.mono this (by omega)
set_option maxRecDepth 100000 in
theorem size_at {p d fb mb : Nat} {D : Dk} {og oc : Nat → Nat} (w : World) (h : DkAt w p d D fb mb og oc) :
    Calls Try.prog 102 #[ob d] w fun e w' => e = .returned (.int .i64 (D.size : Int)) ∧ w = w' := by
  have c1 := h.self.cell 1
  simp at c1
  clear h
  generalize D.size = z at *
  go_enter Try.func102, Try.ntmps102
  go_wp2
  go_ret
  exact ⟨rfl, rfl⟩
end Go.Proofs.Ytjmhfjioccljeaa
