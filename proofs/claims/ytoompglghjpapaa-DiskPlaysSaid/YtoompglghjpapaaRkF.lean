/-
  The reference's Crash: what its loops hold.
-/
import Derived.Test.YtoompglghjpapaaRkE
import Derived.BigRegion
namespace Go.Proofs.Ytoompglghjpapaa
open Go.RowKit
set_option linter.unusedVariables false
set_option linter.unusedSimpArgs false

/-- what lasts, the first s sectors gone through -/
def rmid (D : Dk) (picks : List Int) (a s : Nat) : List UInt8 := blend D.nw.length (fun t => decide (t < s) && (D.new t && oddAt picks (a + D.cnt t))) D.rd D.la
def rnw (D : Dk) (s : Nat) : List Bool := (List.range D.nw.length).map fun t => decide (s ≤ t) && D.new t
theorem rmid_length {D : Dk} (h : D.Ok) (picks : List Int) (a s : Nat) : (rmid D picks a s).length = 128 * D.nw.length := blend_length h.rd h.la (Nat.le_refl _)
theorem rmid_zero {D : Dk} (h : D.Ok) (picks : List Int) (a : Nat) : rmid D picks a 0 = D.la := by
  unfold rmid
  rw [blend_congr (c' := fun _ => false) (fun s _ => by simp)]
  exact blend_false h.la h.rd
theorem rmid_all {D : Dk} (h : D.Ok) (picks : List Int) (a : Nat) : rmid D picks a D.nw.length = D.crashed picks a := by
  unfold rmid
  rw [blend_congr (c' := fun t => D.new t && oddAt picks (a + D.cnt t)) (fun s hs => by simp [hs])]
  exact crashed_other h picks a
theorem rmid_odd {D : Dk} (h : D.Ok) (picks : List Int) (a : Nat) {s : Nat} (hs : s < D.nw.length) (hn : D.new s = true) (ho : oddAt picks (a + D.cnt s) = true) : putAt (rmid D picks a s) (128 * s) (sec D.rd s) = rmid D picks a (s + 1) := by
  unfold rmid
  rw [blend_put h.rd h.la hs]
  refine blend_congr fun t ht => ?_
  by_cases hts : t = s
  · subst hts; simp [hn, ho]
  · have e : decide (t < s + 1) = decide (t < s) := by rw [decide_eq_decide]; omega
    rw [e, decide_eq_false hts, Bool.or_false]
theorem rmid_even {D : Dk} (picks : List Int) (a : Nat) {s : Nat} (hno : ¬ (D.new s = true ∧ oddAt picks (a + D.cnt s) = true)) : rmid D picks a (s + 1) = rmid D picks a s := by
  unfold rmid
  refine blend_congr fun t ht => ?_
  by_cases hts : t = s
  · subst hts
    have e : (D.new t && oddAt picks (a + D.cnt t)) = false := by
      cases h1 : D.new t
      · rfl
      · cases h2 : oddAt picks (a + D.cnt t)
        · rfl
        · exact absurd ⟨h1, h2⟩ hno
    rw [e]; simp
  · have e : decide (t < s + 1) = decide (t < s) := by rw [decide_eq_decide]; omega
    rw [e]
theorem rnw_length (D : Dk) (s : Nat) : (rnw D s).length = D.nw.length := by simp [rnw]
theorem rnw_zero (D : Dk) : rnw D 0 = D.nw := by
  unfold rnw
  apply List.ext_getElem (by simp)
  intro i h1 h2
  simp [Dk.new, List.getD, h2]
theorem rnw_all (D : Dk) : rnw D D.nw.length = List.replicate D.nw.length false := by
  unfold rnw
  apply List.ext_getElem (by simp)
  intro i h1 h2
  simp only [List.length_map, List.length_range] at h1
  have : ¬ D.nw.length ≤ i := by omega
  simp [this]
theorem rnw_set (D : Dk) (s : Nat) : (rnw D s).set s false = rnw D (s + 1) := by
  unfold rnw
  apply List.ext_getElem (by simp)
  intro i h1 h2
  rw [List.getElem_set]
  simp only [List.getElem_map, List.getElem_range]
  split
  · rename_i e; subst e
    have : ¬ s + 1 ≤ s := by omega
    simp [this]
  · rename_i e
    have : decide (s ≤ i) = decide (s + 1 ≤ i) := by rw [decide_eq_decide]; omega
    rw [this]
theorem rnw_skip (D : Dk) (s : Nat) (h : D.new s = false) : rnw D (s + 1) = rnw D s := by
  unfold rnw
  refine List.map_congr_left fun t _ => ?_
  by_cases hts : t = s
  · subst hts; simp [h]
  · have : decide (s + 1 ≤ t) = decide (s ≤ t) := by rw [decide_eq_decide]; omega
    rw [this]
theorem rnw_get (D : Dk) (s : Nat) (hs : s < D.nw.length) : (rnw D s).getD s false = D.new s := by
  unfold rnw
  simp [List.getD, hs]
theorem all_le (D : Dk) : D.all ≤ D.nw.length := by unfold Dk.all; exact List.count_le_length
theorem cnt_le_all (D : Dk) {s : Nat} (hs : s ≤ D.nw.length) : D.cnt s ≤ D.all := by rw [← cnt_all]; exact cnt_mono D hs (Nat.le_refl _)
theorem taken_le (ds : List (Nat × Dk)) (M : Nat) (h : ∀ (k : Nat) (x : Nat × Dk), ds[k]? = some x → x.2.nw.length ≤ M) (i : Nat) (hi : i ≤ ds.length) : taken ds i ≤ M * i := by
  induction i with
  | zero => simp [taken]
  | succ i ih =>
    have hx := List.getElem?_eq_getElem (l := ds) (i := i) (by omega)
    rw [taken_succ ds i hx]
    have h1 := h i _ hx
    have h2 := all_le (ds[i]'(by omega)).2
    have h3 := ih (by omega)
    rw [Nat.mul_succ]; omega
theorem rtmod_two {x : Int} : x.tmod 2 = 0 ↔ x % 2 = 0 := by rw [← Int.dvd_iff_tmod_eq_zero, Int.dvd_iff_emod_eq_zero]
/-- behind the first k disks -/
def ROut (p c : Nat) (ds : List (Nat × Dk)) (off : Bool) (arm : Int) (A : Option Addr) (Fs : Nat → Nat → Prop) (picks : List Int) (k : Nat) (w wr : World) : Prop :=
  ∃ Fs', QwAt wr p (crashTo picks ds k) off arm A c Fs' ∧ Step (pwF p A ds.length Fs) (pwF p A (crashTo picks ds k).length Fs') w wr
/-- while one disk's sectors are gone through -/
def RIn (p d nb : Nat) (D : Dk) (picks : List Int) (a s : Nat) (w1 wr : World) : Prop :=
  Blk wr d 84 #[ob p, .string (bs D.rd), .string (bs (rmid D picks a s)), .slice (some ⟨nb, 0, none⟩) D.nw.length D.nw.length] ∧ Blk wr nb 4 (boolsL (rnw D s)) ∧ Step (rkF d nb) (rkF d nb) w1 wr
/-- disk k has crashed -/
theorem rcrash_turn {w w1 wr : World} {p c k d nb : Nat} {D : Dk} {ds : List (Nat × Dk)} {off : Bool} {arm : Int} {A : Option Addr} {Fs Fs' : Nat → Nat → Prop} {picks : List Int}
    (hst : Step (pwF p A ds.length Fs) (pwF p A (crashTo picks ds k).length Fs') w w1) (hpw : QwAt w1 p (crashTo picks ds k) off arm A c Fs') (hx : ds[k]? = some (d, D)) (hd : RkAt w1 p d D nb) (hF : Fs' k = rkF d nb)
    (hi : RIn p d nb D picks (taken ds k) D.nw.length w1 wr) : ROut p c ds off arm A Fs picks (k + 1) w (wr.setCell ⟨d, 1, none⟩ (.string (bs (D.crashed picks (taken ds k))))) := by
  obtain ⟨hk, _⟩ := List.getElem?_eq_some_iff.1 hx
  have hat := crashTo_at picks ds k hk
  rw [hx] at hat
  obtain ⟨g1, g2, g3⟩ := hi
  rw [rmid_all hd.ok] at g1
  rw [rnw_all] at g2
  have hdn : nb ≠ d := Ne.symm (Blk.ne_ hd.self hd.bits (by decide))
  have hs1 : Step (rkF d nb) (rkF d nb) w1 (wr.setCell ⟨d, 1, none⟩ (.string (bs (D.crashed picks (taken ds k))))) := g3.setCell (a := ⟨d, 1, none⟩) (.inl (.inl rfl)) _
  have hpn : ¬ rkF d nb p := by rw [← hF]; exact hpw.notp k (List.getElem?_eq_some_iff.1 hat).1
  have hself : Blk (wr.setCell ⟨d, 1, none⟩ (.string (bs (D.crashed picks (taken ds k))))) p 81 _ := (hs1.block p hpw.self.lt hpn).trans hpw.self
  have hstep : Step (fun i => i = p ∨ Fs' k i) (fun i => i = p ∨ rkF d nb i) w1 (wr.setCell ⟨d, 1, none⟩ (.string (bs (D.crashed picks (taken ds k))))) := by
    rw [hF]; exact hs1.frameL (one p)
  have hnl : (D.crash picks (taken ds k)).nw.length = D.nw.length := by simp [Dk.crash]
  have hR : RkAt (wr.setCell ⟨d, 1, none⟩ (.string (bs (D.crashed picks (taken ds k))))) p d (D.crash picks (taken ds k)) nb := by
    refine ⟨crash_ok hd.ok picks _, by rw [hnl]; exact hd.pos, by rw [hnl]; exact hd.lim, ?_, g2.far (p := ⟨d, 1, none⟩) hdn _⟩
    rw [hnl]
    show Blk _ _ _ #[ob p, .string (bs (D.crashed picks (taken ds k))), .string (bs (D.crashed picks (taken ds k))), _]
    simpa using g1.set_ 1 (.string (bs (D.crashed picks (taken ds k))))
  obtain ⟨t1, t2⟩ := hpw.turn hat hstep hself hpw.lo ⟨nb, hR, rfl⟩ hpn
  rw [crashTo_succ picks ds k hx] at t1 t2
  exact ⟨_, t1, hst.trans t2⟩
end Go.Proofs.Ytoompglghjpapaa
