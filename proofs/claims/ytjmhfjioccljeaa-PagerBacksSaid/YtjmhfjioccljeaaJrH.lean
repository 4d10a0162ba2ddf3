/-
  Walk: Switch, Commit of package journal.
-/
import Derived.Test.YtjmhfjioccljeaaJrF
import Derived.Test.YtjmhfjioccljeaaJrG
namespace Go.Proofs.Ytjmhfjioccljeaa
open Go.RowKit
set_option linter.unusedVariables false
set_option linter.unusedSimpArgs false
attribute [local go_sem ↓] Go.wp_at_zero Go.wp_at_succ

/-- a power, disk k of it with a journal -/
def JPs (w : World) (p : Nat) (as_ : List Nat) (S : St) (k d j : Nat) (J : Js) (H : Nat → Prop) : Prop :=
  as_[k]? = some d ∧ J.Ok (S.at_ k).size ∧ ∃ F G, PwS w p as_ S F ∧ JrR w j d J G ∧ Dis F G ∧ H = Un F G
def JPSpec (p : Nat) (as_ : List Nat) (k d j : Nat) (J : Js) (r : Int × St) (H : Nat → Prop) (w : World) (e : Ending) (w' : World) : Prop :=
  e = .returned (.int .i64 r.1) ∧ ∃ H', JPs w' p as_ r.2 k d j J H' ∧ Step H H' w w'
section
variable {w w' : World} {p k d j : Nat} {as_ : List Nat} {S : St} {J : Js} {H : Nat → Prop}
theorem JPs.lt (h : JPs w p as_ S k d j J H) : Lt H w.heap.size := by
  obtain ⟨_, _, F, G, h1, h2, _, rfl⟩ := h
  exact h1.lt.un h2.lt
theorem JPs.keep (h : JPs w p as_ S k d j J H) (hs : Same H w w') (hsz : w.heap.size ≤ w'.heap.size) : JPs w' p as_ S k d j J H := by
  obtain ⟨a, b, F, G, h1, h2, h3, rfl⟩ := h
  exact ⟨a, b, F, G, h1.keep (hs.sub fun i hi => .inl hi) hsz, h2.keep (hs.sub fun i hi => .inr hi) hsz, h3, rfl⟩
theorem JPs.below (h : JPs w p as_ S k d j J H) (hb : Below w.heap.size w w') : JPs w' p as_ S k d j J H := h.keep (Same.of_below hb h.lt) hb.size
/-- the journal alone turns -/
theorem JPs.turn {J' : Js} {G G' F : Nat → Prop} (h0 : as_[k]? = some d) (hO : J'.Ok (S.at_ k).size) (h1 : PwS w p as_ S F) (hd : Dis F G) (h : JrR w' j d J' G') (hs : Step G G' w w') : JPs w' p as_ S k d j J' (Un F G') ∧ Step (Un F G) (Un F G') w w' :=
  ⟨⟨h0, hO, F, G', h1.keep (hs.same hd.symm h1.lt) hs.size, h, (hs.dis hd.symm h1.lt).symm, rfl⟩, hs.frameL F⟩
/-- the disks alone turn -/
theorem JPs.disks {S' : St} {F F' G : Nat → Prop} (h0 : as_[k]? = some d) (hO : J.Ok (S'.at_ k).size) (h : PwS w' p as_ S' F') (h2 : JrR w j d J G) (hd : Dis F G) (hs : Step F F' w w') : JPs w' p as_ S' k d j J (Un F' G) ∧ Step (Un F G) (Un F' G) w w' :=
  ⟨⟨h0, hO, F', G, h, h2.step hs hd, hs.dis hd h2.lt, rfl⟩, hs.frame G⟩
theorem blank_at {F : Nat → Prop} (h : PwS w p as_ S F) (hk : as_[k]? = some d) (at_ sectors g : Nat) (gi : Int) (hgi : gi = (g : Int)) (ha : at_ ≤ 2097152) (hs : sectors ≤ 4000) (hg : g ≤ 8796093022208) :
    Calls Try.prog 76 #[ob d, .int .i64 (at_ : Int), .int .i64 (sectors : Int), .int .i64 (at_ : Int), .int .i64 gi] w fun e w' => StSpec p as_ F (blankF S k at_ sectors at_ g) w e w' := by
  subst hgi
  exact blank_any h hk at_ sectors at_ g ha ha hs hg
theorem areaN_le {first sectors size g : Nat} (h : first + 2 * sectors * 128 ≤ size) : areaN first sectors g ≤ size := by
  unfold areaN
  have : (g + 1) % 2 = 0 ∨ (g + 1) % 2 = 1 := by omega
  rcases this with e | e <;> rw [e] <;> omega
theorem undrew_step {F F' : Nat → Prop} {w w' : World} (h : Step F F' w.drew w') : Step F F' w w' := ⟨h.os, h.tape, h.output, h.size, h.block, h.fresh⟩
set_option maxRecDepth 100000 in
set_option maxHeartbeats 2000000 in
theorem jswitch_any (h : JPs w p as_ S k d j J H) (hg : J.gen + 1 ≤ 8796093022208) :
    Calls Try.prog 21 #[ob j] w fun e w' => JPSpec p as_ k d j (J.switch S k) (switchF J S k) H w e w' := by
  obtain ⟨h0, hO, F, G, h1, h2, hd, rfl⟩ := h
  have hO' := hO.switch S k hg
  have hG := Lib.hid h2
  obtain ⟨A, c, B, cB, h, rfl⟩ := h2
  obtain ⟨c0, c1, c2, c3, c4, c5, c6⟩ := h.cells
  have hsec := hO.secM
  have hfill := hO.fill
  have hfew := hO.few
  have hpl := hO.place
  have hsz := hO.size
  have hfirst : J.first ≤ 2097152 := by omega
  have hwt : J.waiting ≤ 300000 := by omega
  by_cases hw : 0 < J.waiting
  · have hF : switchF J S k = (13, S) := by unfold switchF; rw [if_pos hw]
    have hJ : J.switch S k = J := by unfold Js.switch; rw [hF, if_neg (by simp)]
    rw [hF, hJ]
    have hwi : (0 : Int) < (J.waiting : Int) := by omega
    have HR : Hid (JPs w p as_ S k d j J (Un F (jrF j A B))) := Lib.hid ⟨h0, hO, F, _, h1, hG.out, hd, rfl⟩
    clear h0 hO hO' h1 h c0 c1 c2 c3 c4 c5 hF hJ hd hw
    go_enter Try.func21, Try.ntmps21
    go_wp2_with fail
    go_returns
    exact ⟨rfl, _, HR.out, Step.refl _ _⟩
  · obtain ⟨at_, hat⟩ : ∃ a, areaN J.first J.sectors (J.gen + 1) = a := ⟨_, rfl⟩
    have hat2 : at_ ≤ 2097152 := by rw [← hat]; exact Nat.le_trans (areaN_le hpl) hsz
    obtain ⟨R, hR⟩ : ∃ R, blankF S k at_ J.sectors at_ (J.gen + 1) = R := ⟨_, rfl⟩
    have hF : switchF J S k = R := by unfold switchF; rw [if_neg hw, hat, hR]
    have hgi : ((J.gen : Int) + 1) = ((J.gen + 1 : Nat) : Int) := by omega
    have HAR : Hid (Calls Try.prog 68 #[ob j, .int .i64 ((J.gen : Int) + 1)] w fun e w' => e = .returned (.int .i64 (at_ : Nat)) ∧ Below w.heap.size w w') := Lib.hid (by
      have := jarea_any w j J.first J.sectors (J.gen + 1) c1 c2 hfirst hsec (by omega)
      rw [hat, ← hgi] at this; exact this)
    have HBL : Hid (∀ w1, Below w.heap.size w w1 → Calls Try.prog 76 #[ob d, .int .i64 (at_ : Int), .int .i64 (J.sectors : Int), .int .i64 (at_ : Int), .int .i64 ((J.gen : Int) + 1)] w1 fun e w' => StSpec p as_ F R w1 e w') := Lib.hid (fun w1 hb => by
      rw [← hR]
      exact blank_at (h1.below hb) h0 at_ J.sectors (J.gen + 1) _ hgi hat2 (by omega) hg)
    rw [hF]
    have HRS : Hid ((R.2.at_ k).size = (S.at_ k).size) := Lib.hid (by rw [← hR]; exact blankF_size _ _ _ _ _ _)
    have HJS : Hid (J.switch S k = if R.1 = 0 then ⟨J.first, J.sectors, J.gen + 1, [], J.wait, J.waiting⟩ else J) := Lib.hid (by unfold Js.switch; rw [hF])
    obtain ⟨J', hJ'⟩ : ∃ J', J.switch S k = J' := ⟨_, rfl⟩
    rw [hJ'] at HJS hO'
    rw [hJ']
    have HO := Lib.hid hO
    have HO' := Lib.hid hO'
    have H0 := Lib.hid h0
    have HD := Lib.hid hd
    have HH := Lib.hid h
    have HP := Lib.hid h1
    have HNF : Hid (¬ F j) := Lib.hid (fun hf => hd j hf (.inl rfl))
    have hwt0 : (J.waiting : Int) = 0 := by omega
    have hgb : (J.gen : Int) + 1 ≤ 8796093022208 := by omega
    have hcgen : w.cell? ⟨j, 6, none⟩ = some (.int .i64 0) := by rw [← hwt0]; exact c6
    clear hO hO' h0 hd h h1 hF hR hat hgi hw c4 c5 hJ' c6 hwt0
    go_enter Try.func21, Try.ntmps21
    go_wp2_with fail
    refine HAR.out.mono ?_
    rintro e w1 ⟨rfl, hb1⟩
    have HB1 := Lib.hid hb1
    have d0 := below_cell hb1 c0
    have d2 := below_cell hb1 c2
    have d3 := below_cell hb1 c3
    clear hb1 c0 c1 c2 c3
    go_wp2_with fail
    have hg1 : IntKind.i64.wrap ((J.gen : Int) + 1) = (J.gen : Int) + 1 := by rw [IntKind.wrap_i64]; omega
    obtain ⟨E, hE⟩ : ∃ E, R.1 = E := ⟨_, rfl⟩
    have HE := Lib.hid hE
    clear hE
    go_region_held3 (fun W : World => W.cell? ⟨j, 0, none⟩ = some (ob d) ∧ W.cell? ⟨j, 2, none⟩ = some (.int .i64 (J.sectors : Int)) ∧ W.cell? ⟨j, 3, none⟩ = some (.int .i64 (J.gen : Int))) (first | exact ⟨d0, d2, d3⟩ | exact ⟨step_cell hst2 d0 HNF.out, step_cell hst2 d2 HNF.out, step_cell hst2 d3 HNF.out⟩) (first | (go_at_call 76; refine (HBL.out _ ((HB1.out).drew)).mono ?_; rintro e w2 ⟨rfl, F', hp2, hst2⟩))
    have hsz1 := HB1.out.size
    have HST : Hid (Step F F' w w2) := Lib.hid ((Step.of_below HB1.out F).trans (undrew_step hst2))
    have HP2 := Lib.hid hp2
    have hbk : Blk w2 j _ _ := HH.out.self.step HST.out HNF.out
    have e3 := hbk.cell 3
    have f3 := hbk.frozen 3
    have f4 := hbk.frozen 4
    have e4 : w2.cell? ⟨j, 4, none⟩ = some (.slice A J.stream.length c) := hbk.cell 4
    have e3 : w2.cell? ⟨j, 3, none⟩ = some (.int .i64 (J.gen : Int)) := hbk.cell 3
    have HBK := Lib.hid hbk
    clear hbk hp2 hst2
    rw [HE.out]
    clear d0 d2 d3
    by_cases hz : E = 0
    · subst hz
      go_wp2_with fail
      go_returns
      have hst : Step (one j) (one j) w2 ((w2.setCell ⟨j, 3, none⟩ (.int .i64 ((J.gen : Int) + 1))).setCell ⟨j, 4, none⟩ (.slice none 0 0)) := Step.setCell (a := ⟨j, 4, none⟩) (Step.setCell (a := ⟨j, 3, none⟩) (Step.refl (one j) _) (.inl rfl) _) (.inl rfl) _
      have hb := (HBK.out.set_ 3 (.int .i64 ((J.gen : Int) + 1))).set_ 4 (.slice none 0 0)
      have hJ2 : J' = ⟨J.first, J.sectors, J.gen + 1, [], J.wait, J.waiting⟩ := by rw [HJS.out, HE.out, if_pos rfl]
      obtain ⟨r1, r2⟩ := JPs.disks (J := J) H0.out (by rw [HRS.out]; exact HO.out) HP2.out hG.out HD.out HST.out
      have hjr : JrR ((w2.setCell ⟨j, 3, none⟩ (.int .i64 ((J.gen : Int) + 1))).setCell ⟨j, 4, none⟩ (.slice none 0 0)) j d J' (jrF j none B) := by
        rw [hJ2]
        refine ⟨none, 0, B, cB, ⟨hb, fun h => absurd h (by simp), Nat.le_refl _, fun b e => by simp [blk] at e, ?_, by simp [blk], fun b e => by simp [blk] at e⟩, rfl⟩
        have hw2 : OwnB w2 0 B cB J.wait := OwnR.block HH.out.wt fun b hb => HST.out.block b (OwnR.lt HH.out.wt b hb).2 fun hf => HD.out b hf (.inr (.inr hb))
        exact OwnB.far_ (OwnB.far_ hw2 HH.out.nb 3 _) HH.out.nb 4 _
      have hs2 : Step (jrF j A B) (jrF j none B) w2 ((w2.setCell ⟨j, 3, none⟩ (.int .i64 ((J.gen : Int) + 1))).setCell ⟨j, 4, none⟩ (.slice none 0 0)) := (Step.of_one hst (.inl rfl)).regroup fun i hi => .inl (by
        rcases hi with hi | hi | hi
        · exact .inl hi
        · cases hi
        · exact .inr (.inr hi))
      obtain ⟨_, _, F2, G2, q1, q2, q3, q4⟩ := r1
      have hdis : Dis F' (jrF j A B) := HST.out.dis HD.out HH.out.lt_
      obtain ⟨t1, t2⟩ := JPs.turn (J' := J') H0.out (by rw [HRS.out]; exact HO'.out) HP2.out hdis hjr hs2
      exact ⟨by rw [HE.out]; rfl, _, t1, r2.trans t2⟩
    · have hne : (E != 0) = true := by simpa using hz
      have HZ := Lib.hid hz
      clear hz
      go_wp2_with fail
      go_returns
      have hJ2 : J' = J := by rw [HJS.out, HE.out, if_neg HZ.out]
      rw [hJ2]
      obtain ⟨r1, r2⟩ := JPs.disks (J := J) H0.out (by rw [HRS.out]; exact HO.out) HP2.out hG.out HD.out HST.out
      exact ⟨by rw [HE.out]; rfl, _, r1, r2⟩
end
end Go.Proofs.Ytjmhfjioccljeaa
