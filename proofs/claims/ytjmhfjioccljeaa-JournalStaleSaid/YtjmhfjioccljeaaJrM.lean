/-
  Walks of the laws of layer 13: begin.
-/
import Derived.Test.YtjmhfjioccljeaaJrL
import Derived.Test.YtjmhfjioccljeaaJnR
namespace Go.Proofs.Ytjmhfjioccljeaa
open Go.RowKit
set_option linter.unusedVariables false
set_option linter.unusedSimpArgs false
attribute [local go_sem ↓] Go.wp_at_zero Go.wp_at_succ

def BeginSpec (q m : Nat) (w : World) (e : Ending) (w' : World) : Prop :=
  ∃ x p d j S J K, e = .returned (.tuple #[ob x, .bool true]) ∧ DeskR w' x p d j S J K ∧ Held S J 32 q m 1 [] [] ∧ S.arm = -1 ∧ Ge K w.heap.size ∧ Below w.heap.size w w' ∧ Calm S 0 32 fun i => if q ≤ i ∧ i < q + 2 * m then layS 1 [] (i - q) else zeroB 128
theorem new_4096 {w : World} {p : Nat} {as_ : List Nat} {S : St} {F : Nat → Prop} (h : PwS w p as_ S F) (hds : as_.length < 1000) :
    Calls Try.prog 18 #[ob p, .int .i64 4096] w fun e w' => ∃ d F', e = .returned (.tuple #[ob d, .int .i64 0]) ∧ PwS w' p (as_ ++ [d]) ⟨S.ds ++ [Dk.fresh 32], S.off, S.arm⟩ F' ∧ Step F F' w w' ∧ w.heap.size ≤ d :=
  st_new h 32 (by decide) hds
set_option maxRecDepth 100000 in
set_option maxHeartbeats 2000000 in
theorem begin_any (w : World) (q m : Nat) (qi : Int) (hqi : qi = ((128 * q : Nat) : Int)) (hq : q + 2 * m ≤ 32) (hm : 2 ≤ m) :
    Calls Try.prog 12 #[.int .i64 qi, .int .i64 (m : Int)] w fun e w' => BeginSpec q m w e w' := by
  obtain ⟨hck, S1, hfm, hoff1, harm1, hds1, hcalm, f, hT1, hE1⟩ := format_new (n := 32) hq hm (by omega)
  have hfits : Fits 32 q m 1 [] := ⟨hq, hm, by omega, by omega, by omega, fun r hr => by simp at hr, by simp [framesL]⟩
  obtain ⟨c, _, hc0, hopR, hop⟩ := open_tells hT1 hoff1 hfits (Exact.tells (l := []) hE1)
  have hc : c = 0 := by simpa using hc0
  subst hc
  obtain ⟨o1, o2, o3, o4⟩ := hop.calm harm1
  obtain ⟨R, hR⟩ : ∃ R, openF S1 0 (128 * q) m = R := ⟨_, rfl⟩
  have hR1 : R = (0, S1) := by rw [← hR]; exact open_new hq hm (by omega) hcalm
  have HCALM : Hid (Calm R.2 0 32 fun i => if q ≤ i ∧ i < q + 2 * m then layS 1 [] (i - q) else zeroB 128) := Lib.hid (by rw [hR1]; exact hcalm)
  have hck1 : checkB (S1.at_ 0).size ((128 * q : Nat) : Int) (m : Int) = true := by
    have h1 := hT1.rd.1
    unfold checkB Dk.size
    simp only [Bool.and_eq_true, decide_eq_true_eq]
    omega
  have HFM := Lib.hid hfm
  have HCK1 := Lib.hid hck1
  have HO := Lib.hid (And.intro o1 (And.intro o2 (And.intro o3 (And.intro o4 hopR))))
  have HQI := Lib.hid hqi
  rw [hR] at HO
  have HRR := Lib.hid hR
  clear hR1 hcalm
  clear hck hfm hck1 o1 o2 o3 o4 hopR hop hT1 hE1 hqi hR hoff1 harm1 hc0
  go_enter Try.func12, Try.ntmps12
  go_wp2_with fail
  refine (newPower_any _).mono ?_
  rintro e w1 ⟨F1, rfl, hp1, hs1⟩
  have HL1 := Lib.hid (LW.start w hp1 hs1)
  clear hp1 hs1
  have HL2 := Lib.hid (HL1.out.alloc (.cells #[ob w.heap.size, .pointer none, .pointer none] 34))
  obtain ⟨x, hx⟩ : ∃ x, w1.heap.size = x := ⟨_, rfl⟩
  obtain ⟨p, hp⟩ : ∃ p, w.heap.size = p := ⟨_, rfl⟩
  have HBX : Hid (Blk (w1.alloc (.cells #[ob w.heap.size, .pointer none, .pointer none] 34)) x 34 #[ob p, .pointer none, .pointer none]) := Lib.hid (by rw [← hx, ← hp]; exact Blk.new _ _ _)
  have HNX : Hid (¬ F1 x) := Lib.hid (by rw [← hx]; exact HL1.out.notin (.inr (Nat.le_refl _)))
  have HX := Lib.hid hx
  have HPP := Lib.hid hp
  have HNEW := Lib.hid (new_4096 HL2.out.pw (by simp))
  go_wp2_with fail
  rw [hp] at HNEW HL2 HBX
  try rw [hx]
  try rw [hp]
  clear hx hp
  refine HNEW.out.mono ?_
  rintro e w3 ⟨d, F3, rfl, hp3, hs3, hd3⟩
  have HS3 := Lib.hid hs3
  have HP3 : Hid (PwS w3 p [d] ⟨[Dk.fresh 32], false, -1⟩ F3) := Lib.hid hp3
  have HBX3 := Lib.hid (HBX.out.step hs3 HNX.out)
  have HNX3 : Hid (¬ F3 x) := Lib.hid (fun hf => by
    rcases hs3.fresh x hf with h | h
    · exact HNX.out h
    · have := HBX.out.lt; omega)
  have HFO : Hid (Calls Try.prog 33 #[ob d, .int .i64 qi, .int .i64 (m : Int)] w3 fun e w' => StSpec p [d] F3 (0, S1) w3 e w') := Lib.hid (by
    have := format_any HP3.out (k := 0) rfl ((128 * q : Nat) : Int) (m : Int) (by omega) (by omega)
    rw [HFM.out, ← HQI.out] at this
    exact this)
  clear hp3 hs3 hd3
  go_wp2_with fail
  refine HFO.out.mono ?_
  rintro e w4 ⟨rfl, F4, hp4, hs4⟩
  have HS4 := Lib.hid hs4
  have HP4 := Lib.hid hp4
  have HBX4 := Lib.hid (HBX3.out.step hs4 HNX3.out)
  have HNX4 : Hid (¬ F4 x) := Lib.hid (fun hf => by
    rcases hs4.fresh x hf with h | h
    · exact HNX3.out h
    · have := HBX3.out.lt; omega)
  have HOP : Hid (Calls Try.prog 17 #[ob d, .int .i64 qi, .int .i64 (m : Int)] w4 fun e w' => OpenSpec p [d] S1 0 d (128 * q) m F4 R w4 e w') := Lib.hid (by
    have := jopen_any hp4 (k := 0) rfl (128 * q) m HCK1.out
    rw [HRR.out, ← HQI.out] at this
    exact this)
  clear hp4 hs4
  go_wp2_with fail
  refine HOP.out.mono ?_
  rintro e w5 hop
  rcases hop with ⟨h9, _⟩ | ⟨_, j, A, n, c, F5, G, rfl, hn, _, _, hp5, hj5, hd5, hs5, _, hok5, _, hge5⟩
  · exact absurd HO.out.1 h9
  · have hn0 : n = 0 := by rw [hn, HO.out.2.2.2.2]; simp
    subst hn0
    have hFx : ¬ F5 x := fun hf => by
      rcases hs5.fresh x (.inl hf) with h | h
      · exact HNX4.out h
      · have := HBX4.out.lt; omega
    have hGx : ¬ G x := fun hf => by have := hge5 x hf; have := HBX4.out.lt; omega
    have hst5 : Step F4 (Un F5 G) w4 w5 := hs5
    have hbx5 := HBX4.out.step hs5 HNX4.out
    have HBX5 := Lib.hid hbx5
    have f1 := hbx5.frozen 1
    have f2 := hbx5.frozen 2
    have e1 : w5.cell? ⟨x, 1, none⟩ = some (.pointer none) := hbx5.cell 1
    have e2 : w5.cell? ⟨x, 2, none⟩ = some (.pointer none) := hbx5.cell 2
    have HP5 := Lib.hid hp5
    have HJ5 := Lib.hid hj5
    have HD5 := Lib.hid hd5
    have HS5 := Lib.hid hs5
    have HOK5 := Lib.hid hok5
    have HFX := Lib.hid hFx
    have HGX := Lib.hid hGx
    clear hn hp5 hj5 hd5 hs5 hok5 hge5 hFx hGx hst5 hbx5
    go_wp2_with fail
    go_returns
    have hh := HO.out.2.2.2.1
    have ho : ∀ i, i ≠ x → ((w5.setCell ⟨x, 1, none⟩ (ob d)).setCell ⟨x, 2, none⟩ (ob j)).heap[i]? = w5.heap[i]? := fun i hi => (Below.heap_setCell _ _ _ i hi).trans (Below.heap_setCell _ _ _ i hi)
    have hsz : ((w5.setCell ⟨x, 1, none⟩ (ob d)).setCell ⟨x, 2, none⟩ (ob j)).heap.size = w5.heap.size := by simp [World.setCell]
    have hb2 : Below w.heap.size w w4 := ((HL2.out.step HS3.out HP3.out).step HS4.out HP4.out).be
    have hge4 : Ge F4 w.heap.size := ((HL2.out.step HS3.out HP3.out).step HS4.out HP4.out).ge
    have hge5 : Ge (Un F5 G) w.heap.size := HS5.out.ge hge4 hb2.size
    have hxw : w.heap.size ≤ x := by rw [← HX.out]; exact HL1.out.size
    refine ⟨x, p, d, j, R.2, openJ S1 0 (128 * q) m, Un (Un F5 G) (one x), rfl, ⟨Un F5 G, ⟨rfl, HOK5.out, F5, G, HP5.out.keep (fun i hi => ho i fun e => HFX.out (by rw [← e]; exact hi)) (Nat.le_of_eq hsz.symm), HJ5.out.keep (fun i hi => ho i fun e => HGX.out (by rw [← e]; exact hi)) (Nat.le_of_eq hsz.symm), HD5.out, rfl⟩, (HBX5.out.set_ 1 (ob d)).set_ 2 (ob j), fun hx => by
      rcases hx with hx | hx
      · exact HFX.out hx
      · exact HGX.out hx, rfl⟩, hh, HO.out.2.2.1, hge5.un (fun i hi => by rw [show i = x from hi]; exact hxw), ?_⟩
    exact ⟨((hb2.trans (HS5.out.below hge4 hb2.size)).setCell (p := ⟨x, 1, none⟩) hxw _).setCell (p := ⟨x, 2, none⟩) hxw _, HCALM.out⟩
end Go.Proofs.Ytjmhfjioccljeaa
