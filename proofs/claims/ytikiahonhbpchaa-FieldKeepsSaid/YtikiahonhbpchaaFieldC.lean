/-
  Walks of package field: First.
-/
import Derived.Test.YtikiahonhbpchaaFieldB
namespace Go.Proofs.Ytikiahonhbpchaa
open Go.RowKit Fld
set_option linter.unusedVariables false
set_option linter.unusedSimpArgs false

theorem or_pow (m x k : Nat) (hx : x < 2 ^ k) : m * 2 ^ k ||| x = m * 2 ^ k + x := by
  have := Nat.shiftLeft_add_eq_or_of_lt (a := m) (b := x) (i := k) hx
  rw [Nat.shiftLeft_eq] at this
  exact this.symm
theorem or_four (a b c d : Nat) (ha : a < 256) (hb : b < 256) (hc : c < 256) (hd : d < 256) :
    bits .or .i64 (bits .or .i64 (bits .or .i64 ((a : Int) * 16777216) ((b : Int) * 65536)) ((c : Int) * 256)) (d : Int) = ((((a * 256 + b) * 256 + c) * 256 + d : Nat) : Int) := by
  have e1 : ((a : Int) * 16777216) = ((a * 16777216 : Nat) : Int) := by omega
  have e2 : ((b : Int) * 65536) = ((b * 65536 : Nat) : Int) := by omega
  have e3 : ((c : Int) * 256) = ((c * 256 : Nat) : Int) := by omega
  rw [e1, e2, e3, i64_or_nat (a * 16777216) (b * 65536) (by omega) (by omega)]
  have h1 : a * 16777216 ||| b * 65536 = a * 16777216 + b * 65536 := or_pow a (b * 65536) 24 (by omega)
  rw [h1, i64_or_nat (a * 16777216 + b * 65536) (c * 256) (by omega) (by omega)]
  have h2 : (a * 16777216 + b * 65536) ||| c * 256 = a * 16777216 + b * 65536 + c * 256 := by
    have := or_pow (a * 256 + b) (c * 256) 16 (by omega)
    have e : (a * 256 + b) * 2 ^ 16 = a * 16777216 + b * 65536 := by omega
    rw [e] at this; exact this
  rw [h2, i64_or_nat (a * 16777216 + b * 65536 + c * 256) d (by omega) (by omega)]
  have h3 : (a * 16777216 + b * 65536 + c * 256) ||| d = a * 16777216 + b * 65536 + c * 256 + d := by
    have := or_pow ((a * 256 + b) * 256 + c) d 8 (by omega)
    have e : ((a * 256 + b) * 256 + c) * 2 ^ 8 = a * 16777216 + b * 65536 + c * 256 := by omega
    rw [e] at this; exact this
  rw [h3]; omega
theorem val_four_at (b : List UInt8) (h : 5 ≤ b.length) : val ((b.drop 1).take 4) = (((b.getD 1 0).toNat * 256 + (b.getD 2 0).toNat) * 256 + (b.getD 3 0).toNat) * 256 + (b.getD 4 0).toNat := by
  match b, h with
  | x :: a :: b :: c :: d :: t, _ => simp [val]
section
variable {x : UInt8} {t : List UInt8}
theorem firstP_low (h : x.toNat < 64) : firstP (x :: t) = (⟨1, x.toNat, []⟩, 1, 0) := by unfold firstP; simp only; rw [if_pos h]
theorem firstP_wide (h : ¬ x.toNat < 64) (h1 : x.toNat < 128) : firstP (x :: t) = wideP (x :: t) x.toNat := by unfold firstP; simp only; rw [if_neg h, if_pos h1]
theorem firstP_run (h : ¬ x.toNat < 128) (h1 : x.toNat < 255) : firstP (x :: t) = runP (x :: t) 1 (x.toNat - 128) := by unfold firstP; simp only; rw [if_neg (by omega), if_neg h, if_pos h1]
theorem firstP_tail (h : ¬ x.toNat < 255) (h1 : (x :: t).length < 5) : firstP (x :: t) = (none_, 0, 10) := by unfold firstP; simp only; rw [if_neg (by omega), if_neg (by omega), if_neg h, if_pos h1]
theorem firstP_form (h : ¬ x.toNat < 255) (h1 : ¬ (x :: t).length < 5) {n : Nat} (hn : val (((x :: t).drop 1).take 4) = n) (h2 : n < 127 ∨ 50000 < n) : firstP (x :: t) = (none_, 0, 2) := by
  unfold firstP; simp only; rw [if_neg (by omega), if_neg (by omega), if_neg h, if_neg h1, hn, if_pos h2]
theorem firstP_long (h : ¬ x.toNat < 255) (h1 : ¬ (x :: t).length < 5) {n : Nat} (hn : val (((x :: t).drop 1).take 4) = n) (h2 : ¬ (n < 127 ∨ 50000 < n)) : firstP (x :: t) = runP (x :: t) 5 n := by
  unfold firstP; simp only; rw [if_neg (by omega), if_neg (by omega), if_neg h, if_neg h1, hn, if_neg h2]
end
theorem below_store3 {w w' : World} (h : Below (w.heap.size + 1) (w.alloc Zit) w') (u v t : Value) :
    Below w.heap.size w (((w'.setCell ⟨w.heap.size, 0, none⟩ u).setCell ⟨w.heap.size, 1, none⟩ v).setCell ⟨w.heap.size, 2, none⟩ t) :=
  ((((below_zit w).trans (h.mono (by omega))).setCell (Nat.le_refl _) _).setCell (Nat.le_refl _) _).setCell (Nat.le_refl _) _
theorem blk_zit (w : World) : Blk (w.alloc Zit) w.heap.size 30 #[.int .i64 0, .int .i64 0, .string ⟨#[]⟩] := Blk.new w _ _

theorem blk3 {w : World} {g : Nat} {t : TypeId} {a b c : Value} (h : Blk w g t #[a, b, c]) :
    w.cell? ⟨g, 0, none⟩ = some a ∧ w.cell? ⟨g, 1, none⟩ = some b ∧ w.cell? ⟨g, 2, none⟩ = some c ∧ w.frozen? ⟨g, 0, none⟩ = false ∧ w.frozen? ⟨g, 1, none⟩ = false ∧ w.frozen? ⟨g, 2, none⟩ = false ∧
      (∀ u, (w.setCell ⟨g, 0, none⟩ u).cell? ⟨g, 0, none⟩ = some u) ∧ (∀ W : World, ∀ u v, W = w.setCell ⟨g, 0, none⟩ u → (W.setCell ⟨g, 1, none⟩ v).cell? ⟨g, 1, none⟩ = some v) ∧
      (∀ u v x, (((w.setCell ⟨g, 0, none⟩ u).setCell ⟨g, 1, none⟩ v).setCell ⟨g, 2, none⟩ x).cell? ⟨g, 2, none⟩ = some x) :=
  ⟨h.cell 0, h.cell 1, h.cell 2, h.frozen 0, h.frozen 1, h.frozen 2, fun u => (h.set_ 0 u).cell 0, fun W u v e => by rw [e]; exact ((h.set_ 0 u).set_ 1 v).cell 1, fun u v x => (((h.set_ 0 u).set_ 1 v).set_ 2 x).cell 2⟩
theorem wrap_i64_of (n : Int) (h : -9223372036854775808 ≤ n ∧ n ≤ 9223372036854775807) : IntKind.i64.wrap n = n := IntWalk.i64_in n h
set_option maxRecDepth 100000 in
set_option maxHeartbeats 1000000 in
theorem first_any (A : Option Addr) (b : List UInt8) (cap : Nat) (w : World) (hb : b.length ≤ maxLen) (hcap : b.length ≤ cap) (hA : RdB w A b) :
    Calls Try.prog 13 #[.slice A b.length cap] w fun e w' => e = .returned (tri (firstP b)) ∧ Below w.heap.size w w' := by
  cases b with
  | nil =>
    have hR : tri (firstP []) = .tuple #[.agg #[.int .i64 0, .int .i64 0, .string ⟨#[]⟩], .int .i64 0, .int .i64 10] := rfl
    go_enter Try.func13, Try.ntmps13
    go_wp2
    go_returns
    exact ⟨by rw [hR], below_zit w⟩
  | cons x t =>
    have h0 : 0 < (x :: t).length := by simp
    obtain ⟨ad, rfl⟩ := hA.some_ h0
    have hA1 := hA.below (below_zit w)
    obtain ⟨_, e, c0⟩ := hA1.at_ h0
    cases e
    rw [add_nil] at c0
    have hxe : (x :: t).getD 0 0 = x := rfl
    rw [hxe] at c0
    have hx := x.toNat_lt
    have hx' : (x.toNat : Int) < 256 := by omega
    have HA := Lib.hid hA1
    have HB := Lib.hid hb
    have HC := Lib.hid hcap
    have RL := Lib.hid (fun h => firstP_low (x := x) (t := t) h)
    have RW := Lib.hid (fun h h1 => firstP_wide (x := x) (t := t) h h1)
    have RR := Lib.hid (fun h h1 => firstP_run (x := x) (t := t) h h1)
    have RT := Lib.hid (fun h h1 => firstP_tail (x := x) (t := t) h h1)
    have RF := Lib.hid (fun h h1 n hn h2 => firstP_form (x := x) (t := t) h h1 (n := n) hn h2)
    have RG := Lib.hid (fun h h1 n hn h2 => firstP_long (x := x) (t := t) h h1 (n := n) hn h2)
    generalize hR : firstP (x :: t) = R at *
    generalize hbb : x :: t = b at *
    unfold maxLen at hb
    unfold Zit at c0
    clear hA hA1 hxe hcap
    have hb0 := blk_zit w
    have HBZ := Lib.hid hb0
    clear hb0
    have hl0 : ((b.length : Int) == 0) = false := by rw [beq_eq_false_iff_ne]; omega
    by_cases h64 : x.toNat < 64
    · have hR' := RL.out h64
      subst hR'
      go_enter Try.func13, Try.ntmps13
      go_wp2
      go_returns
      refine ⟨rfl, ?_⟩
      exact (Below.refl _ _).alloc (Nat.le_refl _) _
    · by_cases h128 : x.toNat < 128
      · have hR' := RW.out h64 h128
        have hw := wide_any (some ad) b cap (w.alloc Zit) HB.out HC.out h0 HA.out
        have hgx : b.getD 0 0 = x := by rw [← hbb]; rfl
        rw [hgx, ← hR'] at hw
        unfold Zit at hw
        have HW := Lib.hid hw
        clear hw
        go_enter Try.func13, Try.ntmps13
        go_wp2_with fail
        refine HW.out.mono ?_
        clear HW
        rintro e w' ⟨rfl, hb'⟩
        obtain ⟨c0', c1', c2', f0', f1', f2', r0, r1', r2⟩ := blk3 (HBZ.out.below hb' (by simp [Zit]))
        have HS := Lib.hid (below_store3 (hb'.mono (by simp [Zit])))
        have r1 := fun u v => r1' _ u v rfl
        clear r1'
        clear hb' hR hR' RL RW RR RT RF RG
        obtain ⟨⟨rk, rn, rs⟩, rm, re⟩ := R
        unfold tri It.v
        simp only
        go_wp2_with fail
        refine bodyPost_ret (by simp [results, Try.results13, go_sem, r0, r1, r2]; rfl) rfl ?_
        exact ⟨rfl, HS.out _ _ _⟩
      · by_cases h255 : x.toNat < 255
        · have hR' := RR.out h128 h255
          have hw := run_any (some ad) b cap 1 (x.toNat - 128) (w.alloc Zit) HB.out HC.out (by omega) (by omega) HA.out
          have e1 : ((x.toNat - 128 : Nat) : Int) = (x.toNat : Int) - 128 := by omega
          rw [← hR', e1] at hw
          unfold Zit at hw
          have HW := Lib.hid hw
          clear hw e1
          go_enter Try.func13, Try.ntmps13
          go_wp2_with fail
          refine HW.out.mono ?_
          clear HW
          rintro e w' ⟨rfl, hb'⟩
          obtain ⟨c0', c1', c2', f0', f1', f2', r0, r1', r2⟩ := blk3 (HBZ.out.below hb' (by simp [Zit]))
          have HS := Lib.hid (below_store3 (hb'.mono (by simp [Zit])))
          have r1 := fun u v => r1' _ u v rfl
          clear r1'
          clear hb' hR hR' RL RW RR RT RF RG
          obtain ⟨⟨rk, rn, rs⟩, rm, re⟩ := R
          unfold tri It.v
          simp only
          go_wp2_with fail
          refine bodyPost_ret (by simp [results, Try.results13, go_sem, r0, r1, r2]; rfl) rfl ?_
          exact ⟨rfl, HS.out _ _ _⟩
        · by_cases h5 : b.length < 5
          · have hR' := RT.out h255 h5
            go_enter Try.func13, Try.ntmps13
            go_wp2_with fail
            go_returns
            refine ⟨by rw [hR', tri_none], ?_⟩
            exact (Below.refl _ _).alloc (Nat.le_refl _) _
          · have hv := val_four_at b (by omega)
            have rf := or_four (b.getD 1 0).toNat (b.getD 2 0).toNat (b.getD 3 0).toNat (b.getD 4 0).toNat (b.getD 1 0).toNat_lt (b.getD 2 0).toNat_lt (b.getD 3 0).toNat_lt (b.getD 4 0).toNat_lt
            rw [← hv] at rf
            generalize val ((b.drop 1).take 4) = n at *
            obtain ⟨_, e, c1⟩ := HA.out.at_ (k := 1) (by omega)
            cases e
            obtain ⟨_, e, c2⟩ := HA.out.at_ (k := 2) (by omega)
            cases e
            obtain ⟨_, e, c3⟩ := HA.out.at_ (k := 3) (by omega)
            cases e
            obtain ⟨_, e, c4⟩ := HA.out.at_ (k := 4) (by omega)
            cases e
            have b1 := getD_lt b 1
            have b2 := getD_lt b 2
            have b3 := getD_lt b 3
            have b4 := getD_lt b 4
            rw [add_pos ad 1 (by omega)] at c1
            rw [add_pos ad 2 (by omega)] at c2
            rw [add_pos ad 3 (by omega)] at c3
            rw [add_pos ad 4 (by omega)] at c4
            unfold Zit at c1 c2 c3 c4
            have RF' := Lib.hid (RF.out h255 h5 n rfl)
            have RG' := Lib.hid (RG.out h255 h5 n rfl)
            have HV := Lib.hid hv
            clear hv RL RW RR RT RF RG
            generalize b.getD 1 0 = y1 at *
            generalize b.getD 2 0 = y2 at *
            generalize b.getD 3 0 = y3 at *
            generalize b.getD 4 0 = y4 at *
            go_enter Try.func13, Try.ntmps13
            go_wp2_with fail
            have u1 := wrap_i64_of ((y1.toNat : Int) * 16777216) (by omega)
            have u2 := wrap_i64_of ((y2.toNat : Int) * 65536) (by omega)
            have u3 := wrap_i64_of ((y3.toNat : Int) * 256) (by omega)
            go_quiet (fail)
            clear u1 u2 u3
            clear rf c1 c2 c3 c4 b1 b2 b3 b4 c0 HV
            by_cases g1 : n < 127
            · have hR' := RF'.out (.inl g1)
              clear RF' RG'
              go_wp2_with fail
              go_returns
              exact ⟨by first | (rw [hR', tri_none]) | (rw [tri_none]), below_set3 _ _ _ _ _ _⟩
            · by_cases g2 : 50000 < n
              · have hR' := RF'.out (.inr g2)
                clear RF' RG'
                go_wp2_with fail
                go_returns
                exact ⟨by first | (rw [hR', tri_none]) | (rw [tri_none]), below_set3 _ _ _ _ _ _⟩
              · have hR' := RG'.out (by omega)
                have hw := run_any (some ad) b cap 5 n ((w.alloc Zit).drewN nq) HB.out HC.out (by omega) (by omega) (HA.out.drewN nq)
                rw [← hR'] at hw
                unfold Zit at hw
                have HW := Lib.hid hw
                clear hw RF' RG'
                go_wp2_with fail
                refine HW.out.mono ?_
                clear HW
                rintro e w' ⟨rfl, hb1⟩
                have hb' : Below (w.alloc Zit).heap.size (w.alloc Zit) w' := (below_drewN (Below.refl _ _) nq).trans hb1
                clear hb1
                obtain ⟨c0', c1', c2', f0', f1', f2', r0, r1', r2⟩ := blk3 (HBZ.out.below hb' (by simp [Zit]))
                have HS := Lib.hid (below_store3 (hb'.mono (by simp [Zit])))
                have r1 := fun u v => r1' _ u v rfl
                clear r1' hb' hR hR'
                obtain ⟨⟨rk, rn, rs⟩, rm, re⟩ := R
                unfold tri It.v
                simp only
                go_wp2_with fail
                refine bodyPost_ret (by simp [results, Try.results13, go_sem, r0, r1, r2]; rfl) rfl ?_
                exact ⟨rfl, HS.out _ _ _⟩
end Go.Proofs.Ytikiahonhbpchaa
