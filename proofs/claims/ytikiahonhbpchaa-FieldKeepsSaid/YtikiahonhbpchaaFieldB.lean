/-
  Walks of package field: wideNumber, First.
-/
import Derived.Test.YtikiahonhbpchaaFieldA
import Derived.Deep.Cut
namespace Go.Proofs.Ytikiahonhbpchaa
open Go.RowKit Fld
set_option linter.unusedVariables false
set_option linter.unusedSimpArgs false

theorem and7_ : ∀ n : Fin 256, bits .and .u8 (n.val : Int) 7 = ((n.val % 8 : Nat) : Int) := by decide +kernel
theorem and48_ : ∀ n : Fin 256, (bits .and .u8 (n.val : Int) 48 != 0) = decide (n.val / 16 % 4 ≠ 0) := by decide +kernel
theorem and8_ : ∀ n : Fin 256, (bits .and .u8 (n.val : Int) 8 != 0) = decide (n.val / 8 % 2 = 1) := by decide +kernel
theorem or_low (m x : Nat) (hx : x < 256) : m * 256 ||| x = m * 256 + x := by
  have := Nat.shiftLeft_add_eq_or_of_lt (a := m) (b := x) (i := 8) (by omega)
  rw [Nat.shiftLeft_eq] at this
  exact this.symm
theorem add_nil (a : Addr) : a.add 0 = a := by unfold Addr.add; simp
theorem add_mk (B o j : Nat) : (⟨B, o, none⟩ : Addr).add j = ⟨B, o + j, none⟩ := by unfold Addr.add; split <;> simp_all
theorem or_u64 (m : Nat) (x : UInt8) (h : m * 256 + x.toNat < 18446744073709551616) : bits .or .u64 ((m : Int) * 256) (x.toNat : Int) = ((m * 256 + x.toNat : Nat) : Int) := by
  have hx := x.toNat_lt
  have e : ((m : Int) * 256) = ((m * 256 : Nat) : Int) := by omega
  have h1 : m * 256 < 18446744073709551616 := Nat.lt_of_le_of_lt (Nat.le_add_right _ _) h
  have h2 : x.toNat < 18446744073709551616 := Nat.lt_of_le_of_lt (Nat.le_add_left _ _) h
  rw [e, u64_or_nat (m * 256) x.toNat h1 h2, or_low m _ hx]
theorem val_take_succ (l : List UInt8) (j : Nat) (hj : j < l.length) : val (l.take (j + 1)) = val (l.take j) * 256 + (l.getD j 0).toNat := by
  rw [take_snoc l j hj, val_snoc, getD_eq l j 0 hj]

theorem below_set3 (w : World) (n : Nat) (o : Obj) (u v t : Value) :
    Below w.heap.size w (((((w.alloc o).drewN n).setCell ⟨w.heap.size, 0, none⟩ u).setCell ⟨w.heap.size, 1, none⟩ v).setCell ⟨w.heap.size, 2, none⟩ t) :=
  (((below_drewN ((Below.refl _ _).alloc (Nat.le_refl _) _) _).setCell (Nat.le_refl _) _).setCell (Nat.le_refl _) _).setCell (Nat.le_refl _) _

section
variable {b l : List UInt8} {x k : Nat}
theorem wideP_form (g1 : x / 16 % 4 ≠ 0) : wideP b x = (none_, 0, 2) := by unfold wideP; simp only; rw [if_pos g1]
theorem wideP_tail (g1 : ¬ x / 16 % 4 ≠ 0) (hk : x % 8 + 1 = k) (g2 : b.length < 1 + k) : wideP b x = (none_, 0, 10) := by unfold wideP; simp only; rw [if_neg g1, hk, if_pos g2]
theorem wideP_over (g1 : ¬ x / 16 % 4 ≠ 0) (hk : x % 8 + 1 = k) (g2 : ¬ b.length < 1 + k) (hl : (b.drop 1).take k = l) (g3 : 2 ^ 63 ≤ val l) : wideP b x = (none_, 0, 2) := by
  unfold wideP; simp only; rw [if_neg g1, hk, if_neg g2, hl, if_pos g3]
theorem wideP_width {n : Int} (g1 : ¬ x / 16 % 4 ≠ 0) (hk : x % 8 + 1 = k) (g2 : ¬ b.length < 1 + k) (hl : (b.drop 1).take k = l) (g3 : ¬ 2 ^ 63 ≤ val l)
    (hn : (if x / 8 % 2 = 1 then -(val l : Int) - 1 else (val l : Int)) = n) (g4 : width n ≠ k) : wideP b x = (none_, 0, 2) := by
  unfold wideP; simp only; rw [if_neg g1, hk, if_neg g2, hl, if_neg g3, hn, if_pos g4]
theorem wideP_ok {n : Int} (g1 : ¬ x / 16 % 4 ≠ 0) (hk : x % 8 + 1 = k) (g2 : ¬ b.length < 1 + k) (hl : (b.drop 1).take k = l) (g3 : ¬ 2 ^ 63 ≤ val l)
    (hn : (if x / 8 % 2 = 1 then -(val l : Int) - 1 else (val l : Int)) = n) (g4 : ¬ width n ≠ k) : wideP b x = (⟨1, n, []⟩, 1 + k, 0) := by
  unfold wideP; simp only; rw [if_neg g1, hk, if_neg g2, hl, if_neg g3, hn, if_neg g4]
end

theorem val_step (l : List UInt8) (j k : Nat) (hl : l.length = k) (hj : j < k) (hk : k ≤ 8) : val (l.take j) * 256 + (l.getD j 0).toNat < 18446744073709551616 := by
  rw [← val_take_succ l j (by omega)]
  have hv := val_lt (l.take (j + 1))
  have hlen : (l.take (j + 1)).length = j + 1 := by rw [List.length_take]; omega
  rw [hlen] at hv
  have hp : 256 ^ (j + 1) ≤ 256 ^ 8 := Nat.pow_le_pow_right (by omega) (by omega)
  have e8 : (256 : Nat) ^ 8 = 18446744073709551616 := by decide
  rw [e8] at hp
  exact Nat.lt_of_lt_of_le hv hp

theorem val_lt64 (l : List UInt8) (h : l.length ≤ 8) : val l < 18446744073709551616 := by
  have hv := val_lt l
  have hp : 256 ^ l.length ≤ 256 ^ 8 := Nat.pow_le_pow_right (by omega) h
  have e8 : (256 : Nat) ^ 8 = 18446744073709551616 := by decide
  rw [e8] at hp
  exact Nat.lt_of_lt_of_le hv hp
theorem i64_xor_ones (m : Nat) (h : m < 9223372036854775808) : bits .xor .i64 (-1) (m : Int) = -(m : Int) - 1 := by
  show IntKind.i64.wrap ((BitVec.ofInt 64 (-1) ^^^ BitVec.ofInt 64 (m : Int)).toNat : Int) = _
  have h1 : BitVec.ofInt 64 (-1) = BitVec.allOnes 64 := by decide
  rw [h1, BitVec.xor_comm, BitVec.xor_allOnes, BitVec.toNat_not, BitVec.toNat_ofInt, IntKind.wrap_i64]
  omega
theorem wrap64_nat (m : Nat) (h : m < 9223372036854775808) : wrap64 (m : Int) = m := IntWalk.wrap64_in _ (by omega)
theorem ne_true {a b : Nat} (h : a ≠ b) : ((a : Int) != (b : Int)) = true := by rw [bne_iff_ne]; omega
theorem ne_false {a b : Nat} (h : ¬ a ≠ b) : ((a : Int) != (b : Int)) = false := by rw [bne_eq_false_iff_eq]; omega
theorem one_add_int (j : Nat) : ((1 + j : Nat) : Int) = 1 + (j : Int) := by omega
theorem wrap_u64_shl (m : Nat) (h : m * 256 < 18446744073709551616) : IntKind.u64.wrap ((m : Int) * 256) = (m : Int) * 256 := by
  rw [IntKind.wrap_u64]; omega
set_option maxRecDepth 100000 in
theorem wide_any (A : Option Addr) (b : List UInt8) (cap : Nat) (w : World) (hb : b.length ≤ maxLen) (hcap : b.length ≤ cap) (h0 : 0 < b.length) (hA : RdB w A b) :
    Calls Try.prog 20 #[.slice A b.length cap] w fun e w' => e = .returned (tri (wideP b (b.getD 0 0).toNat)) ∧ Below w.heap.size w w' := by
  unfold maxLen at hb
  obtain ⟨ad, rfl⟩ := hA.some_ h0
  have hA1 := hA.below (below_zit w)
  obtain ⟨_, e, c0⟩ := hA1.at_ h0
  cases e
  have H0 := Lib.hid h0
  have HX := Lib.hid (getD_lt b 0)
  have HA := Lib.hid hA1
  clear hA hA1
  generalize hx : (b.getD 0 0).toNat = x at *
  have hx8 : x < 256 := by have := (b.getD 0 0).toNat_lt; omega
  have h7 := and7_ ⟨x, hx8⟩
  have h48 := and48_ ⟨x, hx8⟩
  have h8 := and8_ ⟨x, hx8⟩
  simp only at h7 h48 h8
  generalize hR : wideP b x = R
  generalize hk : x % 8 + 1 = k at *
  have hk1 : (x : Int) % 8 + 1 = (k : Int) := by omega
  have hk0 : 1 ≤ k ∧ k ≤ 8 := by omega
  rw [add_nil] at c0
  unfold Zit at c0
  go_enter Try.func20, Try.ntmps20
  go_wp2_with fail
  go_quiet (fail)

  clear hk1 h7
  have hfin := below_set3 w nq
  by_cases g1 : x / 16 % 4 ≠ 0
  · rw [decide_eq_true g1] at h48
    go_wp2_with fail
    go_returns
    rw [← hR, wideP_form g1, tri_none]
    exact ⟨rfl, hfin _ _ _ _⟩
  · rw [decide_eq_false g1] at h48
    by_cases g2 : b.length < 1 + k
    · go_wp2_with fail
      go_returns
      rw [← hR, wideP_tail g1 hk g2, tri_none]
      exact ⟨rfl, hfin _ _ _ _⟩
    · have HL := Lib.hid (((HA.out.tail 1).take k).drewN nq)
      generalize hl : (b.drop 1).take k = l at *
      have hll : l.length = k := by rw [← hl]; simp; omega
      have Hl := Lib.hid hl
      clear hl
      rw [add_pos ad 1 (by omega)] at HL
      go_wp2_with fail
      go_loopw [7, 37] (fun m i wr => ∃ j : Nat, m = .int .u64 (val (l.take j) : Nat) ∧ i = .int .i64 j ∧ j ≤ k ∧ wr = (w.alloc (.cells #[.int .i64 0, .int .i64 0, .string ⟨#[]⟩] 30)).drewN nq) (fun _ i _ => k - (intOf i).toNat)
      case atStart => exact ⟨0, rfl, rfl, Nat.zero_le _, rfl⟩
      case round =>
        obtain ⟨j, rfl, rfl, hj, rfl⟩ := hrel
        by_cases hlt : j < k
        · obtain ⟨_, e, cj⟩ := HL.out.at_ (k := j) (by omega)
          cases e
          have hm1 := val_step l j k hll hlt hk0.2
          have hvs := val_take_succ l j (by omega)
          have hor := or_u64 (val (l.take j)) (l.getD j 0) hm1
          have hm2 : IntKind.u64.wrap (((val (l.take j) : Nat) : Int) * 256) = ((val (l.take j) : Nat) : Int) * 256 := wrap_u64_shl _ (Nat.lt_of_le_of_lt (Nat.le_add_right _ _) hm1)
          clear hm1
          have HVS := Lib.hid hvs
          clear hvs
          have hy := getD_lt l j
          unfold Zit at cj
          rw [add_mk] at cj
          generalize hm : val (l.take j) = m at *
          generalize (l.getD j 0) = y at *
          go_wp2_with fail
          refine ⟨⟨j + 1, ?_, by go_num, by omega, by first | trivial | rfl⟩, by simp [intOf]; omega⟩
          rw [HVS.out]; exact int_eq (by omega)
        · have hjk : j = k := by omega
          subst hjk
          rw [List.take_of_length_le (by omega)]
          have h256 := val_lt64 l (by omega)
          clear c0 HL HA HX H0 hx h48
          by_cases g3 : 2 ^ 63 ≤ val l
          · have hR' := wideP_over g1 hk g2 Hl.out g3
            have hq : ((val l : Nat) : Int) / 9223372036854775808 = 1 := by omega
            have hsg : IntKind.i64.signed = true := rfl
            generalize val l = m at *
            clear g3 h256 g1 Hl
            by_cases g4 : x / 8 % 2 = 1
            · rw [decide_eq_true g4] at h8
              clear g4 hk
              go_wp2_with fail
              go_returns
              exact ⟨by rw [← hR, hR', tri_none], hfin _ _ _ _⟩
            · rw [decide_eq_false g4] at h8
              clear g4 hk
              go_wp2_with fail
              go_returns
              exact ⟨by rw [← hR, hR', tri_none], hfin _ _ _ _⟩
          · have hlo : val l < 9223372036854775808 := by omega
            have hr : -9223372036854775808 ≤ -((val l : Nat) : Int) - 1 ∧ -((val l : Nat) : Int) - 1 < 9223372036854775808 := by omega
            have hr' : -9223372036854775808 ≤ ((val l : Nat) : Int) ∧ ((val l : Nat) : Int) < 9223372036854775808 := by omega
            have hq : ((val l : Nat) : Int) / 9223372036854775808 = 0 := by omega
            have hsg : IntKind.i64.signed = true := rfl
            have HR := Lib.hid hr
            have HR' := Lib.hid hr'
            clear hr hr'
            have hw := wrap64_nat (val l) hlo
            have hxo := i64_xor_ones (val l) hlo
            clear hlo
            have RW := Lib.hid (fun n => wideP_width (n := n) g1 hk g2 Hl.out g3)
            have RO := Lib.hid (fun n => wideP_ok (n := n) g1 hk g2 Hl.out g3)
            generalize val l = m at *
            clear g3 h256 g1 Hl
            by_cases g4 : x / 8 % 2 = 1
            · rw [decide_eq_true g4] at h8
              have RW' := Lib.hid (RW.out _ (by rw [if_pos g4]))
              have RO' := Lib.hid (RO.out _ (by rw [if_pos g4]))
              clear g4 hk RW RO HR'
              go_wp2_with fail
              refine (width_any _ HR.out _).mono ?_
              rintro e w' ⟨rfl, rfl⟩
              by_cases g5 : width (-(m : Int) - 1) ≠ j
              · have hne := ne_true g5
                generalize width (-(m : Int) - 1) = wd at *
                go_wp2_with fail
                go_returns
                exact ⟨by rw [← hR, RW'.out g5, tri_none], hfin _ _ _ _⟩
              · have hne := ne_false g5
                generalize width (-(m : Int) - 1) = wd at *
                go_wp2_with fail
                go_returns
                refine ⟨?_, hfin _ _ _ _⟩
                rw [← hR, RO'.out g5, tri_agg]
                rw [one_add_int]
            · rw [decide_eq_false g4] at h8
              have RW' := Lib.hid (RW.out _ (by rw [if_neg g4]))
              have RO' := Lib.hid (RO.out _ (by rw [if_neg g4]))
              clear g4 hk RW RO HR
              go_wp2_with fail
              refine (width_any _ HR'.out _).mono ?_
              rintro e w' ⟨rfl, rfl⟩
              by_cases g5 : width (m : Int) ≠ j
              · have hne := ne_true g5
                generalize width (m : Int) = wd at *
                go_wp2_with fail
                go_returns
                exact ⟨by rw [← hR, RW'.out g5, tri_none], hfin _ _ _ _⟩
              · have hne := ne_false g5
                generalize width (m : Int) = wd at *
                go_wp2_with fail
                go_returns
                refine ⟨?_, hfin _ _ _ _⟩
                rw [← hR, RO'.out g5, tri_agg]
                rw [one_add_int]
end Go.Proofs.Ytikiahonhbpchaa
