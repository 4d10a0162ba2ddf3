/-
  Walks of the reference of package sums: DocDigits.
-/
import Derived.Test.YtpjgcceacfdheaaLawE
import Derived.Test.YtpjgcceacfdheaaOwnS
import Derived.Deep.DrawnRows
import Derived.Deep.RegionHeld3
namespace Go.Proofs.Ytpjgcceacfdheaa
open Go.RowKit Crc
set_option linter.unusedVariables false
set_option linter.unusedSimpArgs false
attribute [local go_sem ↓] Go.wp_at_zero Go.wp_at_succ

theorem slice_val {A : Option Addr} {n m c : Nat} (h : n = m) : Value.slice A n c = .slice A m c := by rw [h]
theorem add_mk (B o j : Nat) : (⟨B, o, none⟩ : Addr).add j = ⟨B, o + j, none⟩ := by unfold Addr.add; split <;> simp_all
theorem rd_cells (w : World) (l : List UInt8) (cs : List Value) (h : cs = bc l) : RdB (w.alloc (.cells cs.toArray 5)) (some ⟨w.heap.size, 0, none⟩) l := fun hl => by
  refine ⟨_, rfl, fun k hk => ?_⟩
  subst h
  exact cells_new w (bc l) 5 k _ (bc_get _ k hk)
set_option maxRecDepth 100000 in
set_option maxHeartbeats 1000000 in
theorem docdigits_any (s : ByteArray) (w : World) (hm : s.size ≤ 70368744177664) :
    Calls Try.prog 21 #[.string s] w fun e w' => e = .returned (.string ⟨(Hex.digits s.data.toList).toArray⟩) ∧ Below w.heap.size w w' := by
  go_enter Try.func21, Try.ntmps21
  go_wp2
  go_loopw [4, 3] (fun i o wr => ∃ (k : Nat) (A2 : Option Addr) (c2 : Nat), i = .int .i64 k ∧ o = .slice A2 (2 * k) c2 ∧ k ≤ s.size ∧ Hid (OwnB wr w.heap.size A2 c2 (Hex.digits (s.data.toList.take k))) ∧ Hid (Below w.heap.size w wr)) (fun i _ _ => s.size - (intOf i).toNat)
  case atStart => exact ⟨0, none, 0, rfl, rfl, Nat.zero_le _, OwnB.nil _ _, Below.refl _ _⟩
  case round =>
    obtain ⟨k, A2, c2, rfl, rfl, hk, HO, HB⟩ := hrel
    have hd : (Hex.digits (s.data.toList.take k)).length = 2 * k := by rw [Hex.digits_length]; simp; omega
    by_cases hlt : k < s.size
    · have hb : (s[k].toNat : Int) < 256 := by have := s[k].toNat_lt; omega
      have hki : (k : Int) < (s.size : Int) := by omega
      have HX := Lib.hid (hex_snoc s k hlt)
      have HD := Lib.hid hd
      clear hd
      generalize hL : Hex.digits (s.data.toList.take k) = L at *
      have HBS := Lib.hid HB.out.size
      obtain ⟨p, hp, hp16⟩ : ∃ p : Nat, s[k].toNat / 16 = p ∧ p < 16 := ⟨_, rfl, by omega⟩
      obtain ⟨q, hq, hq16⟩ : ∃ q : Nat, s[k].toNat % 16 = q ∧ q < 16 := ⟨_, rfl, by omega⟩
      rw [hp, hq] at HX
      have hdp := fun h => dig_at p h
      have hdq := fun h => dig_at q h
      go_wp2_with fail
      have u1 : IntKind.u8.wrap ((s[k].toNat : Int) / 16) = (p : Int) := by rw [IntWalk.u8_in _ (by omega)]; omega
      have u2 : (s[k].toNat : Int).tmod 16 = (q : Int) := by rw [Int.tmod_eq_emod_of_nonneg (by omega)]; omega
      have i1 : (p : Int) < 16 := by omega
      have i2 : (q : Int) < 16 := by omega
      go_region_law (first
        | (refine step_appRd rfl (.tmp 11) (.tmp 22) rfl w.heap.size A2 (2 * k) c2 L rfl HD.out.symm ?_ (some ⟨wr.heap.size, 0, none⟩) 2 2 [Hex.dig p, Hex.dig q] rfl rfl ?_ ?_ ?_ ?_
           · exact OwnR.alloc (OwnR.drew HO.out) _
           · exact rd_cells _ _ _ (by simp [bc])
           · rw [HD.out]; simp; omega
           · have := HBS.out; simp; omega
           intro A3 c3 w3 hown3 hg3))
      all_goals
        have HB3 := Lib.hid (((HB.out.alloc HBS.out _).drew).grown hg3 (by have := HBS.out; simp; omega) (fun k hk => (OwnR.lt HO.out k hk).1))
        have HO3 := Lib.hid hown3
        clear hown3 hg3
        go_simp
        go_wp2_with fail
        refine ⟨⟨k + 1, A3, c3, int_eq (by omega), slice_val (by rw [HD.out]; omega), by omega, ?_, HB3⟩, by simp [intOf]; omega⟩
        rw [HX.out]
        have h3 := HO3.out
        simpa using Lib.hid h3
    · have hks : k = s.size := by omega
      subst hks
      rw [List.take_of_length_le (by simp)] at HO hd
      have hst := run_str c2 (OwnB.rd HO.out) hd.symm
      clear hd
      go_wp2_with fail
      go_ret
      exact ⟨rfl, HB.out⟩
end Go.Proofs.Ytpjgcceacfdheaa
