/-
  Walk: Digits.
-/
import Derived.Test.YtpjgcceacfdheaaBuild
import Derived.Test.YtpjgcceacfdheaaHex
namespace Go.Proofs.Ytpjgcceacfdheaa
open Go.RowKit
set_option linter.unusedVariables false
set_option linter.unusedSimpArgs false

theorem dig_at (n : Nat) (h : n < (⟨#[48, 49, 50, 51, 52, 53, 54, 55, 56, 57, 97, 98, 99, 100, 101, 102]⟩ : ByteArray).size) : (⟨#[48, 49, 50, 51, 52, 53, 54, 55, 56, 57, 97, 98, 99, 100, 101, 102]⟩ : ByteArray)[n] = Hex.dig n := by
  have h16 : n < 16 := h
  have : ∀ m : Fin 16, (⟨#[48, 49, 50, 51, 52, 53, 54, 55, 56, 57, 97, 98, 99, 100, 101, 102]⟩ : ByteArray)[m.val]'(m.isLt) = Hex.dig m.val := by decide
  exact this ⟨n, h16⟩
theorem hex_snoc (s : ByteArray) (k : Nat) (h : k < s.size) : Hex.digits (s.data.toList.take (k + 1)) = Hex.digits (s.data.toList.take k) ++ [Hex.dig (s[k].toNat / 16)] ++ [Hex.dig (s[k].toNat % 16)] := by
  rw [take_snoc _ k (by rw [str_len]; exact h), Hex.digits_snoc]; rfl

set_option maxRecDepth 100000 in
set_option maxHeartbeats 1000000 in
theorem Digits_any (s : ByteArray) (w : World) (hm : s.size ≤ 70368744177664) :
    Calls Try.prog 17 #[.string s] w fun e w' => e = .returned (.string ⟨(Hex.digits s.data.toList).toArray⟩) ∧ Below w.heap.size w w' := by
  go_enter Try.func17, Try.ntmps17
  go_wp2
  go_loopw [7] (fun i wr => ∃ (k : Nat), i = .int .i64 k ∧ k ≤ s.size ∧ Hid (Lib.IsBuilder 50 5 w.heap.size w.heap.size (bc (Hex.digits (s.data.toList.take k))) wr) ∧ Hid (Below w.heap.size w wr)) (fun i _ => s.size - (intOf i).toNat)
  case atStart => exact ⟨0, rfl, Nat.zero_le _, Lib.fresh_isBuilder _ _ w, (Below.refl _ _).alloc (Nat.le_refl _) _⟩
  case round =>
    obtain ⟨k, rfl, hk, HI, HB⟩ := hrel
    by_cases hlt : k < s.size
    · have hb : (s[k].toNat : Int) < 256 := by have := s[k].toNat_lt; omega
      have Hd := Lib.hid (show (Hex.digits (s.data.toList.take k)).length = 2 * k by rw [Hex.digits_length]; simp; omega)
      go_wp2_with fail
      refine (writeByte_any w.heap.size w.heap.size _ (Hex.dig (s[k].toNat / 16)) _ (by rw [dig_at]) wr HI.out (by rw [Hd.out]; omega) HB.out.size).mono ?_
      rintro e w2 ⟨rfl, hi2, hb2⟩
      have HI2 := Lib.hid hi2
      have HB2 := Lib.hid (HB.out.trans hb2)
      clear hi2 hb2
      go_wp2_with fail
      refine (writeByte_any w.heap.size w.heap.size _ (Hex.dig (s[k].toNat % 16)) _ ?_ w2 HI2.out (by rw [List.length_append, Hd.out]; simp; omega) HB2.out.size).mono ?_
      · rw [dig_at]
      rintro e w3 ⟨rfl, hi3, hb3⟩
      have HI3 := Lib.hid hi3
      have HB3 := Lib.hid (HB2.out.trans hb3)
      clear hi3 hb3
      go_wp2
      exact ⟨⟨k + 1, by go_num, by omega, by rw [hex_snoc s k hlt]; exact HI3, HB3⟩, by simp [intOf]; omega⟩
    · go_wp2_with fail
      refine (Try.Builder_String_any w.heap.size w.heap.size _ wr HI.out HB.out.size).mono ?_
      rintro e w' ⟨rfl, hb⟩
      go_wp2
      go_ret
      exact ⟨by rw [show k = s.size by omega, List.take_of_length_le (by simp)]; rfl, HB.out.trans hb⟩
end Go.Proofs.Ytpjgcceacfdheaa
