/-
  Walk: package journal's number, read, stamp.
-/
import Derived.Test.YtjmhfjioccljeaaJn
import Derived.Test.YtjmhfjioccljeaaZeroA
import Derived.Test.YtjmhfjioccljeaaLaw1A
import Derived.BigQuiet
import Derived.Deep.CutBlock
import Derived.Deep.CutRange
namespace Go.Proofs.Ytjmhfjioccljeaa
open Go.RowKit
set_option linter.unusedVariables false
set_option linter.unusedSimpArgs false
attribute [local go_sem ↓] Go.wp_at_zero Go.wp_at_succ

def NumSpec (base : Nat) (A : Option Addr) (l : List UInt8) (n s : Nat) (w : World) (e : Ending) (w' : World) : Prop :=
  ∃ A' c', e = .returned (.slice A' (l.length + s) c') ∧ OwnB w' base A' c' (l ++ beN n s) ∧ w.grownBy w' (blk A) ∧ (blk A' = blk A ∨ ∃ k, blk A' = some k ∧ w.heap.size ≤ k)
theorem shr_fact (n q : Nat) : (n : Int) / ((2 : Int) ^ (8 * q)) % 256 = ((UInt8.ofNat (n / 256 ^ q)).toNat : Int) := by
  have e : ((2 : Int) ^ (8 * q)) = ((256 ^ q : Nat) : Int) := by
    rw [Int.pow_mul]
    simp
  rw [e, UInt8.toNat_ofNat']
  generalize 256 ^ q = m
  omega
theorem cells_one (w : World) (t : TypeId) (x : UInt8) (v : Int) (h : v = (x.toNat : Int)) : ∀ j u, (bc [x])[j]? = some u → (w.alloc (.cells #[.int .u8 v] t)).cell? ((⟨w.heap.size, 0, none⟩ : Addr).add j) = some u := by
  subst h
  exact cells_new w (bc [x]) t
/-- one append more -/
theorem grown_more {w w1 w2 : World} {A A1 A2 : Option Addr} {o : Obj} (h : w.grownBy w1 (blk A)) (hA1 : blk A1 = blk A ∨ ∃ k, blk A1 = some k ∧ w.heap.size ≤ k) (hg : (w1.alloc o).grownBy w2 (blk A1)) (hat : blk A2 = blk A1 ∨ blk A2 = some (w1.alloc o).heap.size) :
    w.grownBy w2 (blk A) ∧ (blk A2 = blk A ∨ ∃ k, blk A2 = some k ∧ w.heap.size ≤ k) := by
  have h1 := h.size
  have h2 := hg.size
  have h3 : (w1.alloc o).heap.size = w1.heap.size + 1 := by simp
  refine ⟨⟨hg.os.trans h.os, hg.tape.trans h.tape, hg.output.trans h.output, by omega, fun i hi hne => ?_⟩, ?_⟩
  · refine (hg.block i (by omega) fun e => ?_).trans ((Below.heap_alloc w1 o i (by omega)).trans (h.block i hi hne))
    rcases hA1 with e1 | ⟨k, e1, hk⟩
    · exact hne (by rw [e, e1])
    · rw [e1] at e
      have : i = k := by simpa using e
      omega
  · rcases hat with e | e
    · rw [e]; exact hA1
    · exact .inr ⟨_, e, by omega⟩
set_option maxRecDepth 100000 in
set_option maxHeartbeats 1000000 in
theorem number_any (w : World) (base : Nat) (A : Option Addr) (c : Nat) (l : List UInt8) (n s len : Nat) (hl : l.length = len) (hn : n < 18446744073709551616) (hs1 : 1 ≤ s) (hs8 : s ≤ 8) (hlen : len ≤ 1000000) (hown : OwnB w base A c l) (hb : base ≤ w.heap.size) :
    Calls Try.prog 65 #[.slice A len c, .int .u64 (n : Int), .int .i64 (s : Int)] w fun e w' => NumSpec base A l n s w e w' := by
  have HO := Lib.hid hown
  have HL := Lib.hid hl
  have HB := Lib.hid hb
  clear hown hl hb
  go_enter Try.func65, Try.ntmps65
  go_wp2_with fail
  go_loopw [0, 7] (fun b k wr => ∃ (r : Nat) (pre : List UInt8) (A1 : Option Addr) (c1 : Nat), r ≤ s ∧ b = .slice A1 (len + (s - r)) c1 ∧ k = .int .i64 (8 * (r : Int) - 8) ∧
    Hid (beN n s = pre ++ beN n r ∧ pre.length = s - r ∧ OwnB wr base A1 c1 (l ++ pre) ∧ w.grownBy wr (blk A) ∧ (blk A1 = blk A ∨ ∃ k, blk A1 = some k ∧ w.heap.size ≤ k))) (fun _ k _ => (RowKit.intOf k + 8).toNat)
  case atStart => exact ⟨s, [], A, c, Nat.le_refl _, by rw [Nat.sub_self]; rfl, int_eq (by omega), Lib.hid ⟨rfl, by simp, by simpa using HO.out, World.grownBy.refl w _, .inl rfl⟩⟩
  case round =>
    obtain ⟨r, pre, A1, c1, hr, rfl, rfl, HJ⟩ := hrel
    by_cases h0 : 1 ≤ r
    · obtain ⟨q, rfl⟩ : ∃ q, r = q + 1 := ⟨r - 1, by omega⟩
      have e8 : 8 * ((q + 1 : Nat) : Int) - 8 = 8 * (q : Int) := by omega
      rw [e8]
      have hk : (0 : Int) ≤ 8 * (q : Int) := by omega
      clear e8
      obtain ⟨x, hx⟩ : ∃ x, UInt8.ofNat (n / 256 ^ q) = x := ⟨_, rfl⟩
      have HX : Hid ((n : Int) / ((2 : Int) ^ (8 * q)) % 256 = (x.toNat : Int)) := Lib.hid (by rw [← hx]; exact shr_fact n q)
      have HXX := Lib.hid hx
      have hwb : base ≤ wr.heap.size := Nat.le_trans HB.out HJ.out.2.2.2.1.size
      clear hx
      go_wp2_with (at_builtin; refine wpList_appB rfl (.tmp 15) (.tmp 20) rfl base A1 (len + (s - (q + 1))) c1 (l ++ pre) rfl (by rw [List.length_append, HL.out, HJ.out.2.1]) (OwnR.alloc HJ.out.2.2.1 _) ⟨wr.heap.size, 0, none⟩ 1 1 [x] rfl rfl (cells_one _ _ _ _ HX.out) (by omega) (by simp; omega) ?_; (intro A2 c2 w2 hown2 hg2 hat2))
      have hsz := hg2.size
      refine ⟨⟨q, pre ++ [x], A2, c2, by omega, ?_, int_eq (by omega), Lib.hid ⟨?_, ?_, ?_, ?_, ?_⟩⟩, by simp [RowKit.intOf]; try omega⟩
      · rw [show len + (s - (q + 1)) + 1 = len + (s - q) by omega]
      · rw [HJ.out.1, ← HXX.out, List.append_assoc]; rfl
      · rw [List.length_append, HJ.out.2.1]; simp; omega
      · rw [← List.append_assoc]; exact hown2
      · exact (grown_more HJ.out.2.2.2.1 HJ.out.2.2.2.2 hg2 hat2).1
      · exact (grown_more HJ.out.2.2.2.1 HJ.out.2.2.2.2 hg2 hat2).2
    · have hr0 : r = 0 := by omega
      subst hr0
      go_wp2_with fail
      go_ret
      refine ⟨A1, c1, by rw [HL.out]; rfl, ?_, HJ.out.2.2.2.1, HJ.out.2.2.2.2⟩
      rw [HJ.out.1, beN, List.append_nil]
      exact HJ.out.2.2.1
theorem bits_or_u64 (a b : Nat) (ha : a < 18446744073709551616) (hb : b < 18446744073709551616) : bits .or .u64 (a : Int) (b : Int) = ((a ||| b : Nat) : Int) := by
  have h64 : ∀ a : Nat, a < 18446744073709551616 → (BitVec.ofInt 64 (a : Int)).toNat = a := fun a ha => by
    rw [BitVec.ofInt_natCast, BitVec.toNat_ofNat]; exact Nat.mod_eq_of_lt (by omega)
  have hx : a ||| b < 2 ^ 64 := Nat.or_lt_two_pow (by omega) (by omega)
  show IntKind.u64.wrap ((BitVec.ofInt 64 (a : Int) ||| BitVec.ofInt 64 (b : Int)).toNat : Int) = _
  rw [BitVec.toNat_or, h64 a ha, h64 b hb, IntKind.wrap_u64]
  omega
theorem or_byte (m : Nat) (x : UInt8) (h : m * 256 + x.toNat < 18446744073709551616) : bits .or .u64 ((m : Int) * 256) (x.toNat : Int) = ((m * 256 + x.toNat : Nat) : Int) := by
  have hx := x.toNat_lt
  have e : ((m : Int) * 256) = ((m * 256 : Nat) : Int) := by omega
  have e2 : m * 256 ||| x.toNat = m * 256 + x.toNat := by
    have := Nat.shiftLeft_add_eq_or_of_lt (a := m) (b := x.toNat) (i := 8) (by omega)
    rw [Nat.shiftLeft_eq] at this
    exact this.symm
  have h1 : m * 256 < 18446744073709551616 := Nat.lt_of_le_of_lt (Nat.le_add_right _ _) h
  have h2 : x.toNat < 18446744073709551616 := Nat.lt_of_le_of_lt (Nat.le_add_left _ _) h
  rw [e, bits_or_u64 (m * 256) x.toNat h1 h2, e2]
theorem rdN_take (l : List UInt8) (j : Nat) (hj : j < l.length) : rdN (l.take (j + 1)) = rdN (l.take j) * 256 + (l.getD j 0).toNat := by
  rw [take_snoc l j hj, rdN_snoc, getD_eq l j 0 hj]
theorem rdN_lt64 (l : List UInt8) (h : l.length ≤ 8) : rdN l < 18446744073709551616 := by
  have hv := rdN_lt l
  have hp : 256 ^ l.length ≤ 256 ^ 8 := Nat.pow_le_pow_right (by omega) h
  have e8 : (256 : Nat) ^ 8 = 18446744073709551616 := by decide
  rw [e8] at hp
  exact Nat.lt_of_lt_of_le hv hp
set_option maxRecDepth 100000 in
set_option maxHeartbeats 1000000 in
theorem jread_any (w : World) (A : Option Addr) (c : Nat) (l : List UInt8) (len : Nat) (hl : l.length = len) (h8 : len ≤ 8) (hA : RdB w A l) :
    Calls Try.prog 104 #[.slice A len c] w fun e w' => e = .returned (.int .u64 (rdN l : Nat)) ∧ w = w' := by
  have HA := Lib.hid hA
  have HL := Lib.hid hl
  clear hA hl
  go_enter Try.func104, Try.ntmps104
  go_wp2_with fail
  go_loopw [3, 5, 8] (fun m _ i wr => ∃ j : Nat, m = .int .u64 (rdN (l.take j) : Nat) ∧ i = .int .i64 (j : Int) ∧ j ≤ len ∧ Hid (wr = w)) (fun _ _ i _ => len - (RowKit.intOf i).toNat)
  case atStart => exact ⟨0, rfl, rfl, Nat.zero_le _, Lib.hid rfl⟩
  case round =>
    obtain ⟨j, rfl, rfl, hj, HW⟩ := hrel
    have hwr := HW.out
    subst hwr
    by_cases hlt : j < len
    · have hll := HL.out
      obtain ⟨ad, rfl, cj⟩ := HA.out.at_ (k := j) (by omega)
      have hvs := rdN_take l j (by omega)
      have h64 := rdN_lt64 (l.take (j + 1)) (by rw [List.length_take]; omega)
      rw [hvs] at h64
      have hor := or_byte (rdN (l.take j)) (l.getD j 0) h64
      have hm2 : IntKind.u64.wrap (((rdN (l.take j) : Nat) : Int) * 256) = ((rdN (l.take j) : Nat) : Int) * 256 := by rw [IntKind.wrap_u64]; omega
      have HVS := Lib.hid hvs
      have hy := getD_lt l j
      clear hvs h64 hll
      generalize hm : rdN (l.take j) = m at *
      generalize (l.getD j 0) = y at *
      have hjl : (j : Int) < (len : Int) := by omega
      go_wp2_with fail
      refine ⟨⟨j + 1, ?_, int_eq (by omega), by omega, Lib.hid (by trivial)⟩, by simp [RowKit.intOf]; omega⟩
      rw [HVS.out]; exact int_eq (by omega)
    · have hjk : j = len := by omega
      subst hjk
      have ht : l.take j = l := List.take_of_length_le (by rw [HL.out]; exact Nat.le_refl _)
      rw [ht]
      go_wp2_with fail
      go_ret
      exact ⟨rfl, rfl⟩
end Go.Proofs.Ytjmhfjioccljeaa
