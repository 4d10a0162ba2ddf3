/-
  Walks of package field: width, check, run.
-/
import Derived.Test.YtikiahonhbpchaaFieldQ
import Derived.Test.YtikiahonhbpchaaOwn
import Derived.Test.YtikiahonhbpchaaShelf
import Derived.BigQuiet
import Derived.BigRegion
import Derived.Handy
namespace Go.Proofs.Ytikiahonhbpchaa
open Go.RowKit Fld
set_option linter.unusedVariables false
set_option linter.unusedSimpArgs false

theorem i64_xor_sign (n : Int) (h : -9223372036854775808 ≤ n ∧ n < 9223372036854775808) : bits .xor .i64 n (n / 9223372036854775808) = (mag n : Int) := by
  unfold mag
  by_cases hn : n < 0
  · rw [if_pos hn]
    have e : n / 9223372036854775808 = -1 := by omega
    rw [e]
    show IntKind.i64.wrap ((BitVec.ofInt 64 n ^^^ BitVec.ofInt 64 (-1)).toNat : Int) = _
    have h1 : BitVec.ofInt 64 (-1) = BitVec.allOnes 64 := by decide
    rw [h1, BitVec.xor_allOnes, BitVec.toNat_not, BitVec.toNat_ofInt, IntKind.wrap_i64]
    omega
  · rw [if_neg hn]
    have e : n / 9223372036854775808 = 0 := by omega
    rw [e]
    obtain ⟨m, rfl⟩ : ∃ m : Nat, n = m := ⟨n.toNat, by omega⟩
    have := i64_xor_nat m 0 (by omega) (by omega)
    simpa using this
theorem bitLen_zero : Lib.bitLen 0 = 0 := by decide
theorem bitLen_byte (m : Nat) (h0 : 0 < m) (h : m < 256) : 1 ≤ Lib.bitLen m ∧ Lib.bitLen m ≤ 8 := by
  have := Lib.bitLen_le8 ⟨m, h⟩
  have h1 := Lib.bitLen_half m (by omega) (by omega)
  exact ⟨by omega, this⟩
theorem width_bits (m : Nat) (h : m < 2 ^ 64) : max ((Lib.bitLen m + 7) / 8) 1 = bytesN m := by
  induction m using Nat.strongRecOn with
  | ind m ih =>
    unfold bytesN
    split
    · next h1 =>
      rcases Nat.eq_zero_or_pos m with h0 | h0
      · subst h0; rw [bitLen_zero]; decide
      · have := bitLen_byte m h0 h1
        omega
    · next h1 =>
      rw [Lib.bitLen_shift8 m (by omega) (by omega), ← ih (m / 256) (by omega) (by omega)]
      have h2 : 1 ≤ Lib.bitLen (m / 256) := by
        rw [Lib.bitLen_half _ (by omega) (by omega)]; omega
      omega
theorem bitLen_le (m : Nat) (h : m < 2 ^ 64) : Lib.bitLen m ≤ 64 := by
  have h1 := width_bits m h
  have h2 := bytesN_le8 h
  omega
theorem max_int (a : Nat) : max (((a : Int) + 7) / 8) 1 = ((max ((a + 7) / 8) 1 : Nat) : Int) := by omega
theorem width_any (n : Int) (h : -9223372036854775808 ≤ n ∧ n < 9223372036854775808) (w : World) :
    Calls Try.prog 25 #[.int .i64 n] w fun e w' => e = .returned (.int .i64 (width n)) ∧ w = w' := by
  have hm := mag_lt h
  have hx := i64_xor_sign n h
  have hw := width_bits (mag n) (by omega)
  have hl := bitLen_le (mag n) (by omega)
  by_cases h0 : 0 ≤ n ∧ n < 64
  · have e : width n = 0 := by unfold width; rw [if_pos h0]
    rw [e]
    clear hx hw hl
    go_enter Try.func25, Try.ntmps25
    go_wp2
    go_ret
    exact ⟨rfl, rfl⟩
  · have e : width n = bytesN (mag n) := by unfold width; rw [if_neg h0]
    rw [e, ← hw]
    clear hw e
    by_cases h1 : 0 ≤ n
    · have h2 : 64 ≤ n := by omega
      clear h0
      go_enter Try.func25, Try.ntmps25
      go_wp2_with fail
      refine (Try.bits_Len64 _ _ (by omega) (by omega)).mono ?_
      rintro e w' ⟨rfl, rfl⟩
      simp only [Int.toNat_natCast]
      go_wp2
      go_ret
      refine ⟨?_, rfl⟩
      (first | rfl | (rw [max_int]; rfl))
    · have h2 : n < 0 := by omega
      clear h0 h1
      go_enter Try.func25, Try.ntmps25
      go_wp2_with fail
      refine (Try.bits_Len64 _ _ (by omega) (by omega)).mono ?_
      rintro e w' ⟨rfl, rfl⟩
      simp only [Int.toNat_natCast]
      go_wp2
      go_ret
      refine ⟨?_, rfl⟩
      (first | rfl | (rw [max_int]; rfl))

/-- an item as a value -/
def It.v (i : It) : Value := .agg #[.int .i64 i.kind, .int .i64 i.num, .string ⟨i.str.toArray⟩]
theorem str_nil_iff (l : List UInt8) : ((⟨l.toArray⟩ : ByteArray) = ⟨#[]⟩) ↔ l = [] := by
  constructor
  · intro h
    have := congrArg ByteArray.size h
    rw [str_size] at this
    exact List.eq_nil_of_length_eq_zero this
  · rintro rfl; rfl
theorem check_any (i : It) (hl : i.str.length ≤ maxLen) (w : World) :
    Calls Try.prog 22 #[It.v i] w fun e w' => e = .returned (.int .i64 (check i)) ∧ Below w.heap.size w w' := by
  unfold maxLen at hl
  obtain ⟨k, n, s⟩ := i
  simp only at hl
  have hs := str_size s
  have hb : Below w.heap.size w (w.alloc (.cells #[.int .i64 k, .int .i64 n, .string ⟨s.toArray⟩] 30)) := (Below.refl _ _).alloc (Nat.le_refl _) _
  unfold It.v check
  simp only
  by_cases hk : k = 2
  · subst hk
    by_cases hc : 50000 < s.length
    · rw [if_pos ⟨rfl, hc⟩]
      go_enter Try.func22, Try.ntmps22
      go_wp2
      go_ret
      exact ⟨rfl, hb⟩
    · rw [if_neg (by omega)]
      by_cases hn : n = 0
      · subst hn
        rw [if_pos (.inr ⟨rfl, rfl⟩)]
        go_enter Try.func22, Try.ntmps22
        go_wp2
        go_ret
        exact ⟨rfl, hb⟩
      · have hn' : ((n : Int) == 0) = false := by simpa using hn
        rw [if_neg (by rintro (h | h); omega; exact hn h.2)]
        go_enter Try.func22, Try.ntmps22
        go_wp2
        go_ret
        exact ⟨rfl, hb⟩
  · have hk2 : ((k : Int) == 2) = false := by simpa using hk
    rw [if_neg (by rintro ⟨h, _⟩; exact hk h)]
    by_cases h1 : k = 1
    · subst h1
      cases s with
      | nil =>
        rw [if_pos (.inl ⟨rfl, rfl⟩)]
        go_enter Try.func22, Try.ntmps22
        go_wp2
        go_ret
        exact ⟨rfl, hb⟩
      | cons x t =>
        have he : ((⟨(x :: t).toArray⟩ : ByteArray)).toList.isEmpty = false := by rw [ByteArray.toList_mk]; rfl
        rw [if_neg (by rintro (h | h); exact absurd h.2 (by simp); omega)]
        generalize (⟨(x :: t).toArray⟩ : ByteArray) = S at *
        go_enter Try.func22, Try.ntmps22
        go_wp2
        go_ret
        exact ⟨rfl, hb⟩
    · have hk1 : ((k : Int) == 1) = false := by simpa using h1
      rw [if_neg (by rintro (h | h); exact h1 h.1; exact hk h.1)]
      go_enter Try.func22, Try.ntmps22
      go_wp2
      go_ret
      exact ⟨rfl, hb⟩

/-- '(item, how many bytes, error)' -/
def tri (r : It × Nat × Int) : Value := .tuple #[It.v r.1, .int .i64 (r.2.1 : Nat), .int .i64 r.2.2]
/-- the variable of a named result, or of '&x' *-/
def Zit : Obj := .cells #[.int .i64 0, .int .i64 0, .string ⟨#[]⟩] 30
theorem below_zit (w : World) : Below w.heap.size w (w.alloc Zit) := (Below.refl _ _).alloc (Nat.le_refl _) _
theorem RdB.map {w : World} {ad : Addr} {l : List UInt8} (h : RdB w (some ad) l) (k : Nat) : RdB w (Option.map (fun x => x.add k) (some ad)) (l.drop k) := h.tail k
theorem RdB.some_ {w : World} {A : Option Addr} {l : List UInt8} (h : RdB w A l) (hl : 0 < l.length) : ∃ ad, A = some ad := by
  obtain ⟨ad, e, _⟩ := h hl
  exact ⟨ad, e⟩
theorem tri_agg (k n : Int) (s : List UInt8) (m : Nat) (e : Int) : tri (⟨k, n, s⟩, m, e) = .tuple #[.agg #[.int .i64 k, .int .i64 n, .string ⟨s.toArray⟩], .int .i64 (m : Nat), .int .i64 e] := rfl
theorem tri_none (e : Int) : tri (none_, 0, e) = .tuple #[.agg #[.int .i64 0, .int .i64 0, .string ⟨#[]⟩], .int .i64 0, .int .i64 e] := rfl
theorem run_any (A : Option Addr) (b : List UInt8) (cap k n : Nat) (w : World) (hb : b.length ≤ maxLen) (hcap : b.length ≤ cap) (hk : 1 ≤ k ∧ k ≤ 5) (hn : n ≤ 50000) (hA : RdB w A b) :
    Calls Try.prog 21 #[.slice A b.length cap, .int .i64 k, .int .i64 n] w fun e w' => e = .returned (tri (runP b k n)) ∧ Below w.heap.size w w' := by
  unfold maxLen at hb
  unfold runP
  by_cases h0 : b.length < k + n
  · rw [if_pos h0, tri_none]
    go_enter Try.func21, Try.ntmps21
    go_wp2
    go_returns
    exact ⟨rfl, below_zit w⟩
  · rw [if_neg h0, tri_agg]
    obtain ⟨ad, rfl⟩ := hA.some_ (by omega)
    have hr := ((hA.below (below_zit w)).map k).take n
    have hr0 := ((hA.below (below_zit w))).take 0
    have hc := fun c => run_str (n := n) c hr (by simp; omega)
    have hc0 := fun c => run_str (n := 0) c hr0 (by simp)
    have hkn : ((k + n : Nat) : Int) = (k : Int) + n := by omega
    rw [hkn]
    unfold Zit at hc hc0
    simp only [Option.map_some] at hc
    generalize hS : (⟨((b.drop k).take n).toArray⟩ : ByteArray) = S at *
    by_cases hck : cap = k
    · subst hck
      have hn0 : n = 0 := by omega
      subst hn0
      have hS' : (⟨(b.take 0).toArray⟩ : ByteArray) = S := by rw [← hS]; simp
      rw [hS'] at hc0
      clear hA hr hr0 hc hS hS'
      go_enter Try.func21, Try.ntmps21
      go_wp2
      go_returns
      exact ⟨rfl, (Below.refl _ _).alloc (Nat.le_refl _) _⟩
    · clear hA hr hr0 hS hc0
      go_enter Try.func21, Try.ntmps21
      go_wp2
      go_returns
      exact ⟨rfl, (Below.refl _ _).alloc (Nat.le_refl _) _⟩
end Go.Proofs.Ytikiahonhbpchaa
