/-
  Plain: bytes as digits. No program in sight.
-/
import Init
namespace Go.Proofs.Ytpjgcceacfdheaa.Hex
set_option linter.unusedVariables false
set_option linter.unusedSimpArgs false
def tab : List UInt8 := [48, 49, 50, 51, 52, 53, 54, 55, 56, 57, 97, 98, 99, 100, 101, 102]
def dig (n : Nat) : UInt8 := tab.getD n 0
def one (x : UInt8) : List UInt8 := [dig (x.toNat / 16), dig (x.toNat % 16)]
def digits (l : List UInt8) : List UInt8 := l.flatMap one
theorem digits_snoc (l : List UInt8) (x : UInt8) : digits (l ++ [x]) = digits l ++ [dig (x.toNat / 16)] ++ [dig (x.toNat % 16)] := by simp [digits, one]
theorem digits_length (l : List UInt8) : (digits l).length = 2 * l.length := by
  induction l with
  | nil => rfl
  | cons x l ih => simp only [digits, List.flatMap_cons, List.length_append, List.length_cons] at *; rw [ih]; simp [one]; omega
end Go.Proofs.Ytpjgcceacfdheaa.Hex
