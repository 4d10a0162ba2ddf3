/-
  No cell of these rows narrows 'for every input' (looked for: loops, veiled, ifaces, maps, wideKeys, modest, calm, conditions, laid).
  DERIVED. THE GIVEN ROWS OF THIS SEAT. 7 by the template 'for every input the law returns true; each argument reads behind the call as it read before'; 0 by the template 'total and deterministic' (their statements: YtikiahonhbpchaaTotals.lean).
  GIVEN WITH THE SEED: the statements are not yours to turn. If you find one false, say at which input.
  Laid BY PROGRAM, IN A SANDBOX (cutbox-rows.mjs): the forced cells as the released guide's own fill.sh prints them over the translation 759a4ac2a361583a… (all of the seat's roots in one cut). By AI agents, Wed Nov 11 2026. No macro, syntax, notation, axiom, sorry.
-/
import Derived.Test.YtikiahonhbpchaaChecked
import GoSem.Claim
import GoSem.ClaimJoined
import GoSem.ClaimMapViews
import Derived.JoinedTies
import Derived.KernelRfl
namespace Go.Proofs.Ytikiahonhbpchaa
/- THE CELL 'sum', in the pinned program and in every row, IS THE sha256 OF THE DUMP (.gsa) THAT YtikiahonhbpchaaProg.lean LOADS. Nothing in Lean hashes anything: it is a label: what it is worth is what the hold of that sum in a sandbox is worth. -/
noncomputable def Try.pinned : Pinned := { name := "ytikiahonhbpchaa", sum := "759a4ac2a361583a32ad3280a3f778a01588a79f39ef3a5b0b6f5cea354a4cc2", checked := Try.checked }
namespace Rows
def none {H : Type} : Left H := { results := [], args := [] }

/-- 'shellaclaw02.FieldItems': WHATEVER THE INPUT: true; the input reads as it did. -/
def fieldItemsSpec : ChangeSpec := { name := "fieldItems", fn := fun _ => fun
  | [d] => { results := [.lit (.bool true)], args := [d] }
  | _ => none }
def fieldItemsRow : OpenClaim := { program := "ytikiahonhbpchaa", sum := "759a4ac2a361583a32ad3280a3f778a01588a79f39ef3a5b0b6f5cea354a4cc2", func := "shellac/shellaclaw02.FieldItems", spec := "fieldItems", recurses := true, apart := false }
def FieldItemsSaid : Prop := fieldItemsRow.holds Try.pinned (OpenSpec.ofChange fieldItemsSpec)

/-- ITS FALSE NEIGHBOUR: 'it returns false'. Refute it at one input. -/
def fieldItemsWrong : ChangeSpec := { name := "fieldItems", fn := fun _ => fun
  | [d] => { results := [.lit (.bool false)], args := [d] }
  | _ => none }
def FieldItemsWrongFalsely : Prop := fieldItemsRow.holds Try.pinned (OpenSpec.ofChange fieldItemsWrong)

/-- 'shellaclaw02.FieldReturns': WHATEVER THE INPUT: true; the input reads as it did. -/
def fieldReturnsSpec : ChangeSpec := { name := "fieldReturns", fn := fun _ => fun
  | [d] => { results := [.lit (.bool true)], args := [d] }
  | _ => none }
def fieldReturnsRow : OpenClaim := { program := "ytikiahonhbpchaa", sum := "759a4ac2a361583a32ad3280a3f778a01588a79f39ef3a5b0b6f5cea354a4cc2", func := "shellac/shellaclaw02.FieldReturns", spec := "fieldReturns", apart := false }
def FieldReturnsSaid : Prop := fieldReturnsRow.holds Try.pinned (OpenSpec.ofChange fieldReturnsSpec)

/-- ITS FALSE NEIGHBOUR: 'it returns false'. Refute it at one input. -/
def fieldReturnsWrong : ChangeSpec := { name := "fieldReturns", fn := fun _ => fun
  | [d] => { results := [.lit (.bool false)], args := [d] }
  | _ => none }
def FieldReturnsWrongFalsely : Prop := fieldReturnsRow.holds Try.pinned (OpenSpec.ofChange fieldReturnsWrong)

/-- 'shellaclaw02.FieldSingle': WHATEVER THE INPUT: true; the input reads as it did. -/
def fieldSingleSpec : ChangeSpec := { name := "fieldSingle", fn := fun _ => fun
  | [d1, d2] => { results := [.lit (.bool true)], args := [d1, d2] }
  | _ => none }
def fieldSingleRow : OpenClaim := { program := "ytikiahonhbpchaa", sum := "759a4ac2a361583a32ad3280a3f778a01588a79f39ef3a5b0b6f5cea354a4cc2", func := "shellac/shellaclaw02.FieldSingle", spec := "fieldSingle", apart := false }
def FieldSingleSaid : Prop := fieldSingleRow.holds Try.pinned (OpenSpec.ofChange fieldSingleSpec)

/-- ITS FALSE NEIGHBOUR: 'it returns false'. Refute it at one input. -/
def fieldSingleWrong : ChangeSpec := { name := "fieldSingle", fn := fun _ => fun
  | [d1, d2] => { results := [.lit (.bool false)], args := [d1, d2] }
  | _ => none }
def FieldSingleWrongFalsely : Prop := fieldSingleRow.holds Try.pinned (OpenSpec.ofChange fieldSingleWrong)

/-- 'shellaclaw02.FieldChains': WHATEVER THE INPUT: true; the input reads as it did. -/
def fieldChainsSpec : ChangeSpec := { name := "fieldChains", fn := fun _ => fun
  | [d1, d2] => { results := [.lit (.bool true)], args := [d1, d2] }
  | _ => none }
def fieldChainsRow : OpenClaim := { program := "ytikiahonhbpchaa", sum := "759a4ac2a361583a32ad3280a3f778a01588a79f39ef3a5b0b6f5cea354a4cc2", func := "shellac/shellaclaw02.FieldChains", spec := "fieldChains", apart := false }
def FieldChainsSaid : Prop := fieldChainsRow.holds Try.pinned (OpenSpec.ofChange fieldChainsSpec)

/-- ITS FALSE NEIGHBOUR: 'it returns false'. Refute it at one input. -/
def fieldChainsWrong : ChangeSpec := { name := "fieldChains", fn := fun _ => fun
  | [d1, d2] => { results := [.lit (.bool false)], args := [d1, d2] }
  | _ => none }
def FieldChainsWrongFalsely : Prop := fieldChainsRow.holds Try.pinned (OpenSpec.ofChange fieldChainsWrong)

/-- 'shellaclaw02.FieldKeeps': WHATEVER THE INPUT: true; the input reads as it did. -/
def fieldKeepsSpec : ChangeSpec := { name := "fieldKeeps", fn := fun _ => fun
  | [d] => { results := [.lit (.bool true)], args := [d] }
  | _ => none }
def fieldKeepsRow : OpenClaim := { program := "ytikiahonhbpchaa", sum := "759a4ac2a361583a32ad3280a3f778a01588a79f39ef3a5b0b6f5cea354a4cc2", func := "shellac/shellaclaw02.FieldKeeps", spec := "fieldKeeps", apart := false }
def FieldKeepsSaid : Prop := fieldKeepsRow.holds Try.pinned (OpenSpec.ofChange fieldKeepsSpec)

/-- ITS FALSE NEIGHBOUR: 'it returns false'. Refute it at one input. -/
def fieldKeepsWrong : ChangeSpec := { name := "fieldKeeps", fn := fun _ => fun
  | [d] => { results := [.lit (.bool false)], args := [d] }
  | _ => none }
def FieldKeepsWrongFalsely : Prop := fieldKeepsRow.holds Try.pinned (OpenSpec.ofChange fieldKeepsWrong)

/-- 'shellaclaw02.FieldRows': WHATEVER THE INPUT: true; the input reads as it did. -/
def fieldRowsSpec : ChangeSpec := { name := "fieldRows", fn := fun _ => fun
  | [d] => { results := [.lit (.bool true)], args := [d] }
  | _ => none }
def fieldRowsRow : OpenClaim := { program := "ytikiahonhbpchaa", sum := "759a4ac2a361583a32ad3280a3f778a01588a79f39ef3a5b0b6f5cea354a4cc2", func := "shellac/shellaclaw02.FieldRows", spec := "fieldRows", recurses := true, apart := false }
def FieldRowsSaid : Prop := fieldRowsRow.holds Try.pinned (OpenSpec.ofChange fieldRowsSpec)

/-- ITS FALSE NEIGHBOUR: 'it returns false'. Refute it at one input. -/
def fieldRowsWrong : ChangeSpec := { name := "fieldRows", fn := fun _ => fun
  | [d] => { results := [.lit (.bool false)], args := [d] }
  | _ => none }
def FieldRowsWrongFalsely : Prop := fieldRowsRow.holds Try.pinned (OpenSpec.ofChange fieldRowsWrong)

/-- 'shellaclaw02.FieldWidths': WHATEVER THE INPUT: true; the input reads as it did. -/
def fieldWidthsSpec : ChangeSpec := { name := "fieldWidths", fn := fun _ => fun
  | [d1, d2] => { results := [.lit (.bool true)], args := [d1, d2] }
  | _ => none }
def fieldWidthsRow : OpenClaim := { program := "ytikiahonhbpchaa", sum := "759a4ac2a361583a32ad3280a3f778a01588a79f39ef3a5b0b6f5cea354a4cc2", func := "shellac/shellaclaw02.FieldWidths", spec := "fieldWidths", apart := false }
def FieldWidthsSaid : Prop := fieldWidthsRow.holds Try.pinned (OpenSpec.ofChange fieldWidthsSpec)

/-- ITS FALSE NEIGHBOUR: 'it returns false'. Refute it at one input. -/
def fieldWidthsWrong : ChangeSpec := { name := "fieldWidths", fn := fun _ => fun
  | [d1, d2] => { results := [.lit (.bool false)], args := [d1, d2] }
  | _ => none }
def FieldWidthsWrongFalsely : Prop := fieldWidthsRow.holds Try.pinned (OpenSpec.ofChange fieldWidthsWrong)

/- THE SECOND FORM. 'bulk': how many values and letters a reading holds, each counted each time it is reached (what is shared counts as often as it is met; a slice's spare places count too). A statement '..UptoSaid' is the law's where the arguments, and the package variables that the reading takes, are together of bulk at most 1048576: NARROWER than '..Said'. Prove '..Said' where nothing that the law and all that it calls make is longer than what came in: it says more and counts as full. Else prove '..UptoSaid'. A law counts once. -/
mutual
def uptoBulk {H : Type} : DataW H → Nat
  | .lit (.string bytes) => bytes.length + 1
  | .lit _ => 1
  | .nil => 1
  | .ptr d => uptoBulk d + 1
  | .slice elems spare => uptoBulkAll elems + uptoBulkAll spare + 1
  | .agg parts => uptoBulkAll parts + 1
  | .iface _ d => uptoBulk d + 1
  | .map entries => uptoBulkEntries entries + 1
  | .held _ => 1
def uptoBulkAll {H : Type} : List (DataW H) → Nat
  | [] => 0
  | d :: r => uptoBulk d + uptoBulkAll r
def uptoBulkEntries {H : Type} : List (Lit × DataW H) → Nat
  | [] => 0
  | x :: r => uptoBulkEntry x + uptoBulkEntries r
def uptoBulkEntry {H : Type} : Lit × DataW H → Nat
  | (.string bytes, d) => bytes.length + uptoBulk d + 1
  | (_, d) => uptoBulk d + 1
 end
def uptoSmall : (H : Type) → List (DataW H) → Bool := fun _ ds => decide (uptoBulkAll ds ≤ 1048576)
def OpenSpec.upto (s : _root_.Go.ChangeSpec) : _root_.Go.OpenSpec := { _root_.Go.OpenSpec.ofChange s with cond := some uptoSmall }

/-- 'shellaclaw02.FieldItems', WHERE WHAT IT READS IS OF BULK AT MOST 1048576: true; the input reads as it did. -/
def fieldItemsUptoRow : OpenClaim := { program := "ytikiahonhbpchaa", sum := "759a4ac2a361583a32ad3280a3f778a01588a79f39ef3a5b0b6f5cea354a4cc2", func := "shellac/shellaclaw02.FieldItems", spec := "fieldItems", recurses := true, apart := false, narrowed := true }
def FieldItemsUptoSaid : Prop := fieldItemsUptoRow.holds Try.pinned (OpenSpec.upto fieldItemsSpec)

/-- 'shellaclaw02.FieldReturns', WHERE WHAT IT READS IS OF BULK AT MOST 1048576: true; the input reads as it did. -/
def fieldReturnsUptoRow : OpenClaim := { program := "ytikiahonhbpchaa", sum := "759a4ac2a361583a32ad3280a3f778a01588a79f39ef3a5b0b6f5cea354a4cc2", func := "shellac/shellaclaw02.FieldReturns", spec := "fieldReturns", apart := false, narrowed := true }
def FieldReturnsUptoSaid : Prop := fieldReturnsUptoRow.holds Try.pinned (OpenSpec.upto fieldReturnsSpec)

/-- 'shellaclaw02.FieldSingle', WHERE WHAT IT READS IS OF BULK AT MOST 1048576: true; the input reads as it did. -/
def fieldSingleUptoRow : OpenClaim := { program := "ytikiahonhbpchaa", sum := "759a4ac2a361583a32ad3280a3f778a01588a79f39ef3a5b0b6f5cea354a4cc2", func := "shellac/shellaclaw02.FieldSingle", spec := "fieldSingle", apart := false, narrowed := true }
def FieldSingleUptoSaid : Prop := fieldSingleUptoRow.holds Try.pinned (OpenSpec.upto fieldSingleSpec)

/-- 'shellaclaw02.FieldChains', WHERE WHAT IT READS IS OF BULK AT MOST 1048576: true; the input reads as it did. -/
def fieldChainsUptoRow : OpenClaim := { program := "ytikiahonhbpchaa", sum := "759a4ac2a361583a32ad3280a3f778a01588a79f39ef3a5b0b6f5cea354a4cc2", func := "shellac/shellaclaw02.FieldChains", spec := "fieldChains", apart := false, narrowed := true }
def FieldChainsUptoSaid : Prop := fieldChainsUptoRow.holds Try.pinned (OpenSpec.upto fieldChainsSpec)

/-- 'shellaclaw02.FieldKeeps', WHERE WHAT IT READS IS OF BULK AT MOST 1048576: true; the input reads as it did. -/
def fieldKeepsUptoRow : OpenClaim := { program := "ytikiahonhbpchaa", sum := "759a4ac2a361583a32ad3280a3f778a01588a79f39ef3a5b0b6f5cea354a4cc2", func := "shellac/shellaclaw02.FieldKeeps", spec := "fieldKeeps", apart := false, narrowed := true }
def FieldKeepsUptoSaid : Prop := fieldKeepsUptoRow.holds Try.pinned (OpenSpec.upto fieldKeepsSpec)

/-- 'shellaclaw02.FieldRows', WHERE WHAT IT READS IS OF BULK AT MOST 1048576: true; the input reads as it did. -/
def fieldRowsUptoRow : OpenClaim := { program := "ytikiahonhbpchaa", sum := "759a4ac2a361583a32ad3280a3f778a01588a79f39ef3a5b0b6f5cea354a4cc2", func := "shellac/shellaclaw02.FieldRows", spec := "fieldRows", recurses := true, apart := false, narrowed := true }
def FieldRowsUptoSaid : Prop := fieldRowsUptoRow.holds Try.pinned (OpenSpec.upto fieldRowsSpec)

/-- 'shellaclaw02.FieldWidths', WHERE WHAT IT READS IS OF BULK AT MOST 1048576: true; the input reads as it did. -/
def fieldWidthsUptoRow : OpenClaim := { program := "ytikiahonhbpchaa", sum := "759a4ac2a361583a32ad3280a3f778a01588a79f39ef3a5b0b6f5cea354a4cc2", func := "shellac/shellaclaw02.FieldWidths", spec := "fieldWidths", apart := false, narrowed := true }
def FieldWidthsUptoSaid : Prop := fieldWidthsUptoRow.holds Try.pinned (OpenSpec.upto fieldWidthsSpec)

end Rows
end Go.Proofs.Ytikiahonhbpchaa
