/-
  No cell of these rows narrows 'for every input' (looked for: loops, veiled, ifaces, maps, wideKeys, modest, calm, conditions, laid).
  DERIVED. THE GIVEN ROWS OF THIS SEAT. 6 by the template 'for every input the law returns true; each argument reads behind the call as it read before'; 0 by the template 'total and deterministic' (their statements: YtpjgcceacfdheaaTotals.lean).
  GIVEN WITH THE SEED: the statements are not yours to turn. If you find one false, say at which input.
  Laid BY PROGRAM, IN A SANDBOX (cutbox-rows.mjs): the forced cells as the released guide's own fill.sh prints them over the translation fdcdcc25e25c49e2… (all of the seat's roots in one cut). By AI agents, Wed Nov 11 2026. No macro, syntax, notation, axiom, sorry.
-/
import Derived.Test.YtpjgcceacfdheaaChecked
import GoSem.Claim
import GoSem.ClaimJoined
import GoSem.ClaimMapViews
import Derived.JoinedTies
import Derived.KernelRfl
namespace Go.Proofs.Ytpjgcceacfdheaa
/- THE CELL 'sum', in the pinned program and in every row, IS THE sha256 OF THE DUMP (.gsa) THAT YtpjgcceacfdheaaProg.lean LOADS. Nothing in Lean hashes anything: it is a label: what it is worth is what the hold of that sum in a sandbox is worth. -/
noncomputable def Try.pinned : Pinned := { name := "ytpjgcceacfdheaa", sum := "fdcdcc25e25c49e2631970c014164e72361dfc44e7b93594021f01fa6ee05fb6", checked := Try.checked }
namespace Rows
def none {H : Type} : Left H := { results := [], args := [] }

/-- 'shellaclaw04.SumsCrc': WHATEVER THE INPUT: true; the input reads as it did. -/
def sumsCrcSpec : ChangeSpec := { name := "sumsCrc", fn := fun _ => fun
  | [d] => { results := [.lit (.bool true)], args := [d] }
  | _ => none }
def sumsCrcRow : OpenClaim := { program := "ytpjgcceacfdheaa", sum := "fdcdcc25e25c49e2631970c014164e72361dfc44e7b93594021f01fa6ee05fb6", func := "shellac/shellaclaw04.SumsCrc", spec := "sumsCrc", inPlace := ["internal/abi.NoEscape"], apart := false }
def SumsCrcSaid : Prop := sumsCrcRow.holds Try.pinned (OpenSpec.ofChange sumsCrcSpec)

/-- ITS FALSE NEIGHBOUR: 'it returns false'. Refute it at one input. -/
def sumsCrcWrong : ChangeSpec := { name := "sumsCrc", fn := fun _ => fun
  | [d] => { results := [.lit (.bool false)], args := [d] }
  | _ => none }
def SumsCrcWrongFalsely : Prop := sumsCrcRow.holds Try.pinned (OpenSpec.ofChange sumsCrcWrong)

/-- 'shellaclaw04.SumsTell': WHATEVER THE INPUT: true; the input reads as it did. -/
def sumsTellSpec : ChangeSpec := { name := "sumsTell", fn := fun _ => fun
  | [d1, d2] => { results := [.lit (.bool true)], args := [d1, d2] }
  | _ => none }
def sumsTellRow : OpenClaim := { program := "ytpjgcceacfdheaa", sum := "fdcdcc25e25c49e2631970c014164e72361dfc44e7b93594021f01fa6ee05fb6", func := "shellac/shellaclaw04.SumsTell", spec := "sumsTell", inPlace := ["internal/abi.NoEscape"], apart := false }
def SumsTellSaid : Prop := sumsTellRow.holds Try.pinned (OpenSpec.ofChange sumsTellSpec)

/-- ITS FALSE NEIGHBOUR: 'it returns false'. Refute it at one input. -/
def sumsTellWrong : ChangeSpec := { name := "sumsTell", fn := fun _ => fun
  | [d1, d2] => { results := [.lit (.bool false)], args := [d1, d2] }
  | _ => none }
def SumsTellWrongFalsely : Prop := sumsTellRow.holds Try.pinned (OpenSpec.ofChange sumsTellWrong)

/-- 'shellaclaw04.SumsSeal': WHATEVER THE INPUT: true; the input reads as it did. -/
def sumsSealSpec : ChangeSpec := { name := "sumsSeal", fn := fun _ => fun
  | [d1, d2] => { results := [.lit (.bool true)], args := [d1, d2] }
  | _ => none }
def sumsSealRow : OpenClaim := { program := "ytpjgcceacfdheaa", sum := "fdcdcc25e25c49e2631970c014164e72361dfc44e7b93594021f01fa6ee05fb6", func := "shellac/shellaclaw04.SumsSeal", spec := "sumsSeal", inPlace := ["internal/abi.NoEscape"], apart := false }
def SumsSealSaid : Prop := sumsSealRow.holds Try.pinned (OpenSpec.ofChange sumsSealSpec)

/-- ITS FALSE NEIGHBOUR: 'it returns false'. Refute it at one input. -/
def sumsSealWrong : ChangeSpec := { name := "sumsSeal", fn := fun _ => fun
  | [d1, d2] => { results := [.lit (.bool false)], args := [d1, d2] }
  | _ => none }
def SumsSealWrongFalsely : Prop := sumsSealRow.holds Try.pinned (OpenSpec.ofChange sumsSealWrong)

/-- 'shellaclaw04.SumsParts': WHATEVER THE INPUT: true; the input reads as it did. -/
def sumsPartsSpec : ChangeSpec := { name := "sumsParts", fn := fun _ => fun
  | [d1, d2, d3] => { results := [.lit (.bool true)], args := [d1, d2, d3] }
  | _ => none }
def sumsPartsRow : OpenClaim := { program := "ytpjgcceacfdheaa", sum := "fdcdcc25e25c49e2631970c014164e72361dfc44e7b93594021f01fa6ee05fb6", func := "shellac/shellaclaw04.SumsParts", spec := "sumsParts", inPlace := ["internal/abi.NoEscape"], apart := false }
def SumsPartsSaid : Prop := sumsPartsRow.holds Try.pinned (OpenSpec.ofChange sumsPartsSpec)

/-- ITS FALSE NEIGHBOUR: 'it returns false'. Refute it at one input. -/
def sumsPartsWrong : ChangeSpec := { name := "sumsParts", fn := fun _ => fun
  | [d1, d2, d3] => { results := [.lit (.bool false)], args := [d1, d2, d3] }
  | _ => none }
def SumsPartsWrongFalsely : Prop := sumsPartsRow.holds Try.pinned (OpenSpec.ofChange sumsPartsWrong)

/-- 'shellaclaw04.SumsNames': WHATEVER THE INPUT: true; the input reads as it did. -/
def sumsNamesSpec : ChangeSpec := { name := "sumsNames", fn := fun _ => fun
  | [d1, d2] => { results := [.lit (.bool true)], args := [d1, d2] }
  | _ => none }
def sumsNamesRow : OpenClaim := { program := "ytpjgcceacfdheaa", sum := "fdcdcc25e25c49e2631970c014164e72361dfc44e7b93594021f01fa6ee05fb6", func := "shellac/shellaclaw04.SumsNames", spec := "sumsNames", inPlace := ["internal/abi.NoEscape", "internal/bytealg.IndexByteString"], apart := false }
def SumsNamesSaid : Prop := sumsNamesRow.holds Try.pinned (OpenSpec.ofChange sumsNamesSpec)

/-- ITS FALSE NEIGHBOUR: 'it returns false'. Refute it at one input. -/
def sumsNamesWrong : ChangeSpec := { name := "sumsNames", fn := fun _ => fun
  | [d1, d2] => { results := [.lit (.bool false)], args := [d1, d2] }
  | _ => none }
def SumsNamesWrongFalsely : Prop := sumsNamesRow.holds Try.pinned (OpenSpec.ofChange sumsNamesWrong)

/-- 'shellaclaw04.SumsApart': WHATEVER THE INPUT: true; the input reads as it did. -/
def sumsApartSpec : ChangeSpec := { name := "sumsApart", fn := fun _ => fun
  | [d] => { results := [.lit (.bool true)], args := [d] }
  | _ => none }
def sumsApartRow : OpenClaim := { program := "ytpjgcceacfdheaa", sum := "fdcdcc25e25c49e2631970c014164e72361dfc44e7b93594021f01fa6ee05fb6", func := "shellac/shellaclaw04.SumsApart", spec := "sumsApart", inPlace := ["internal/abi.NoEscape", "internal/bytealg.IndexByteString"], apart := false }
def SumsApartSaid : Prop := sumsApartRow.holds Try.pinned (OpenSpec.ofChange sumsApartSpec)

/-- ITS FALSE NEIGHBOUR: 'it returns false'. Refute it at one input. -/
def sumsApartWrong : ChangeSpec := { name := "sumsApart", fn := fun _ => fun
  | [d] => { results := [.lit (.bool false)], args := [d] }
  | _ => none }
def SumsApartWrongFalsely : Prop := sumsApartRow.holds Try.pinned (OpenSpec.ofChange sumsApartWrong)

/- THE SECOND FORM. 'bulk': how many values and letters a reading holds, each counted each time it is reached (what is shared counts as often as it is met; a slice's spare places count too). A statement '..UptoSaid' is the law's where the arguments, and the package variables that the reading takes, are together of bulk at most 1048576: NARROWER than '..Said'. Prove '..Said' where nothing that the law and all that it calls make is longer than what came in: it says more and counts as full. Else prove '..UptoSaid'. A law counts once. -/
mutual
def uptoBulk {H : Type} : DataW H → Nat
  | .lit (.string bytes) => bytes.length + 1
  | .lit _ => 1
  | .nil => 1
  | .ptr d => uptoBulk d + 1
  | .slice elems spare => uptoBulkAll elems + uptoBulkAll spare + 1
  | .agg parts => uptoBulkAll parts + 1
  | .iface _ d => uptoBulk d + 1
  | .map entries => uptoBulkEntries entries + 1
  | .held _ => 1
def uptoBulkAll {H : Type} : List (DataW H) → Nat
  | [] => 0
  | d :: r => uptoBulk d + uptoBulkAll r
def uptoBulkEntries {H : Type} : List (Lit × DataW H) → Nat
  | [] => 0
  | x :: r => uptoBulkEntry x + uptoBulkEntries r
def uptoBulkEntry {H : Type} : Lit × DataW H → Nat
  | (.string bytes, d) => bytes.length + uptoBulk d + 1
  | (_, d) => uptoBulk d + 1
 end
def uptoSmall : (H : Type) → List (DataW H) → Bool := fun _ ds => decide (uptoBulkAll ds ≤ 1048576)
def OpenSpec.upto (s : _root_.Go.ChangeSpec) : _root_.Go.OpenSpec := { _root_.Go.OpenSpec.ofChange s with cond := some uptoSmall }

/-- 'shellaclaw04.SumsCrc', WHERE WHAT IT READS IS OF BULK AT MOST 1048576: true; the input reads as it did. -/
def sumsCrcUptoRow : OpenClaim := { program := "ytpjgcceacfdheaa", sum := "fdcdcc25e25c49e2631970c014164e72361dfc44e7b93594021f01fa6ee05fb6", func := "shellac/shellaclaw04.SumsCrc", spec := "sumsCrc", inPlace := ["internal/abi.NoEscape"], apart := false, narrowed := true }
def SumsCrcUptoSaid : Prop := sumsCrcUptoRow.holds Try.pinned (OpenSpec.upto sumsCrcSpec)

/-- 'shellaclaw04.SumsTell', WHERE WHAT IT READS IS OF BULK AT MOST 1048576: true; the input reads as it did. -/
def sumsTellUptoRow : OpenClaim := { program := "ytpjgcceacfdheaa", sum := "fdcdcc25e25c49e2631970c014164e72361dfc44e7b93594021f01fa6ee05fb6", func := "shellac/shellaclaw04.SumsTell", spec := "sumsTell", inPlace := ["internal/abi.NoEscape"], apart := false, narrowed := true }
def SumsTellUptoSaid : Prop := sumsTellUptoRow.holds Try.pinned (OpenSpec.upto sumsTellSpec)

/-- 'shellaclaw04.SumsSeal', WHERE WHAT IT READS IS OF BULK AT MOST 1048576: true; the input reads as it did. -/
def sumsSealUptoRow : OpenClaim := { program := "ytpjgcceacfdheaa", sum := "fdcdcc25e25c49e2631970c014164e72361dfc44e7b93594021f01fa6ee05fb6", func := "shellac/shellaclaw04.SumsSeal", spec := "sumsSeal", inPlace := ["internal/abi.NoEscape"], apart := false, narrowed := true }
def SumsSealUptoSaid : Prop := sumsSealUptoRow.holds Try.pinned (OpenSpec.upto sumsSealSpec)

/-- 'shellaclaw04.SumsParts', WHERE WHAT IT READS IS OF BULK AT MOST 1048576: true; the input reads as it did. -/
def sumsPartsUptoRow : OpenClaim := { program := "ytpjgcceacfdheaa", sum := "fdcdcc25e25c49e2631970c014164e72361dfc44e7b93594021f01fa6ee05fb6", func := "shellac/shellaclaw04.SumsParts", spec := "sumsParts", inPlace := ["internal/abi.NoEscape"], apart := false, narrowed := true }
def SumsPartsUptoSaid : Prop := sumsPartsUptoRow.holds Try.pinned (OpenSpec.upto sumsPartsSpec)

/-- 'shellaclaw04.SumsNames', WHERE WHAT IT READS IS OF BULK AT MOST 1048576: true; the input reads as it did. -/
def sumsNamesUptoRow : OpenClaim := { program := "ytpjgcceacfdheaa", sum := "fdcdcc25e25c49e2631970c014164e72361dfc44e7b93594021f01fa6ee05fb6", func := "shellac/shellaclaw04.SumsNames", spec := "sumsNames", inPlace := ["internal/abi.NoEscape", "internal/bytealg.IndexByteString"], apart := false, narrowed := true }
def SumsNamesUptoSaid : Prop := sumsNamesUptoRow.holds Try.pinned (OpenSpec.upto sumsNamesSpec)

/-- 'shellaclaw04.SumsApart', WHERE WHAT IT READS IS OF BULK AT MOST 1048576: true; the input reads as it did. -/
def sumsApartUptoRow : OpenClaim := { program := "ytpjgcceacfdheaa", sum := "fdcdcc25e25c49e2631970c014164e72361dfc44e7b93594021f01fa6ee05fb6", func := "shellac/shellaclaw04.SumsApart", spec := "sumsApart", inPlace := ["internal/abi.NoEscape", "internal/bytealg.IndexByteString"], apart := false, narrowed := true }
def SumsApartUptoSaid : Prop := sumsApartUptoRow.holds Try.pinned (OpenSpec.upto sumsApartSpec)

end Rows
end Go.Proofs.Ytpjgcceacfdheaa
