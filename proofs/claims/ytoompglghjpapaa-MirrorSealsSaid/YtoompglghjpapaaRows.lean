/-
  No cell of these rows narrows 'for every input' (looked for: loops, veiled, ifaces, maps, wideKeys, modest, calm, conditions, laid).
  DERIVED. THE GIVEN ROWS OF THIS SEAT. 10 by the template 'for every input the law returns true; each argument reads behind the call as it read before'; 0 by the template 'total and deterministic' (their statements: YtoompglghjpapaaTotals.lean).
  GIVEN WITH THE SEED: the statements are not yours to turn. If you find one false, say at which input.
  Laid BY PROGRAM, IN A SANDBOX (cutbox-rows.mjs): the forced cells as the released guide's own fill.sh prints them over the translation 6672e0d6e6f0b0c5… (all of the seat's roots in one cut). By AI agents, Wed Nov 11 2026. No macro, syntax, notation, axiom, sorry.
-/
import Derived.Test.YtoompglghjpapaaChecked
import GoSem.Claim
import GoSem.ClaimJoined
import GoSem.ClaimMapViews
import Derived.JoinedTies
import Derived.KernelRfl
namespace Go.Proofs.Ytoompglghjpapaa
/- THE CELL 'sum', in the pinned program and in every row, IS THE sha256 OF THE DUMP (.gsa) THAT YtoompglghjpapaaProg.lean LOADS. Nothing in Lean hashes anything: it is a label: what it is worth is what the hold of that sum in a sandbox is worth. -/
noncomputable def Try.pinned : Pinned := { name := "ytoompglghjpapaa", sum := "6672e0d6e6f0b0c552c69fa36c573c8c7ac46860d2ed52b700d5fd1beaab9824", checked := Try.checked }
namespace Rows
def none {H : Type} : Left H := { results := [], args := [] }

/-- 'shellaclaw12.MirrorSeals': WHATEVER THE INPUT: true; the input reads as it did. -/
def mirrorSealsSpec : ChangeSpec := { name := "mirrorSeals", fn := fun _ => fun
  | [d1, d2, d3] => { results := [.lit (.bool true)], args := [d1, d2, d3] }
  | _ => none }
def mirrorSealsRow : OpenClaim := { program := "ytoompglghjpapaa", sum := "6672e0d6e6f0b0c552c69fa36c573c8c7ac46860d2ed52b700d5fd1beaab9824", func := "shellac/shellaclaw12.MirrorSeals", spec := "mirrorSeals", unfollowed := true, recurses := true, apart := false }
def MirrorSealsSaid : Prop := mirrorSealsRow.holds Try.pinned (OpenSpec.ofChange mirrorSealsSpec)

/-- ITS FALSE NEIGHBOUR: 'it returns false'. Refute it at one input. -/
def mirrorSealsWrong : ChangeSpec := { name := "mirrorSeals", fn := fun _ => fun
  | [d1, d2, d3] => { results := [.lit (.bool false)], args := [d1, d2, d3] }
  | _ => none }
def MirrorSealsWrongFalsely : Prop := mirrorSealsRow.holds Try.pinned (OpenSpec.ofChange mirrorSealsWrong)

/-- 'shellaclaw12.MirrorMakes': WHATEVER THE INPUT: true; the input reads as it did. -/
def mirrorMakesSpec : ChangeSpec := { name := "mirrorMakes", fn := fun _ => fun
  | [d1, d2, d3] => { results := [.lit (.bool true)], args := [d1, d2, d3] }
  | _ => none }
def mirrorMakesRow : OpenClaim := { program := "ytoompglghjpapaa", sum := "6672e0d6e6f0b0c552c69fa36c573c8c7ac46860d2ed52b700d5fd1beaab9824", func := "shellac/shellaclaw12.MirrorMakes", spec := "mirrorMakes", unfollowed := true, recurses := true, apart := false }
def MirrorMakesSaid : Prop := mirrorMakesRow.holds Try.pinned (OpenSpec.ofChange mirrorMakesSpec)

/-- ITS FALSE NEIGHBOUR: 'it returns false'. Refute it at one input. -/
def mirrorMakesWrong : ChangeSpec := { name := "mirrorMakes", fn := fun _ => fun
  | [d1, d2, d3] => { results := [.lit (.bool false)], args := [d1, d2, d3] }
  | _ => none }
def MirrorMakesWrongFalsely : Prop := mirrorMakesRow.holds Try.pinned (OpenSpec.ofChange mirrorMakesWrong)

/-- 'shellaclaw01.DiskParts': WHATEVER THE INPUT: true; the input reads as it did. -/
def diskPartsSpec : ChangeSpec := { name := "diskParts", fn := fun _ => fun
  | [d1, d2, d3] => { results := [.lit (.bool true)], args := [d1, d2, d3] }
  | _ => none }
def diskPartsRow : OpenClaim := { program := "ytoompglghjpapaa", sum := "6672e0d6e6f0b0c552c69fa36c573c8c7ac46860d2ed52b700d5fd1beaab9824", func := "shellac/shellaclaw01.DiskParts", spec := "diskParts", unfollowed := true, recurses := true, apart := false }
def DiskPartsSaid : Prop := diskPartsRow.holds Try.pinned (OpenSpec.ofChange diskPartsSpec)

/-- ITS FALSE NEIGHBOUR: 'it returns false'. Refute it at one input. -/
def diskPartsWrong : ChangeSpec := { name := "diskParts", fn := fun _ => fun
  | [d1, d2, d3] => { results := [.lit (.bool false)], args := [d1, d2, d3] }
  | _ => none }
def DiskPartsWrongFalsely : Prop := diskPartsRow.holds Try.pinned (OpenSpec.ofChange diskPartsWrong)

/-- 'shellaclaw01.DiskLasts': WHATEVER THE INPUT: true; the input reads as it did. -/
def diskLastsSpec : ChangeSpec := { name := "diskLasts", fn := fun _ => fun
  | [d1, d2, d3] => { results := [.lit (.bool true)], args := [d1, d2, d3] }
  | _ => none }
def diskLastsRow : OpenClaim := { program := "ytoompglghjpapaa", sum := "6672e0d6e6f0b0c552c69fa36c573c8c7ac46860d2ed52b700d5fd1beaab9824", func := "shellac/shellaclaw01.DiskLasts", spec := "diskLasts", unfollowed := true, recurses := true, apart := false }
def DiskLastsSaid : Prop := diskLastsRow.holds Try.pinned (OpenSpec.ofChange diskLastsSpec)

/-- ITS FALSE NEIGHBOUR: 'it returns false'. Refute it at one input. -/
def diskLastsWrong : ChangeSpec := { name := "diskLasts", fn := fun _ => fun
  | [d1, d2, d3] => { results := [.lit (.bool false)], args := [d1, d2, d3] }
  | _ => none }
def DiskLastsWrongFalsely : Prop := diskLastsRow.holds Try.pinned (OpenSpec.ofChange diskLastsWrong)

/-- 'shellaclaw01.DiskArms': WHATEVER THE INPUT: true; the input reads as it did. -/
def diskArmsSpec : ChangeSpec := { name := "diskArms", fn := fun _ => fun
  | [d1, d2] => { results := [.lit (.bool true)], args := [d1, d2] }
  | _ => none }
def diskArmsRow : OpenClaim := { program := "ytoompglghjpapaa", sum := "6672e0d6e6f0b0c552c69fa36c573c8c7ac46860d2ed52b700d5fd1beaab9824", func := "shellac/shellaclaw01.DiskArms", spec := "diskArms", unfollowed := true, recurses := true, apart := false }
def DiskArmsSaid : Prop := diskArmsRow.holds Try.pinned (OpenSpec.ofChange diskArmsSpec)

/-- ITS FALSE NEIGHBOUR: 'it returns false'. Refute it at one input. -/
def diskArmsWrong : ChangeSpec := { name := "diskArms", fn := fun _ => fun
  | [d1, d2] => { results := [.lit (.bool false)], args := [d1, d2] }
  | _ => none }
def DiskArmsWrongFalsely : Prop := diskArmsRow.holds Try.pinned (OpenSpec.ofChange diskArmsWrong)

/-- 'shellaclaw01.DiskSizes': WHATEVER THE INPUT: true; the input reads as it did. -/
def diskSizesSpec : ChangeSpec := { name := "diskSizes", fn := fun _ => fun
  | [d1, d2, d3] => { results := [.lit (.bool true)], args := [d1, d2, d3] }
  | _ => none }
def diskSizesRow : OpenClaim := { program := "ytoompglghjpapaa", sum := "6672e0d6e6f0b0c552c69fa36c573c8c7ac46860d2ed52b700d5fd1beaab9824", func := "shellac/shellaclaw01.DiskSizes", spec := "diskSizes", unfollowed := true, recurses := true, apart := false }
def DiskSizesSaid : Prop := diskSizesRow.holds Try.pinned (OpenSpec.ofChange diskSizesSpec)

/-- ITS FALSE NEIGHBOUR: 'it returns false'. Refute it at one input. -/
def diskSizesWrong : ChangeSpec := { name := "diskSizes", fn := fun _ => fun
  | [d1, d2, d3] => { results := [.lit (.bool false)], args := [d1, d2, d3] }
  | _ => none }
def DiskSizesWrongFalsely : Prop := diskSizesRow.holds Try.pinned (OpenSpec.ofChange diskSizesWrong)

/-- 'shellaclaw01.DiskRots': WHATEVER THE INPUT: true; the input reads as it did. -/
def diskRotsSpec : ChangeSpec := { name := "diskRots", fn := fun _ => fun
  | [d1, d2, d3] => { results := [.lit (.bool true)], args := [d1, d2, d3] }
  | _ => none }
def diskRotsRow : OpenClaim := { program := "ytoompglghjpapaa", sum := "6672e0d6e6f0b0c552c69fa36c573c8c7ac46860d2ed52b700d5fd1beaab9824", func := "shellac/shellaclaw01.DiskRots", spec := "diskRots", unfollowed := true, recurses := true, apart := false }
def DiskRotsSaid : Prop := diskRotsRow.holds Try.pinned (OpenSpec.ofChange diskRotsSpec)

/-- ITS FALSE NEIGHBOUR: 'it returns false'. Refute it at one input. -/
def diskRotsWrong : ChangeSpec := { name := "diskRots", fn := fun _ => fun
  | [d1, d2, d3] => { results := [.lit (.bool false)], args := [d1, d2, d3] }
  | _ => none }
def DiskRotsWrongFalsely : Prop := diskRotsRow.holds Try.pinned (OpenSpec.ofChange diskRotsWrong)

/-- 'shellaclaw01.DiskPlays': WHATEVER THE INPUT: true; the input reads as it did. -/
def diskPlaysSpec : ChangeSpec := { name := "diskPlays", fn := fun _ => fun
  | [d] => { results := [.lit (.bool true)], args := [d] }
  | _ => none }
def diskPlaysRow : OpenClaim := { program := "ytoompglghjpapaa", sum := "6672e0d6e6f0b0c552c69fa36c573c8c7ac46860d2ed52b700d5fd1beaab9824", func := "shellac/shellaclaw01.DiskPlays", spec := "diskPlays", unfollowed := true, recurses := true, apart := false }
def DiskPlaysSaid : Prop := diskPlaysRow.holds Try.pinned (OpenSpec.ofChange diskPlaysSpec)

/-- ITS FALSE NEIGHBOUR: 'it returns false'. Refute it at one input. -/
def diskPlaysWrong : ChangeSpec := { name := "diskPlays", fn := fun _ => fun
  | [d] => { results := [.lit (.bool false)], args := [d] }
  | _ => none }
def DiskPlaysWrongFalsely : Prop := diskPlaysRow.holds Try.pinned (OpenSpec.ofChange diskPlaysWrong)

/-- 'shellaclaw12.MirrorLasts': WHATEVER THE INPUT: true; the input reads as it did. -/
def mirrorLastsSpec : ChangeSpec := { name := "mirrorLasts", fn := fun _ => fun
  | [d1, d2, d3] => { results := [.lit (.bool true)], args := [d1, d2, d3] }
  | _ => none }
def mirrorLastsRow : OpenClaim := { program := "ytoompglghjpapaa", sum := "6672e0d6e6f0b0c552c69fa36c573c8c7ac46860d2ed52b700d5fd1beaab9824", func := "shellac/shellaclaw12.MirrorLasts", spec := "mirrorLasts", unfollowed := true, recurses := true, apart := false }
def MirrorLastsSaid : Prop := mirrorLastsRow.holds Try.pinned (OpenSpec.ofChange mirrorLastsSpec)

/-- ITS FALSE NEIGHBOUR: 'it returns false'. Refute it at one input. -/
def mirrorLastsWrong : ChangeSpec := { name := "mirrorLasts", fn := fun _ => fun
  | [d1, d2, d3] => { results := [.lit (.bool false)], args := [d1, d2, d3] }
  | _ => none }
def MirrorLastsWrongFalsely : Prop := mirrorLastsRow.holds Try.pinned (OpenSpec.ofChange mirrorLastsWrong)

/-- 'shellaclaw12.MirrorActs': WHATEVER THE INPUT: true; the input reads as it did. -/
def mirrorActsSpec : ChangeSpec := { name := "mirrorActs", fn := fun _ => fun
  | [d1, d2] => { results := [.lit (.bool true)], args := [d1, d2] }
  | _ => none }
def mirrorActsRow : OpenClaim := { program := "ytoompglghjpapaa", sum := "6672e0d6e6f0b0c552c69fa36c573c8c7ac46860d2ed52b700d5fd1beaab9824", func := "shellac/shellaclaw12.MirrorActs", spec := "mirrorActs", unfollowed := true, recurses := true, apart := false }
def MirrorActsSaid : Prop := mirrorActsRow.holds Try.pinned (OpenSpec.ofChange mirrorActsSpec)

/-- ITS FALSE NEIGHBOUR: 'it returns false'. Refute it at one input. -/
def mirrorActsWrong : ChangeSpec := { name := "mirrorActs", fn := fun _ => fun
  | [d1, d2] => { results := [.lit (.bool false)], args := [d1, d2] }
  | _ => none }
def MirrorActsWrongFalsely : Prop := mirrorActsRow.holds Try.pinned (OpenSpec.ofChange mirrorActsWrong)

/- THE SECOND FORM. 'bulk': how many values and letters a reading holds, each counted each time it is reached (what is shared counts as often as it is met; a slice's spare places count too). A statement '..UptoSaid' is the law's where the arguments, and the package variables that the reading takes, are together of bulk at most 1048576: NARROWER than '..Said'. Prove '..Said' where nothing that the law and all that it calls make is longer than what came in: it says more and counts as full. Else prove '..UptoSaid'. A law counts once. -/
mutual
def uptoBulk {H : Type} : DataW H → Nat
  | .lit (.string bytes) => bytes.length + 1
  | .lit _ => 1
  | .nil => 1
  | .ptr d => uptoBulk d + 1
  | .slice elems spare => uptoBulkAll elems + uptoBulkAll spare + 1
  | .agg parts => uptoBulkAll parts + 1
  | .iface _ d => uptoBulk d + 1
  | .map entries => uptoBulkEntries entries + 1
  | .held _ => 1
def uptoBulkAll {H : Type} : List (DataW H) → Nat
  | [] => 0
  | d :: r => uptoBulk d + uptoBulkAll r
def uptoBulkEntries {H : Type} : List (Lit × DataW H) → Nat
  | [] => 0
  | x :: r => uptoBulkEntry x + uptoBulkEntries r
def uptoBulkEntry {H : Type} : Lit × DataW H → Nat
  | (.string bytes, d) => bytes.length + uptoBulk d + 1
  | (_, d) => uptoBulk d + 1
 end
def uptoSmall : (H : Type) → List (DataW H) → Bool := fun _ ds => decide (uptoBulkAll ds ≤ 1048576)
def OpenSpec.upto (s : _root_.Go.ChangeSpec) : _root_.Go.OpenSpec := { _root_.Go.OpenSpec.ofChange s with cond := some uptoSmall }

/-- 'shellaclaw12.MirrorSeals', WHERE WHAT IT READS IS OF BULK AT MOST 1048576: true; the input reads as it did. -/
def mirrorSealsUptoRow : OpenClaim := { program := "ytoompglghjpapaa", sum := "6672e0d6e6f0b0c552c69fa36c573c8c7ac46860d2ed52b700d5fd1beaab9824", func := "shellac/shellaclaw12.MirrorSeals", spec := "mirrorSeals", unfollowed := true, recurses := true, apart := false, narrowed := true }
def MirrorSealsUptoSaid : Prop := mirrorSealsUptoRow.holds Try.pinned (OpenSpec.upto mirrorSealsSpec)

/-- 'shellaclaw12.MirrorMakes', WHERE WHAT IT READS IS OF BULK AT MOST 1048576: true; the input reads as it did. -/
def mirrorMakesUptoRow : OpenClaim := { program := "ytoompglghjpapaa", sum := "6672e0d6e6f0b0c552c69fa36c573c8c7ac46860d2ed52b700d5fd1beaab9824", func := "shellac/shellaclaw12.MirrorMakes", spec := "mirrorMakes", unfollowed := true, recurses := true, apart := false, narrowed := true }
def MirrorMakesUptoSaid : Prop := mirrorMakesUptoRow.holds Try.pinned (OpenSpec.upto mirrorMakesSpec)

/-- 'shellaclaw01.DiskParts', WHERE WHAT IT READS IS OF BULK AT MOST 1048576: true; the input reads as it did. -/
def diskPartsUptoRow : OpenClaim := { program := "ytoompglghjpapaa", sum := "6672e0d6e6f0b0c552c69fa36c573c8c7ac46860d2ed52b700d5fd1beaab9824", func := "shellac/shellaclaw01.DiskParts", spec := "diskParts", unfollowed := true, recurses := true, apart := false, narrowed := true }
def DiskPartsUptoSaid : Prop := diskPartsUptoRow.holds Try.pinned (OpenSpec.upto diskPartsSpec)

/-- 'shellaclaw01.DiskLasts', WHERE WHAT IT READS IS OF BULK AT MOST 1048576: true; the input reads as it did. -/
def diskLastsUptoRow : OpenClaim := { program := "ytoompglghjpapaa", sum := "6672e0d6e6f0b0c552c69fa36c573c8c7ac46860d2ed52b700d5fd1beaab9824", func := "shellac/shellaclaw01.DiskLasts", spec := "diskLasts", unfollowed := true, recurses := true, apart := false, narrowed := true }
def DiskLastsUptoSaid : Prop := diskLastsUptoRow.holds Try.pinned (OpenSpec.upto diskLastsSpec)

/-- 'shellaclaw01.DiskArms', WHERE WHAT IT READS IS OF BULK AT MOST 1048576: true; the input reads as it did. -/
def diskArmsUptoRow : OpenClaim := { program := "ytoompglghjpapaa", sum := "6672e0d6e6f0b0c552c69fa36c573c8c7ac46860d2ed52b700d5fd1beaab9824", func := "shellac/shellaclaw01.DiskArms", spec := "diskArms", unfollowed := true, recurses := true, apart := false, narrowed := true }
def DiskArmsUptoSaid : Prop := diskArmsUptoRow.holds Try.pinned (OpenSpec.upto diskArmsSpec)

/-- 'shellaclaw01.DiskSizes', WHERE WHAT IT READS IS OF BULK AT MOST 1048576: true; the input reads as it did. -/
def diskSizesUptoRow : OpenClaim := { program := "ytoompglghjpapaa", sum := "6672e0d6e6f0b0c552c69fa36c573c8c7ac46860d2ed52b700d5fd1beaab9824", func := "shellac/shellaclaw01.DiskSizes", spec := "diskSizes", unfollowed := true, recurses := true, apart := false, narrowed := true }
def DiskSizesUptoSaid : Prop := diskSizesUptoRow.holds Try.pinned (OpenSpec.upto diskSizesSpec)

/-- 'shellaclaw01.DiskRots', WHERE WHAT IT READS IS OF BULK AT MOST 1048576: true; the input reads as it did. -/
def diskRotsUptoRow : OpenClaim := { program := "ytoompglghjpapaa", sum := "6672e0d6e6f0b0c552c69fa36c573c8c7ac46860d2ed52b700d5fd1beaab9824", func := "shellac/shellaclaw01.DiskRots", spec := "diskRots", unfollowed := true, recurses := true, apart := false, narrowed := true }
def DiskRotsUptoSaid : Prop := diskRotsUptoRow.holds Try.pinned (OpenSpec.upto diskRotsSpec)

/-- 'shellaclaw01.DiskPlays', WHERE WHAT IT READS IS OF BULK AT MOST 1048576: true; the input reads as it did. -/
def diskPlaysUptoRow : OpenClaim := { program := "ytoompglghjpapaa", sum := "6672e0d6e6f0b0c552c69fa36c573c8c7ac46860d2ed52b700d5fd1beaab9824", func := "shellac/shellaclaw01.DiskPlays", spec := "diskPlays", unfollowed := true, recurses := true, apart := false, narrowed := true }
def DiskPlaysUptoSaid : Prop := diskPlaysUptoRow.holds Try.pinned (OpenSpec.upto diskPlaysSpec)

/-- 'shellaclaw12.MirrorLasts', WHERE WHAT IT READS IS OF BULK AT MOST 1048576: true; the input reads as it did. -/
def mirrorLastsUptoRow : OpenClaim := { program := "ytoompglghjpapaa", sum := "6672e0d6e6f0b0c552c69fa36c573c8c7ac46860d2ed52b700d5fd1beaab9824", func := "shellac/shellaclaw12.MirrorLasts", spec := "mirrorLasts", unfollowed := true, recurses := true, apart := false, narrowed := true }
def MirrorLastsUptoSaid : Prop := mirrorLastsUptoRow.holds Try.pinned (OpenSpec.upto mirrorLastsSpec)

/-- 'shellaclaw12.MirrorActs', WHERE WHAT IT READS IS OF BULK AT MOST 1048576: true; the input reads as it did. -/
def mirrorActsUptoRow : OpenClaim := { program := "ytoompglghjpapaa", sum := "6672e0d6e6f0b0c552c69fa36c573c8c7ac46860d2ed52b700d5fd1beaab9824", func := "shellac/shellaclaw12.MirrorActs", spec := "mirrorActs", unfollowed := true, recurses := true, apart := false, narrowed := true }
def MirrorActsUptoSaid : Prop := mirrorActsUptoRow.holds Try.pinned (OpenSpec.upto mirrorActsSpec)

end Rows
end Go.Proofs.Ytoompglghjpapaa
