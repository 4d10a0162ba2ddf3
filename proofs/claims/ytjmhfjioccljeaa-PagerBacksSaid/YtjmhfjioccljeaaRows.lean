/-
  No cell of these rows narrows 'for every input' (looked for: loops, veiled, ifaces, maps, wideKeys, modest, calm, conditions, laid).
  DERIVED. THE GIVEN ROWS OF THIS SEAT. 8 by the template 'for every input the law returns true; each argument reads behind the call as it read before'; 0 by the template 'total and deterministic' (their statements: YtjmhfjioccljeaaTotals.lean).
  GIVEN WITH THE SEED: the statements are not yours to turn. If you find one false, say at which input.
  Laid BY PROGRAM, IN A SANDBOX (cutbox-rows.mjs): the forced cells as the released guide's own fill.sh prints them over the translation a06bdcb960d2eaf0… (all of the seat's roots in one cut). By AI agents, Wed Nov 11 2026. No macro, syntax, notation, axiom, sorry.
-/
import Derived.Test.YtjmhfjioccljeaaChecked
import GoSem.Claim
import GoSem.ClaimJoined
import GoSem.ClaimMapViews
import Derived.JoinedTies
import Derived.KernelRfl
namespace Go.Proofs.Ytjmhfjioccljeaa
/- THE CELL 'sum', in the pinned program and in every row, IS THE sha256 OF THE DUMP (.gsa) THAT YtjmhfjioccljeaaProg.lean LOADS. Nothing in Lean hashes anything: it is a label: what it is worth is what the hold of that sum in a sandbox is worth. -/
noncomputable def Try.pinned : Pinned := { name := "ytjmhfjioccljeaa", sum := "a06bdcb960d2eaf0ebcc301924b13843f55d934f0211eff228ab1cc7d329dc3c", checked := Try.checked }
namespace Rows
def none {H : Type} : Left H := { results := [], args := [] }

/-- 'shellaclaw13.JournalTogether': WHATEVER THE INPUT: true; the input reads as it did. -/
def journalTogetherSpec : ChangeSpec := { name := "journalTogether", fn := fun _ => fun
  | [d1, d2] => { results := [.lit (.bool true)], args := [d1, d2] }
  | _ => none }
def journalTogetherRow : OpenClaim := { program := "ytjmhfjioccljeaa", sum := "a06bdcb960d2eaf0ebcc301924b13843f55d934f0211eff228ab1cc7d329dc3c", func := "shellac/shellaclaw13.JournalTogether", spec := "journalTogether", unfollowed := true, recurses := true, apart := false }
def JournalTogetherSaid : Prop := journalTogetherRow.holds Try.pinned (OpenSpec.ofChange journalTogetherSpec)

/-- ITS FALSE NEIGHBOUR: 'it returns false'. Refute it at one input. -/
def journalTogetherWrong : ChangeSpec := { name := "journalTogether", fn := fun _ => fun
  | [d1, d2] => { results := [.lit (.bool false)], args := [d1, d2] }
  | _ => none }
def JournalTogetherWrongFalsely : Prop := journalTogetherRow.holds Try.pinned (OpenSpec.ofChange journalTogetherWrong)

/-- 'shellaclaw13.JournalKeeps': WHATEVER THE INPUT: true; the input reads as it did. -/
def journalKeepsSpec : ChangeSpec := { name := "journalKeeps", fn := fun _ => fun
  | [d] => { results := [.lit (.bool true)], args := [d] }
  | _ => none }
def journalKeepsRow : OpenClaim := { program := "ytjmhfjioccljeaa", sum := "a06bdcb960d2eaf0ebcc301924b13843f55d934f0211eff228ab1cc7d329dc3c", func := "shellac/shellaclaw13.JournalKeeps", spec := "journalKeeps", unfollowed := true, recurses := true, apart := false }
def JournalKeepsSaid : Prop := journalKeepsRow.holds Try.pinned (OpenSpec.ofChange journalKeepsSpec)

/-- ITS FALSE NEIGHBOUR: 'it returns false'. Refute it at one input. -/
def journalKeepsWrong : ChangeSpec := { name := "journalKeeps", fn := fun _ => fun
  | [d] => { results := [.lit (.bool false)], args := [d] }
  | _ => none }
def JournalKeepsWrongFalsely : Prop := journalKeepsRow.holds Try.pinned (OpenSpec.ofChange journalKeepsWrong)

/-- 'shellaclaw13.JournalStale': WHATEVER THE INPUT: true; the input reads as it did. -/
def journalStaleSpec : ChangeSpec := { name := "journalStale", fn := fun _ => fun
  | [d1, d2, d3] => { results := [.lit (.bool true)], args := [d1, d2, d3] }
  | _ => none }
def journalStaleRow : OpenClaim := { program := "ytjmhfjioccljeaa", sum := "a06bdcb960d2eaf0ebcc301924b13843f55d934f0211eff228ab1cc7d329dc3c", func := "shellac/shellaclaw13.JournalStale", spec := "journalStale", unfollowed := true, recurses := true, apart := false }
def JournalStaleSaid : Prop := journalStaleRow.holds Try.pinned (OpenSpec.ofChange journalStaleSpec)

/-- ITS FALSE NEIGHBOUR: 'it returns false'. Refute it at one input. -/
def journalStaleWrong : ChangeSpec := { name := "journalStale", fn := fun _ => fun
  | [d1, d2, d3] => { results := [.lit (.bool false)], args := [d1, d2, d3] }
  | _ => none }
def JournalStaleWrongFalsely : Prop := journalStaleRow.holds Try.pinned (OpenSpec.ofChange journalStaleWrong)

/-- 'shellaclaw13.JournalMoves': WHATEVER THE INPUT: true; the input reads as it did. -/
def journalMovesSpec : ChangeSpec := { name := "journalMoves", fn := fun _ => fun
  | [d1, d2, d3] => { results := [.lit (.bool true)], args := [d1, d2, d3] }
  | _ => none }
def journalMovesRow : OpenClaim := { program := "ytjmhfjioccljeaa", sum := "a06bdcb960d2eaf0ebcc301924b13843f55d934f0211eff228ab1cc7d329dc3c", func := "shellac/shellaclaw13.JournalMoves", spec := "journalMoves", unfollowed := true, recurses := true, apart := false }
def JournalMovesSaid : Prop := journalMovesRow.holds Try.pinned (OpenSpec.ofChange journalMovesSpec)

/-- ITS FALSE NEIGHBOUR: 'it returns false'. Refute it at one input. -/
def journalMovesWrong : ChangeSpec := { name := "journalMoves", fn := fun _ => fun
  | [d1, d2, d3] => { results := [.lit (.bool false)], args := [d1, d2, d3] }
  | _ => none }
def JournalMovesWrongFalsely : Prop := journalMovesRow.holds Try.pinned (OpenSpec.ofChange journalMovesWrong)

/-- 'shellaclaw14.PagerOnce': WHATEVER THE INPUT: true; the input reads as it did. -/
def pagerOnceSpec : ChangeSpec := { name := "pagerOnce", fn := fun _ => fun
  | [d1, d2] => { results := [.lit (.bool true)], args := [d1, d2] }
  | _ => none }
def pagerOnceRow : OpenClaim := { program := "ytjmhfjioccljeaa", sum := "a06bdcb960d2eaf0ebcc301924b13843f55d934f0211eff228ab1cc7d329dc3c", func := "shellac/shellaclaw14.PagerOnce", spec := "pagerOnce", unfollowed := true, recurses := true, apart := false }
def PagerOnceSaid : Prop := pagerOnceRow.holds Try.pinned (OpenSpec.ofChange pagerOnceSpec)

/-- ITS FALSE NEIGHBOUR: 'it returns false'. Refute it at one input. -/
def pagerOnceWrong : ChangeSpec := { name := "pagerOnce", fn := fun _ => fun
  | [d1, d2] => { results := [.lit (.bool false)], args := [d1, d2] }
  | _ => none }
def PagerOnceWrongFalsely : Prop := pagerOnceRow.holds Try.pinned (OpenSpec.ofChange pagerOnceWrong)

/-- 'shellaclaw14.PagerOpens': WHATEVER THE INPUT: true; the input reads as it did. -/
def pagerOpensSpec : ChangeSpec := { name := "pagerOpens", fn := fun _ => fun
  | [d1, d2, d3] => { results := [.lit (.bool true)], args := [d1, d2, d3] }
  | _ => none }
def pagerOpensRow : OpenClaim := { program := "ytjmhfjioccljeaa", sum := "a06bdcb960d2eaf0ebcc301924b13843f55d934f0211eff228ab1cc7d329dc3c", func := "shellac/shellaclaw14.PagerOpens", spec := "pagerOpens", unfollowed := true, recurses := true, apart := false }
def PagerOpensSaid : Prop := pagerOpensRow.holds Try.pinned (OpenSpec.ofChange pagerOpensSpec)

/-- ITS FALSE NEIGHBOUR: 'it returns false'. Refute it at one input. -/
def pagerOpensWrong : ChangeSpec := { name := "pagerOpens", fn := fun _ => fun
  | [d1, d2, d3] => { results := [.lit (.bool false)], args := [d1, d2, d3] }
  | _ => none }
def PagerOpensWrongFalsely : Prop := pagerOpensRow.holds Try.pinned (OpenSpec.ofChange pagerOpensWrong)

/-- 'shellaclaw14.PagerCrashes': WHATEVER THE INPUT: true; the input reads as it did. -/
def pagerCrashesSpec : ChangeSpec := { name := "pagerCrashes", fn := fun _ => fun
  | [d] => { results := [.lit (.bool true)], args := [d] }
  | _ => none }
def pagerCrashesRow : OpenClaim := { program := "ytjmhfjioccljeaa", sum := "a06bdcb960d2eaf0ebcc301924b13843f55d934f0211eff228ab1cc7d329dc3c", func := "shellac/shellaclaw14.PagerCrashes", spec := "pagerCrashes", unfollowed := true, recurses := true, apart := false }
def PagerCrashesSaid : Prop := pagerCrashesRow.holds Try.pinned (OpenSpec.ofChange pagerCrashesSpec)

/-- ITS FALSE NEIGHBOUR: 'it returns false'. Refute it at one input. -/
def pagerCrashesWrong : ChangeSpec := { name := "pagerCrashes", fn := fun _ => fun
  | [d] => { results := [.lit (.bool false)], args := [d] }
  | _ => none }
def PagerCrashesWrongFalsely : Prop := pagerCrashesRow.holds Try.pinned (OpenSpec.ofChange pagerCrashesWrong)

/-- 'shellaclaw14.PagerBacks': WHATEVER THE INPUT: true; the input reads as it did. -/
def pagerBacksSpec : ChangeSpec := { name := "pagerBacks", fn := fun _ => fun
  | [d1, d2] => { results := [.lit (.bool true)], args := [d1, d2] }
  | _ => none }
def pagerBacksRow : OpenClaim := { program := "ytjmhfjioccljeaa", sum := "a06bdcb960d2eaf0ebcc301924b13843f55d934f0211eff228ab1cc7d329dc3c", func := "shellac/shellaclaw14.PagerBacks", spec := "pagerBacks", inPlace := ["maps.clone"], unfollowed := true, recurses := true, apart := false }
def PagerBacksSaid : Prop := pagerBacksRow.holds Try.pinned (OpenSpec.ofChange pagerBacksSpec)

/-- ITS FALSE NEIGHBOUR: 'it returns false'. Refute it at one input. -/
def pagerBacksWrong : ChangeSpec := { name := "pagerBacks", fn := fun _ => fun
  | [d1, d2] => { results := [.lit (.bool false)], args := [d1, d2] }
  | _ => none }
def PagerBacksWrongFalsely : Prop := pagerBacksRow.holds Try.pinned (OpenSpec.ofChange pagerBacksWrong)

/- THE SECOND FORM. 'bulk': how many values and letters a reading holds, each counted each time it is reached (what is shared counts as often as it is met; a slice's spare places count too). A statement '..UptoSaid' is the law's where the arguments, and the package variables that the reading takes, are together of bulk at most 1048576: NARROWER than '..Said'. Prove '..Said' where nothing that the law and all that it calls make is longer than what came in: it says more and counts as full. Else prove '..UptoSaid'. A law counts once. -/
mutual
def uptoBulk {H : Type} : DataW H → Nat
  | .lit (.string bytes) => bytes.length + 1
  | .lit _ => 1
  | .nil => 1
  | .ptr d => uptoBulk d + 1
  | .slice elems spare => uptoBulkAll elems + uptoBulkAll spare + 1
  | .agg parts => uptoBulkAll parts + 1
  | .iface _ d => uptoBulk d + 1
  | .map entries => uptoBulkEntries entries + 1
  | .held _ => 1
def uptoBulkAll {H : Type} : List (DataW H) → Nat
  | [] => 0
  | d :: r => uptoBulk d + uptoBulkAll r
def uptoBulkEntries {H : Type} : List (Lit × DataW H) → Nat
  | [] => 0
  | x :: r => uptoBulkEntry x + uptoBulkEntries r
def uptoBulkEntry {H : Type} : Lit × DataW H → Nat
  | (.string bytes, d) => bytes.length + uptoBulk d + 1
  | (_, d) => uptoBulk d + 1
 end
def uptoSmall : (H : Type) → List (DataW H) → Bool := fun _ ds => decide (uptoBulkAll ds ≤ 1048576)
def OpenSpec.upto (s : _root_.Go.ChangeSpec) : _root_.Go.OpenSpec := { _root_.Go.OpenSpec.ofChange s with cond := some uptoSmall }

/-- 'shellaclaw13.JournalTogether', WHERE WHAT IT READS IS OF BULK AT MOST 1048576: true; the input reads as it did. -/
def journalTogetherUptoRow : OpenClaim := { program := "ytjmhfjioccljeaa", sum := "a06bdcb960d2eaf0ebcc301924b13843f55d934f0211eff228ab1cc7d329dc3c", func := "shellac/shellaclaw13.JournalTogether", spec := "journalTogether", unfollowed := true, recurses := true, apart := false, narrowed := true }
def JournalTogetherUptoSaid : Prop := journalTogetherUptoRow.holds Try.pinned (OpenSpec.upto journalTogetherSpec)

/-- 'shellaclaw13.JournalKeeps', WHERE WHAT IT READS IS OF BULK AT MOST 1048576: true; the input reads as it did. -/
def journalKeepsUptoRow : OpenClaim := { program := "ytjmhfjioccljeaa", sum := "a06bdcb960d2eaf0ebcc301924b13843f55d934f0211eff228ab1cc7d329dc3c", func := "shellac/shellaclaw13.JournalKeeps", spec := "journalKeeps", unfollowed := true, recurses := true, apart := false, narrowed := true }
def JournalKeepsUptoSaid : Prop := journalKeepsUptoRow.holds Try.pinned (OpenSpec.upto journalKeepsSpec)

/-- 'shellaclaw13.JournalStale', WHERE WHAT IT READS IS OF BULK AT MOST 1048576: true; the input reads as it did. -/
def journalStaleUptoRow : OpenClaim := { program := "ytjmhfjioccljeaa", sum := "a06bdcb960d2eaf0ebcc301924b13843f55d934f0211eff228ab1cc7d329dc3c", func := "shellac/shellaclaw13.JournalStale", spec := "journalStale", unfollowed := true, recurses := true, apart := false, narrowed := true }
def JournalStaleUptoSaid : Prop := journalStaleUptoRow.holds Try.pinned (OpenSpec.upto journalStaleSpec)

/-- 'shellaclaw13.JournalMoves', WHERE WHAT IT READS IS OF BULK AT MOST 1048576: true; the input reads as it did. -/
def journalMovesUptoRow : OpenClaim := { program := "ytjmhfjioccljeaa", sum := "a06bdcb960d2eaf0ebcc301924b13843f55d934f0211eff228ab1cc7d329dc3c", func := "shellac/shellaclaw13.JournalMoves", spec := "journalMoves", unfollowed := true, recurses := true, apart := false, narrowed := true }
def JournalMovesUptoSaid : Prop := journalMovesUptoRow.holds Try.pinned (OpenSpec.upto journalMovesSpec)

/-- 'shellaclaw14.PagerOnce', WHERE WHAT IT READS IS OF BULK AT MOST 1048576: true; the input reads as it did. -/
def pagerOnceUptoRow : OpenClaim := { program := "ytjmhfjioccljeaa", sum := "a06bdcb960d2eaf0ebcc301924b13843f55d934f0211eff228ab1cc7d329dc3c", func := "shellac/shellaclaw14.PagerOnce", spec := "pagerOnce", unfollowed := true, recurses := true, apart := false, narrowed := true }
def PagerOnceUptoSaid : Prop := pagerOnceUptoRow.holds Try.pinned (OpenSpec.upto pagerOnceSpec)

/-- 'shellaclaw14.PagerOpens', WHERE WHAT IT READS IS OF BULK AT MOST 1048576: true; the input reads as it did. -/
def pagerOpensUptoRow : OpenClaim := { program := "ytjmhfjioccljeaa", sum := "a06bdcb960d2eaf0ebcc301924b13843f55d934f0211eff228ab1cc7d329dc3c", func := "shellac/shellaclaw14.PagerOpens", spec := "pagerOpens", unfollowed := true, recurses := true, apart := false, narrowed := true }
def PagerOpensUptoSaid : Prop := pagerOpensUptoRow.holds Try.pinned (OpenSpec.upto pagerOpensSpec)

/-- 'shellaclaw14.PagerCrashes', WHERE WHAT IT READS IS OF BULK AT MOST 1048576: true; the input reads as it did. -/
def pagerCrashesUptoRow : OpenClaim := { program := "ytjmhfjioccljeaa", sum := "a06bdcb960d2eaf0ebcc301924b13843f55d934f0211eff228ab1cc7d329dc3c", func := "shellac/shellaclaw14.PagerCrashes", spec := "pagerCrashes", unfollowed := true, recurses := true, apart := false, narrowed := true }
def PagerCrashesUptoSaid : Prop := pagerCrashesUptoRow.holds Try.pinned (OpenSpec.upto pagerCrashesSpec)

/-- 'shellaclaw14.PagerBacks', WHERE WHAT IT READS IS OF BULK AT MOST 1048576: true; the input reads as it did. -/
def pagerBacksUptoRow : OpenClaim := { program := "ytjmhfjioccljeaa", sum := "a06bdcb960d2eaf0ebcc301924b13843f55d934f0211eff228ab1cc7d329dc3c", func := "shellac/shellaclaw14.PagerBacks", spec := "pagerBacks", inPlace := ["maps.clone"], unfollowed := true, recurses := true, apart := false, narrowed := true }
def PagerBacksUptoSaid : Prop := pagerBacksUptoRow.holds Try.pinned (OpenSpec.upto pagerBacksSpec)

end Rows
end Go.Proofs.Ytjmhfjioccljeaa
