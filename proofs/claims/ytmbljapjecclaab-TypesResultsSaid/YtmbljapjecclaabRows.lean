/-
  No cell of these rows narrows 'for every input' (looked for: loops, veiled, ifaces, maps, wideKeys, modest, calm, conditions, laid).
  DERIVED. THE GIVEN ROWS OF THIS SEAT. 12 by the template 'for every input the law returns true; each argument reads behind the call as it read before'; 0 by the template 'total and deterministic' (their statements: YtmbljapjecclaabTotals.lean).
  GIVEN WITH THE SEED: the statements are not yours to turn. If you find one false, say at which input.
  Laid BY PROGRAM, IN A SANDBOX (cutbox-rows.mjs): the forced cells as the released guide's own fill.sh prints them over the translation 44499bfd79017cfb… (all of the seat's roots in one cut). By AI agents, Wed Nov 11 2026. No macro, syntax, notation, axiom, sorry.
-/
import Derived.Test.YtmbljapjecclaabChecked
import GoSem.Claim
import GoSem.ClaimJoined
import GoSem.ClaimMapViews
import Derived.JoinedTies
import Derived.KernelRfl
namespace Go.Proofs.Ytmbljapjecclaab
/- THE CELL 'sum', in the pinned program and in every row, IS THE sha256 OF THE DUMP (.gsa) THAT YtmbljapjecclaabProg.lean LOADS. Nothing in Lean hashes anything: it is a label: what it is worth is what the hold of that sum in a sandbox is worth. -/
noncomputable def Try.pinned : Pinned := { name := "ytmbljapjecclaab", sum := "44499bfd79017cfbc8cedac5542a89b56f77eeef32ecc46ec487609094a32648", checked := Try.checked }
namespace Rows
def none {H : Type} : Left H := { results := [], args := [] }

/-- 'panicroadlaw.TypesValid': WHATEVER THE INPUT: true; the input reads as it did. -/
def typesValidSpec : ChangeSpec := { name := "typesValid", fn := fun _ => fun
  | [d] => { results := [.lit (.bool true)], args := [d] }
  | _ => none }
def typesValidRow : OpenClaim := { program := "ytmbljapjecclaab", sum := "44499bfd79017cfbc8cedac5542a89b56f77eeef32ecc46ec487609094a32648", func := "panicroad/panicroadlaw.TypesValid", spec := "typesValid", unfollowed := true, recurses := true, apart := false }
def TypesValidSaid : Prop := typesValidRow.holds Try.pinned (OpenSpec.ofChange typesValidSpec)

/-- ITS FALSE NEIGHBOUR: 'it returns false'. Refute it at one input. -/
def typesValidWrong : ChangeSpec := { name := "typesValid", fn := fun _ => fun
  | [d] => { results := [.lit (.bool false)], args := [d] }
  | _ => none }
def TypesValidWrongFalsely : Prop := typesValidRow.holds Try.pinned (OpenSpec.ofChange typesValidWrong)

/-- 'panicroadlaw.TypesParams': WHATEVER THE INPUT: true; the input reads as it did. -/
def typesParamsSpec : ChangeSpec := { name := "typesParams", fn := fun _ => fun
  | [d] => { results := [.lit (.bool true)], args := [d] }
  | _ => none }
def typesParamsRow : OpenClaim := { program := "ytmbljapjecclaab", sum := "44499bfd79017cfbc8cedac5542a89b56f77eeef32ecc46ec487609094a32648", func := "panicroad/panicroadlaw.TypesParams", spec := "typesParams", unfollowed := true, recurses := true, apart := false }
def TypesParamsSaid : Prop := typesParamsRow.holds Try.pinned (OpenSpec.ofChange typesParamsSpec)

/-- ITS FALSE NEIGHBOUR: 'it returns false'. Refute it at one input. -/
def typesParamsWrong : ChangeSpec := { name := "typesParams", fn := fun _ => fun
  | [d] => { results := [.lit (.bool false)], args := [d] }
  | _ => none }
def TypesParamsWrongFalsely : Prop := typesParamsRow.holds Try.pinned (OpenSpec.ofChange typesParamsWrong)

/-- 'panicroadlaw.TypesResults': WHATEVER THE INPUT: true; the input reads as it did. -/
def typesResultsSpec : ChangeSpec := { name := "typesResults", fn := fun _ => fun
  | [d] => { results := [.lit (.bool true)], args := [d] }
  | _ => none }
def typesResultsRow : OpenClaim := { program := "ytmbljapjecclaab", sum := "44499bfd79017cfbc8cedac5542a89b56f77eeef32ecc46ec487609094a32648", func := "panicroad/panicroadlaw.TypesResults", spec := "typesResults", unfollowed := true, recurses := true, apart := false }
def TypesResultsSaid : Prop := typesResultsRow.holds Try.pinned (OpenSpec.ofChange typesResultsSpec)

/-- ITS FALSE NEIGHBOUR: 'it returns false'. Refute it at one input. -/
def typesResultsWrong : ChangeSpec := { name := "typesResults", fn := fun _ => fun
  | [d] => { results := [.lit (.bool false)], args := [d] }
  | _ => none }
def TypesResultsWrongFalsely : Prop := typesResultsRow.holds Try.pinned (OpenSpec.ofChange typesResultsWrong)

/-- 'panicroadlaw.TypesFits': WHATEVER THE INPUT: true; the input reads as it did. -/
def typesFitsSpec : ChangeSpec := { name := "typesFits", fn := fun _ => fun
  | [d1, d2] => { results := [.lit (.bool true)], args := [d1, d2] }
  | _ => none }
def typesFitsRow : OpenClaim := { program := "ytmbljapjecclaab", sum := "44499bfd79017cfbc8cedac5542a89b56f77eeef32ecc46ec487609094a32648", func := "panicroad/panicroadlaw.TypesFits", spec := "typesFits", unfollowed := true, recurses := true, apart := false }
def TypesFitsSaid : Prop := typesFitsRow.holds Try.pinned (OpenSpec.ofChange typesFitsSpec)

/-- ITS FALSE NEIGHBOUR: 'it returns false'. Refute it at one input. -/
def typesFitsWrong : ChangeSpec := { name := "typesFits", fn := fun _ => fun
  | [d1, d2] => { results := [.lit (.bool false)], args := [d1, d2] }
  | _ => none }
def TypesFitsWrongFalsely : Prop := typesFitsRow.holds Try.pinned (OpenSpec.ofChange typesFitsWrong)

/-- 'panicroadlaw.TypesCompares': WHATEVER THE INPUT: true; the input reads as it did. -/
def typesComparesSpec : ChangeSpec := { name := "typesCompares", fn := fun _ => fun
  | [d1, d2] => { results := [.lit (.bool true)], args := [d1, d2] }
  | _ => none }
def typesComparesRow : OpenClaim := { program := "ytmbljapjecclaab", sum := "44499bfd79017cfbc8cedac5542a89b56f77eeef32ecc46ec487609094a32648", func := "panicroad/panicroadlaw.TypesCompares", spec := "typesCompares", unfollowed := true, recurses := true, apart := false }
def TypesComparesSaid : Prop := typesComparesRow.holds Try.pinned (OpenSpec.ofChange typesComparesSpec)

/-- ITS FALSE NEIGHBOUR: 'it returns false'. Refute it at one input. -/
def typesComparesWrong : ChangeSpec := { name := "typesCompares", fn := fun _ => fun
  | [d1, d2] => { results := [.lit (.bool false)], args := [d1, d2] }
  | _ => none }
def TypesComparesWrongFalsely : Prop := typesComparesRow.holds Try.pinned (OpenSpec.ofChange typesComparesWrong)

/-- 'panicroadlaw.TypesZeros': WHATEVER THE INPUT: true; the input reads as it did. -/
def typesZerosSpec : ChangeSpec := { name := "typesZeros", fn := fun _ => fun
  | [d] => { results := [.lit (.bool true)], args := [d] }
  | _ => none }
def typesZerosRow : OpenClaim := { program := "ytmbljapjecclaab", sum := "44499bfd79017cfbc8cedac5542a89b56f77eeef32ecc46ec487609094a32648", func := "panicroad/panicroadlaw.TypesZeros", spec := "typesZeros", unfollowed := true, recurses := true, apart := false }
def TypesZerosSaid : Prop := typesZerosRow.holds Try.pinned (OpenSpec.ofChange typesZerosSpec)

/-- ITS FALSE NEIGHBOUR: 'it returns false'. Refute it at one input. -/
def typesZerosWrong : ChangeSpec := { name := "typesZeros", fn := fun _ => fun
  | [d] => { results := [.lit (.bool false)], args := [d] }
  | _ => none }
def TypesZerosWrongFalsely : Prop := typesZerosRow.holds Try.pinned (OpenSpec.ofChange typesZerosWrong)

/-- 'panicroadlaw.TypesFuncs': WHATEVER THE INPUT: true; the input reads as it did. -/
def typesFuncsSpec : ChangeSpec := { name := "typesFuncs", fn := fun _ => fun
  | [d1, d2] => { results := [.lit (.bool true)], args := [d1, d2] }
  | _ => none }
def typesFuncsRow : OpenClaim := { program := "ytmbljapjecclaab", sum := "44499bfd79017cfbc8cedac5542a89b56f77eeef32ecc46ec487609094a32648", func := "panicroad/panicroadlaw.TypesFuncs", spec := "typesFuncs", unfollowed := true, recurses := true, apart := false }
def TypesFuncsSaid : Prop := typesFuncsRow.holds Try.pinned (OpenSpec.ofChange typesFuncsSpec)

/-- ITS FALSE NEIGHBOUR: 'it returns false'. Refute it at one input. -/
def typesFuncsWrong : ChangeSpec := { name := "typesFuncs", fn := fun _ => fun
  | [d1, d2] => { results := [.lit (.bool false)], args := [d1, d2] }
  | _ => none }
def TypesFuncsWrongFalsely : Prop := typesFuncsRow.holds Try.pinned (OpenSpec.ofChange typesFuncsWrong)

/-- 'panicroadlaw.HeapPlays': WHATEVER THE INPUT: true; the input reads as it did. -/
def heapPlaysSpec : ChangeSpec := { name := "heapPlays", fn := fun _ => fun
  | [d1, d2] => { results := [.lit (.bool true)], args := [d1, d2] }
  | _ => none }
def heapPlaysRow : OpenClaim := { program := "ytmbljapjecclaab", sum := "44499bfd79017cfbc8cedac5542a89b56f77eeef32ecc46ec487609094a32648", func := "panicroad/panicroadlaw.HeapPlays", spec := "heapPlays", unfollowed := true, recurses := true, apart := false }
def HeapPlaysSaid : Prop := heapPlaysRow.holds Try.pinned (OpenSpec.ofChange heapPlaysSpec)

/-- ITS FALSE NEIGHBOUR: 'it returns false'. Refute it at one input. -/
def heapPlaysWrong : ChangeSpec := { name := "heapPlays", fn := fun _ => fun
  | [d1, d2] => { results := [.lit (.bool false)], args := [d1, d2] }
  | _ => none }
def HeapPlaysWrongFalsely : Prop := heapPlaysRow.holds Try.pinned (OpenSpec.ofChange heapPlaysWrong)

/-- 'panicroadlaw.PanicsPlays': WHATEVER THE INPUT: true; the input reads as it did. -/
def panicsPlaysSpec : ChangeSpec := { name := "panicsPlays", fn := fun _ => fun
  | [d] => { results := [.lit (.bool true)], args := [d] }
  | _ => none }
def panicsPlaysRow : OpenClaim := { program := "ytmbljapjecclaab", sum := "44499bfd79017cfbc8cedac5542a89b56f77eeef32ecc46ec487609094a32648", func := "panicroad/panicroadlaw.PanicsPlays", spec := "panicsPlays", recurses := true, apart := false }
def PanicsPlaysSaid : Prop := panicsPlaysRow.holds Try.pinned (OpenSpec.ofChange panicsPlaysSpec)

/-- ITS FALSE NEIGHBOUR: 'it returns false'. Refute it at one input. -/
def panicsPlaysWrong : ChangeSpec := { name := "panicsPlays", fn := fun _ => fun
  | [d] => { results := [.lit (.bool false)], args := [d] }
  | _ => none }
def PanicsPlaysWrongFalsely : Prop := panicsPlaysRow.holds Try.pinned (OpenSpec.ofChange panicsPlaysWrong)

/-- 'panicroadlaw.PanicsSteps': WHATEVER THE INPUT: true; the input reads as it did. -/
def panicsStepsSpec : ChangeSpec := { name := "panicsSteps", fn := fun _ => fun
  | [d1, d2] => { results := [.lit (.bool true)], args := [d1, d2] }
  | _ => none }
def panicsStepsRow : OpenClaim := { program := "ytmbljapjecclaab", sum := "44499bfd79017cfbc8cedac5542a89b56f77eeef32ecc46ec487609094a32648", func := "panicroad/panicroadlaw.PanicsSteps", spec := "panicsSteps", recurses := true, apart := false }
def PanicsStepsSaid : Prop := panicsStepsRow.holds Try.pinned (OpenSpec.ofChange panicsStepsSpec)

/-- ITS FALSE NEIGHBOUR: 'it returns false'. Refute it at one input. -/
def panicsStepsWrong : ChangeSpec := { name := "panicsSteps", fn := fun _ => fun
  | [d1, d2] => { results := [.lit (.bool false)], args := [d1, d2] }
  | _ => none }
def PanicsStepsWrongFalsely : Prop := panicsStepsRow.holds Try.pinned (OpenSpec.ofChange panicsStepsWrong)

/-- 'panicroadlaw.ReportReads': WHATEVER THE INPUT: true; the input reads as it did. -/
def reportReadsSpec : ChangeSpec := { name := "reportReads", fn := fun _ => fun
  | [d] => { results := [.lit (.bool true)], args := [d] }
  | _ => none }
def reportReadsRow : OpenClaim := { program := "ytmbljapjecclaab", sum := "44499bfd79017cfbc8cedac5542a89b56f77eeef32ecc46ec487609094a32648", func := "panicroad/panicroadlaw.ReportReads", spec := "reportReads", inPlace := ["internal/bytealg.IndexByteString", "internal/bytealg.IndexString", "internal/abi.NoEscape"], named := ["internal/bytealg.MaxLen"], apart := false }
def ReportReadsSaid : Prop := reportReadsRow.holds Try.pinned (OpenSpec.ofChange reportReadsSpec)

/-- ITS FALSE NEIGHBOUR: 'it returns false'. Refute it at one input. -/
def reportReadsWrong : ChangeSpec := { name := "reportReads", fn := fun _ => fun
  | [d] => { results := [.lit (.bool false)], args := [d] }
  | _ => none }
def ReportReadsWrongFalsely : Prop := reportReadsRow.holds Try.pinned (OpenSpec.ofChange reportReadsWrong)

/-- 'panicroadlaw.ScanTokens': WHATEVER THE INPUT: true; the input reads as it did. -/
def scanTokensSpec : ChangeSpec := { name := "scanTokens", fn := fun _ => fun
  | [d] => { results := [.lit (.bool true)], args := [d] }
  | _ => none }
def scanTokensRow : OpenClaim := { program := "ytmbljapjecclaab", sum := "44499bfd79017cfbc8cedac5542a89b56f77eeef32ecc46ec487609094a32648", func := "panicroad/panicroadlaw.ScanTokens", spec := "scanTokens", inPlace := ["internal/bytealg.IndexByteString"], unfollowed := true, recurses := true, apart := false }
def ScanTokensSaid : Prop := scanTokensRow.holds Try.pinned (OpenSpec.ofChange scanTokensSpec)

/-- ITS FALSE NEIGHBOUR: 'it returns false'. Refute it at one input. -/
def scanTokensWrong : ChangeSpec := { name := "scanTokens", fn := fun _ => fun
  | [d] => { results := [.lit (.bool false)], args := [d] }
  | _ => none }
def ScanTokensWrongFalsely : Prop := scanTokensRow.holds Try.pinned (OpenSpec.ofChange scanTokensWrong)

/- THE SECOND FORM. 'bulk': how many values and letters a reading holds, each counted each time it is reached (what is shared counts as often as it is met; a slice's spare places count too). A statement '..UptoSaid' is the law's where the arguments, and the package variables that the reading takes, are together of bulk at most 1048576: NARROWER than '..Said'. Prove '..Said' where nothing that the law and all that it calls make is longer than what came in: it says more and counts as full. Else prove '..UptoSaid'. A law counts once. -/
mutual
def uptoBulk {H : Type} : DataW H → Nat
  | .lit (.string bytes) => bytes.length + 1
  | .lit _ => 1
  | .nil => 1
  | .ptr d => uptoBulk d + 1
  | .slice elems spare => uptoBulkAll elems + uptoBulkAll spare + 1
  | .agg parts => uptoBulkAll parts + 1
  | .iface _ d => uptoBulk d + 1
  | .map entries => uptoBulkEntries entries + 1
  | .held _ => 1
def uptoBulkAll {H : Type} : List (DataW H) → Nat
  | [] => 0
  | d :: r => uptoBulk d + uptoBulkAll r
def uptoBulkEntries {H : Type} : List (Lit × DataW H) → Nat
  | [] => 0
  | x :: r => uptoBulkEntry x + uptoBulkEntries r
def uptoBulkEntry {H : Type} : Lit × DataW H → Nat
  | (.string bytes, d) => bytes.length + uptoBulk d + 1
  | (_, d) => uptoBulk d + 1
 end
def uptoSmall : (H : Type) → List (DataW H) → Bool := fun _ ds => decide (uptoBulkAll ds ≤ 1048576)
def OpenSpec.upto (s : _root_.Go.ChangeSpec) : _root_.Go.OpenSpec := { _root_.Go.OpenSpec.ofChange s with cond := some uptoSmall }

/-- 'panicroadlaw.TypesValid', WHERE WHAT IT READS IS OF BULK AT MOST 1048576: true; the input reads as it did. -/
def typesValidUptoRow : OpenClaim := { program := "ytmbljapjecclaab", sum := "44499bfd79017cfbc8cedac5542a89b56f77eeef32ecc46ec487609094a32648", func := "panicroad/panicroadlaw.TypesValid", spec := "typesValid", unfollowed := true, recurses := true, apart := false, narrowed := true }
def TypesValidUptoSaid : Prop := typesValidUptoRow.holds Try.pinned (OpenSpec.upto typesValidSpec)

/-- 'panicroadlaw.TypesParams', WHERE WHAT IT READS IS OF BULK AT MOST 1048576: true; the input reads as it did. -/
def typesParamsUptoRow : OpenClaim := { program := "ytmbljapjecclaab", sum := "44499bfd79017cfbc8cedac5542a89b56f77eeef32ecc46ec487609094a32648", func := "panicroad/panicroadlaw.TypesParams", spec := "typesParams", unfollowed := true, recurses := true, apart := false, narrowed := true }
def TypesParamsUptoSaid : Prop := typesParamsUptoRow.holds Try.pinned (OpenSpec.upto typesParamsSpec)

/-- 'panicroadlaw.TypesResults', WHERE WHAT IT READS IS OF BULK AT MOST 1048576: true; the input reads as it did. -/
def typesResultsUptoRow : OpenClaim := { program := "ytmbljapjecclaab", sum := "44499bfd79017cfbc8cedac5542a89b56f77eeef32ecc46ec487609094a32648", func := "panicroad/panicroadlaw.TypesResults", spec := "typesResults", unfollowed := true, recurses := true, apart := false, narrowed := true }
def TypesResultsUptoSaid : Prop := typesResultsUptoRow.holds Try.pinned (OpenSpec.upto typesResultsSpec)

/-- 'panicroadlaw.TypesFits', WHERE WHAT IT READS IS OF BULK AT MOST 1048576: true; the input reads as it did. -/
def typesFitsUptoRow : OpenClaim := { program := "ytmbljapjecclaab", sum := "44499bfd79017cfbc8cedac5542a89b56f77eeef32ecc46ec487609094a32648", func := "panicroad/panicroadlaw.TypesFits", spec := "typesFits", unfollowed := true, recurses := true, apart := false, narrowed := true }
def TypesFitsUptoSaid : Prop := typesFitsUptoRow.holds Try.pinned (OpenSpec.upto typesFitsSpec)

/-- 'panicroadlaw.TypesCompares', WHERE WHAT IT READS IS OF BULK AT MOST 1048576: true; the input reads as it did. -/
def typesComparesUptoRow : OpenClaim := { program := "ytmbljapjecclaab", sum := "44499bfd79017cfbc8cedac5542a89b56f77eeef32ecc46ec487609094a32648", func := "panicroad/panicroadlaw.TypesCompares", spec := "typesCompares", unfollowed := true, recurses := true, apart := false, narrowed := true }
def TypesComparesUptoSaid : Prop := typesComparesUptoRow.holds Try.pinned (OpenSpec.upto typesComparesSpec)

/-- 'panicroadlaw.TypesZeros', WHERE WHAT IT READS IS OF BULK AT MOST 1048576: true; the input reads as it did. -/
def typesZerosUptoRow : OpenClaim := { program := "ytmbljapjecclaab", sum := "44499bfd79017cfbc8cedac5542a89b56f77eeef32ecc46ec487609094a32648", func := "panicroad/panicroadlaw.TypesZeros", spec := "typesZeros", unfollowed := true, recurses := true, apart := false, narrowed := true }
def TypesZerosUptoSaid : Prop := typesZerosUptoRow.holds Try.pinned (OpenSpec.upto typesZerosSpec)

/-- 'panicroadlaw.TypesFuncs', WHERE WHAT IT READS IS OF BULK AT MOST 1048576: true; the input reads as it did. -/
def typesFuncsUptoRow : OpenClaim := { program := "ytmbljapjecclaab", sum := "44499bfd79017cfbc8cedac5542a89b56f77eeef32ecc46ec487609094a32648", func := "panicroad/panicroadlaw.TypesFuncs", spec := "typesFuncs", unfollowed := true, recurses := true, apart := false, narrowed := true }
def TypesFuncsUptoSaid : Prop := typesFuncsUptoRow.holds Try.pinned (OpenSpec.upto typesFuncsSpec)

/-- 'panicroadlaw.HeapPlays', WHERE WHAT IT READS IS OF BULK AT MOST 1048576: true; the input reads as it did. -/
def heapPlaysUptoRow : OpenClaim := { program := "ytmbljapjecclaab", sum := "44499bfd79017cfbc8cedac5542a89b56f77eeef32ecc46ec487609094a32648", func := "panicroad/panicroadlaw.HeapPlays", spec := "heapPlays", unfollowed := true, recurses := true, apart := false, narrowed := true }
def HeapPlaysUptoSaid : Prop := heapPlaysUptoRow.holds Try.pinned (OpenSpec.upto heapPlaysSpec)

/-- 'panicroadlaw.PanicsPlays', WHERE WHAT IT READS IS OF BULK AT MOST 1048576: true; the input reads as it did. -/
def panicsPlaysUptoRow : OpenClaim := { program := "ytmbljapjecclaab", sum := "44499bfd79017cfbc8cedac5542a89b56f77eeef32ecc46ec487609094a32648", func := "panicroad/panicroadlaw.PanicsPlays", spec := "panicsPlays", recurses := true, apart := false, narrowed := true }
def PanicsPlaysUptoSaid : Prop := panicsPlaysUptoRow.holds Try.pinned (OpenSpec.upto panicsPlaysSpec)

/-- 'panicroadlaw.PanicsSteps', WHERE WHAT IT READS IS OF BULK AT MOST 1048576: true; the input reads as it did. -/
def panicsStepsUptoRow : OpenClaim := { program := "ytmbljapjecclaab", sum := "44499bfd79017cfbc8cedac5542a89b56f77eeef32ecc46ec487609094a32648", func := "panicroad/panicroadlaw.PanicsSteps", spec := "panicsSteps", recurses := true, apart := false, narrowed := true }
def PanicsStepsUptoSaid : Prop := panicsStepsUptoRow.holds Try.pinned (OpenSpec.upto panicsStepsSpec)

/-- 'panicroadlaw.ReportReads', WHERE WHAT IT READS IS OF BULK AT MOST 1048576: true; the input reads as it did. -/
def reportReadsUptoRow : OpenClaim := { program := "ytmbljapjecclaab", sum := "44499bfd79017cfbc8cedac5542a89b56f77eeef32ecc46ec487609094a32648", func := "panicroad/panicroadlaw.ReportReads", spec := "reportReads", inPlace := ["internal/bytealg.IndexByteString", "internal/bytealg.IndexString", "internal/abi.NoEscape"], named := ["internal/bytealg.MaxLen"], apart := false, narrowed := true }
def ReportReadsUptoSaid : Prop := reportReadsUptoRow.holds Try.pinned (OpenSpec.upto reportReadsSpec)

/-- 'panicroadlaw.ScanTokens', WHERE WHAT IT READS IS OF BULK AT MOST 1048576: true; the input reads as it did. -/
def scanTokensUptoRow : OpenClaim := { program := "ytmbljapjecclaab", sum := "44499bfd79017cfbc8cedac5542a89b56f77eeef32ecc46ec487609094a32648", func := "panicroad/panicroadlaw.ScanTokens", spec := "scanTokens", inPlace := ["internal/bytealg.IndexByteString"], unfollowed := true, recurses := true, apart := false, narrowed := true }
def ScanTokensUptoSaid : Prop := scanTokensUptoRow.holds Try.pinned (OpenSpec.upto scanTokensSpec)

end Rows
end Go.Proofs.Ytmbljapjecclaab
