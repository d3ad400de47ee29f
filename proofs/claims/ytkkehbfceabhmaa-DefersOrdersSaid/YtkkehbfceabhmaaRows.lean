/-
  No cell of these rows narrows 'for every input' (looked for: loops, veiled, ifaces, maps, wideKeys, modest, calm, conditions, laid).
  DERIVED. THE GIVEN ROWS OF THIS SEAT. 12 by the template 'for every input the law returns true; each argument reads behind the call as it read before'; 0 by the template 'total and deterministic' (their statements: YtkkehbfceabhmaaTotals.lean).
  GIVEN WITH THE SEED: the statements are not yours to turn. If you find one false, say at which input.
  Laid BY PROGRAM, IN A SANDBOX (cutbox-rows.mjs): the forced cells as the released guide's own fill.sh prints them over the translation edd414e632f2a51e… (all of the seat's roots in one cut). By AI agents, Wed Nov 11 2026. No macro, syntax, notation, axiom, sorry.
-/
import Derived.Test.YtkkehbfceabhmaaChecked
import GoSem.Claim
import GoSem.ClaimJoined
import GoSem.ClaimMapViews
import Derived.JoinedTies
import Derived.KernelRfl
namespace Go.Proofs.Ytkkehbfceabhmaa
/- THE CELL 'sum', in the pinned program and in every row, IS THE sha256 OF THE DUMP (.gsa) THAT YtkkehbfceabhmaaProg.lean LOADS. Nothing in Lean hashes anything: it is a label: what it is worth is what the hold of that sum in a sandbox is worth. -/
noncomputable def Try.pinned : Pinned := { name := "ytkkehbfceabhmaa", sum := "edd414e632f2a51e1eac8f4dd48ada9de2f200daf22ac41bcf63d87ab793f803", checked := Try.checked }
namespace Rows
def none {H : Type} : Left H := { results := [], args := [] }

/-- 'panicroadlaw.DefersPush': WHATEVER THE INPUT: true; the input reads as it did. -/
def defersPushSpec : ChangeSpec := { name := "defersPush", fn := fun _ => fun
  | [d1, d2] => { results := [.lit (.bool true)], args := [d1, d2] }
  | _ => none }
def defersPushRow : OpenClaim := { program := "ytkkehbfceabhmaa", sum := "edd414e632f2a51e1eac8f4dd48ada9de2f200daf22ac41bcf63d87ab793f803", func := "panicroad/panicroadlaw.DefersPush", spec := "defersPush", apart := false }
def DefersPushSaid : Prop := defersPushRow.holds Try.pinned (OpenSpec.ofChange defersPushSpec)

/-- ITS FALSE NEIGHBOUR: 'it returns false'. Refute it at one input. -/
def defersPushWrong : ChangeSpec := { name := "defersPush", fn := fun _ => fun
  | [d1, d2] => { results := [.lit (.bool false)], args := [d1, d2] }
  | _ => none }
def DefersPushWrongFalsely : Prop := defersPushRow.holds Try.pinned (OpenSpec.ofChange defersPushWrong)

/-- 'panicroadlaw.DefersPop': WHATEVER THE INPUT: true; the input reads as it did. -/
def defersPopSpec : ChangeSpec := { name := "defersPop", fn := fun _ => fun
  | [d] => { results := [.lit (.bool true)], args := [d] }
  | _ => none }
def defersPopRow : OpenClaim := { program := "ytkkehbfceabhmaa", sum := "edd414e632f2a51e1eac8f4dd48ada9de2f200daf22ac41bcf63d87ab793f803", func := "panicroad/panicroadlaw.DefersPop", spec := "defersPop", apart := false }
def DefersPopSaid : Prop := defersPopRow.holds Try.pinned (OpenSpec.ofChange defersPopSpec)

/-- ITS FALSE NEIGHBOUR: 'it returns false'. Refute it at one input. -/
def defersPopWrong : ChangeSpec := { name := "defersPop", fn := fun _ => fun
  | [d] => { results := [.lit (.bool false)], args := [d] }
  | _ => none }
def DefersPopWrongFalsely : Prop := defersPopRow.holds Try.pinned (OpenSpec.ofChange defersPopWrong)

/-- 'panicroadlaw.WordDoes': WHATEVER THE INPUT: true; the input reads as it did. -/
def wordDoesSpec : ChangeSpec := { name := "wordDoes", fn := fun _ => fun
  | [d1, d2, d3] => { results := [.lit (.bool true)], args := [d1, d2, d3] }
  | _ => none }
def wordDoesRow : OpenClaim := { program := "ytkkehbfceabhmaa", sum := "edd414e632f2a51e1eac8f4dd48ada9de2f200daf22ac41bcf63d87ab793f803", func := "panicroad/panicroadlaw.WordDoes", spec := "wordDoes", apart := false }
def WordDoesSaid : Prop := wordDoesRow.holds Try.pinned (OpenSpec.ofChange wordDoesSpec)

/-- ITS FALSE NEIGHBOUR: 'it returns false'. Refute it at one input. -/
def wordDoesWrong : ChangeSpec := { name := "wordDoes", fn := fun _ => fun
  | [d1, d2, d3] => { results := [.lit (.bool false)], args := [d1, d2, d3] }
  | _ => none }
def WordDoesWrongFalsely : Prop := wordDoesRow.holds Try.pinned (OpenSpec.ofChange wordDoesWrong)

/-- 'panicroadlaw.ReportTexts': WHATEVER THE INPUT: true; the input reads as it did. -/
def reportTextsSpec : ChangeSpec := { name := "reportTexts", fn := fun _ => fun
  | [d] => { results := [.lit (.bool true)], args := [d] }
  | _ => none }
def reportTextsRow : OpenClaim := { program := "ytkkehbfceabhmaa", sum := "edd414e632f2a51e1eac8f4dd48ada9de2f200daf22ac41bcf63d87ab793f803", func := "panicroad/panicroadlaw.ReportTexts", spec := "reportTexts", inPlace := ["internal/bytealg.IndexByteString"], apart := false }
def ReportTextsSaid : Prop := reportTextsRow.holds Try.pinned (OpenSpec.ofChange reportTextsSpec)

/-- ITS FALSE NEIGHBOUR: 'it returns false'. Refute it at one input. -/
def reportTextsWrong : ChangeSpec := { name := "reportTexts", fn := fun _ => fun
  | [d] => { results := [.lit (.bool false)], args := [d] }
  | _ => none }
def ReportTextsWrongFalsely : Prop := reportTextsRow.holds Try.pinned (OpenSpec.ofChange reportTextsWrong)

/-- 'panicroadlaw.ValueShows': WHATEVER THE INPUT: true; the input reads as it did. -/
def valueShowsSpec : ChangeSpec := { name := "valueShows", fn := fun _ => fun
  | [d] => { results := [.lit (.bool true)], args := [d] }
  | _ => none }
def valueShowsRow : OpenClaim := { program := "ytkkehbfceabhmaa", sum := "edd414e632f2a51e1eac8f4dd48ada9de2f200daf22ac41bcf63d87ab793f803", func := "panicroad/panicroadlaw.ValueShows", spec := "valueShows", inPlace := ["internal/abi.NoEscape", "internal/bytealg.MakeNoZero"], apart := false }
def ValueShowsSaid : Prop := valueShowsRow.holds Try.pinned (OpenSpec.ofChange valueShowsSpec)

/-- ITS FALSE NEIGHBOUR: 'it returns false'. Refute it at one input. -/
def valueShowsWrong : ChangeSpec := { name := "valueShows", fn := fun _ => fun
  | [d] => { results := [.lit (.bool false)], args := [d] }
  | _ => none }
def ValueShowsWrongFalsely : Prop := valueShowsRow.holds Try.pinned (OpenSpec.ofChange valueShowsWrong)

/-- 'panicroadlaw.DefersOrders': WHATEVER THE INPUT: true; the input reads as it did. -/
def defersOrdersSpec : ChangeSpec := { name := "defersOrders", fn := fun _ => fun
  | [d1, d2] => { results := [.lit (.bool true)], args := [d1, d2] }
  | _ => none }
def defersOrdersRow : OpenClaim := { program := "ytkkehbfceabhmaa", sum := "edd414e632f2a51e1eac8f4dd48ada9de2f200daf22ac41bcf63d87ab793f803", func := "panicroad/panicroadlaw.DefersOrders", spec := "defersOrders", apart := false }
def DefersOrdersSaid : Prop := defersOrdersRow.holds Try.pinned (OpenSpec.ofChange defersOrdersSpec)

/-- ITS FALSE NEIGHBOUR: 'it returns false'. Refute it at one input. -/
def defersOrdersWrong : ChangeSpec := { name := "defersOrders", fn := fun _ => fun
  | [d1, d2] => { results := [.lit (.bool false)], args := [d1, d2] }
  | _ => none }
def DefersOrdersWrongFalsely : Prop := defersOrdersRow.holds Try.pinned (OpenSpec.ofChange defersOrdersWrong)

/-- 'panicroadlaw.ValueLines': WHATEVER THE INPUT: true; the input reads as it did. -/
def valueLinesSpec : ChangeSpec := { name := "valueLines", fn := fun _ => fun
  | [d] => { results := [.lit (.bool true)], args := [d] }
  | _ => none }
def valueLinesRow : OpenClaim := { program := "ytkkehbfceabhmaa", sum := "edd414e632f2a51e1eac8f4dd48ada9de2f200daf22ac41bcf63d87ab793f803", func := "panicroad/panicroadlaw.ValueLines", spec := "valueLines", inPlace := ["internal/abi.NoEscape", "internal/bytealg.MakeNoZero"], apart := false }
def ValueLinesSaid : Prop := valueLinesRow.holds Try.pinned (OpenSpec.ofChange valueLinesSpec)

/-- ITS FALSE NEIGHBOUR: 'it returns false'. Refute it at one input. -/
def valueLinesWrong : ChangeSpec := { name := "valueLines", fn := fun _ => fun
  | [d] => { results := [.lit (.bool false)], args := [d] }
  | _ => none }
def ValueLinesWrongFalsely : Prop := valueLinesRow.holds Try.pinned (OpenSpec.ofChange valueLinesWrong)

/-- 'panicroadlaw.ReportValues': WHATEVER THE INPUT: true; the input reads as it did. -/
def reportValuesSpec : ChangeSpec := { name := "reportValues", fn := fun _ => fun
  | [d] => { results := [.lit (.bool true)], args := [d] }
  | _ => none }
def reportValuesRow : OpenClaim := { program := "ytkkehbfceabhmaa", sum := "edd414e632f2a51e1eac8f4dd48ada9de2f200daf22ac41bcf63d87ab793f803", func := "panicroad/panicroadlaw.ReportValues", spec := "reportValues", inPlace := ["internal/abi.NoEscape", "internal/bytealg.MakeNoZero"], apart := false }
def ReportValuesSaid : Prop := reportValuesRow.holds Try.pinned (OpenSpec.ofChange reportValuesSpec)

/-- ITS FALSE NEIGHBOUR: 'it returns false'. Refute it at one input. -/
def reportValuesWrong : ChangeSpec := { name := "reportValues", fn := fun _ => fun
  | [d] => { results := [.lit (.bool false)], args := [d] }
  | _ => none }
def ReportValuesWrongFalsely : Prop := reportValuesRow.holds Try.pinned (OpenSpec.ofChange reportValuesWrong)

/-- 'panicroadlaw.ReportCrashes': WHATEVER THE INPUT: true; the input reads as it did. -/
def reportCrashesSpec : ChangeSpec := { name := "reportCrashes", fn := fun _ => fun
  | [d] => { results := [.lit (.bool true)], args := [d] }
  | _ => none }
def reportCrashesRow : OpenClaim := { program := "ytkkehbfceabhmaa", sum := "edd414e632f2a51e1eac8f4dd48ada9de2f200daf22ac41bcf63d87ab793f803", func := "panicroad/panicroadlaw.ReportCrashes", spec := "reportCrashes", inPlace := ["internal/abi.NoEscape", "internal/bytealg.IndexByteString"], apart := false }
def ReportCrashesSaid : Prop := reportCrashesRow.holds Try.pinned (OpenSpec.ofChange reportCrashesSpec)

/-- ITS FALSE NEIGHBOUR: 'it returns false'. Refute it at one input. -/
def reportCrashesWrong : ChangeSpec := { name := "reportCrashes", fn := fun _ => fun
  | [d] => { results := [.lit (.bool false)], args := [d] }
  | _ => none }
def ReportCrashesWrongFalsely : Prop := reportCrashesRow.holds Try.pinned (OpenSpec.ofChange reportCrashesWrong)

/-- 'panicroadlaw.PanicsPlays': WHATEVER THE INPUT: true; the input reads as it did. -/
def panicsPlaysSpec : ChangeSpec := { name := "panicsPlays", fn := fun _ => fun
  | [d] => { results := [.lit (.bool true)], args := [d] }
  | _ => none }
def panicsPlaysRow : OpenClaim := { program := "ytkkehbfceabhmaa", sum := "edd414e632f2a51e1eac8f4dd48ada9de2f200daf22ac41bcf63d87ab793f803", func := "panicroad/panicroadlaw.PanicsPlays", spec := "panicsPlays", recurses := true, apart := false }
def PanicsPlaysSaid : Prop := panicsPlaysRow.holds Try.pinned (OpenSpec.ofChange panicsPlaysSpec)

/-- ITS FALSE NEIGHBOUR: 'it returns false'. Refute it at one input. -/
def panicsPlaysWrong : ChangeSpec := { name := "panicsPlays", fn := fun _ => fun
  | [d] => { results := [.lit (.bool false)], args := [d] }
  | _ => none }
def PanicsPlaysWrongFalsely : Prop := panicsPlaysRow.holds Try.pinned (OpenSpec.ofChange panicsPlaysWrong)

/-- 'panicroadlaw.PanicsSteps': WHATEVER THE INPUT: true; the input reads as it did. -/
def panicsStepsSpec : ChangeSpec := { name := "panicsSteps", fn := fun _ => fun
  | [d1, d2] => { results := [.lit (.bool true)], args := [d1, d2] }
  | _ => none }
def panicsStepsRow : OpenClaim := { program := "ytkkehbfceabhmaa", sum := "edd414e632f2a51e1eac8f4dd48ada9de2f200daf22ac41bcf63d87ab793f803", func := "panicroad/panicroadlaw.PanicsSteps", spec := "panicsSteps", recurses := true, apart := false }
def PanicsStepsSaid : Prop := panicsStepsRow.holds Try.pinned (OpenSpec.ofChange panicsStepsSpec)

/-- ITS FALSE NEIGHBOUR: 'it returns false'. Refute it at one input. -/
def panicsStepsWrong : ChangeSpec := { name := "panicsSteps", fn := fun _ => fun
  | [d1, d2] => { results := [.lit (.bool false)], args := [d1, d2] }
  | _ => none }
def PanicsStepsWrongFalsely : Prop := panicsStepsRow.holds Try.pinned (OpenSpec.ofChange panicsStepsWrong)

/-- 'panicroadlaw.ReportReads': WHATEVER THE INPUT: true; the input reads as it did. -/
def reportReadsSpec : ChangeSpec := { name := "reportReads", fn := fun _ => fun
  | [d] => { results := [.lit (.bool true)], args := [d] }
  | _ => none }
def reportReadsRow : OpenClaim := { program := "ytkkehbfceabhmaa", sum := "edd414e632f2a51e1eac8f4dd48ada9de2f200daf22ac41bcf63d87ab793f803", func := "panicroad/panicroadlaw.ReportReads", spec := "reportReads", inPlace := ["internal/bytealg.IndexByteString", "internal/bytealg.IndexString", "internal/abi.NoEscape"], named := ["internal/bytealg.MaxLen"], apart := false }
def ReportReadsSaid : Prop := reportReadsRow.holds Try.pinned (OpenSpec.ofChange reportReadsSpec)

/-- ITS FALSE NEIGHBOUR: 'it returns false'. Refute it at one input. -/
def reportReadsWrong : ChangeSpec := { name := "reportReads", fn := fun _ => fun
  | [d] => { results := [.lit (.bool false)], args := [d] }
  | _ => none }
def ReportReadsWrongFalsely : Prop := reportReadsRow.holds Try.pinned (OpenSpec.ofChange reportReadsWrong)

/- THE SECOND FORM. 'bulk': how many values and letters a reading holds, each counted each time it is reached (what is shared counts as often as it is met; a slice's spare places count too). A statement '..UptoSaid' is the law's where the arguments, and the package variables that the reading takes, are together of bulk at most 1048576: NARROWER than '..Said'. Prove '..Said' where nothing that the law and all that it calls make is longer than what came in: it says more and counts as full. Else prove '..UptoSaid'. A law counts once. -/
mutual
def uptoBulk {H : Type} : DataW H → Nat
  | .lit (.string bytes) => bytes.length + 1
  | .lit _ => 1
  | .nil => 1
  | .ptr d => uptoBulk d + 1
  | .slice elems spare => uptoBulkAll elems + uptoBulkAll spare + 1
  | .agg parts => uptoBulkAll parts + 1
  | .iface _ d => uptoBulk d + 1
  | .map entries => uptoBulkEntries entries + 1
  | .held _ => 1
def uptoBulkAll {H : Type} : List (DataW H) → Nat
  | [] => 0
  | d :: r => uptoBulk d + uptoBulkAll r
def uptoBulkEntries {H : Type} : List (Lit × DataW H) → Nat
  | [] => 0
  | x :: r => uptoBulkEntry x + uptoBulkEntries r
def uptoBulkEntry {H : Type} : Lit × DataW H → Nat
  | (.string bytes, d) => bytes.length + uptoBulk d + 1
  | (_, d) => uptoBulk d + 1
 end
def uptoSmall : (H : Type) → List (DataW H) → Bool := fun _ ds => decide (uptoBulkAll ds ≤ 1048576)
def OpenSpec.upto (s : _root_.Go.ChangeSpec) : _root_.Go.OpenSpec := { _root_.Go.OpenSpec.ofChange s with cond := some uptoSmall }

/-- 'panicroadlaw.DefersPush', WHERE WHAT IT READS IS OF BULK AT MOST 1048576: true; the input reads as it did. -/
def defersPushUptoRow : OpenClaim := { program := "ytkkehbfceabhmaa", sum := "edd414e632f2a51e1eac8f4dd48ada9de2f200daf22ac41bcf63d87ab793f803", func := "panicroad/panicroadlaw.DefersPush", spec := "defersPush", apart := false, narrowed := true }
def DefersPushUptoSaid : Prop := defersPushUptoRow.holds Try.pinned (OpenSpec.upto defersPushSpec)

/-- 'panicroadlaw.DefersPop', WHERE WHAT IT READS IS OF BULK AT MOST 1048576: true; the input reads as it did. -/
def defersPopUptoRow : OpenClaim := { program := "ytkkehbfceabhmaa", sum := "edd414e632f2a51e1eac8f4dd48ada9de2f200daf22ac41bcf63d87ab793f803", func := "panicroad/panicroadlaw.DefersPop", spec := "defersPop", apart := false, narrowed := true }
def DefersPopUptoSaid : Prop := defersPopUptoRow.holds Try.pinned (OpenSpec.upto defersPopSpec)

/-- 'panicroadlaw.WordDoes', WHERE WHAT IT READS IS OF BULK AT MOST 1048576: true; the input reads as it did. -/
def wordDoesUptoRow : OpenClaim := { program := "ytkkehbfceabhmaa", sum := "edd414e632f2a51e1eac8f4dd48ada9de2f200daf22ac41bcf63d87ab793f803", func := "panicroad/panicroadlaw.WordDoes", spec := "wordDoes", apart := false, narrowed := true }
def WordDoesUptoSaid : Prop := wordDoesUptoRow.holds Try.pinned (OpenSpec.upto wordDoesSpec)

/-- 'panicroadlaw.ReportTexts', WHERE WHAT IT READS IS OF BULK AT MOST 1048576: true; the input reads as it did. -/
def reportTextsUptoRow : OpenClaim := { program := "ytkkehbfceabhmaa", sum := "edd414e632f2a51e1eac8f4dd48ada9de2f200daf22ac41bcf63d87ab793f803", func := "panicroad/panicroadlaw.ReportTexts", spec := "reportTexts", inPlace := ["internal/bytealg.IndexByteString"], apart := false, narrowed := true }
def ReportTextsUptoSaid : Prop := reportTextsUptoRow.holds Try.pinned (OpenSpec.upto reportTextsSpec)

/-- 'panicroadlaw.ValueShows', WHERE WHAT IT READS IS OF BULK AT MOST 1048576: true; the input reads as it did. -/
def valueShowsUptoRow : OpenClaim := { program := "ytkkehbfceabhmaa", sum := "edd414e632f2a51e1eac8f4dd48ada9de2f200daf22ac41bcf63d87ab793f803", func := "panicroad/panicroadlaw.ValueShows", spec := "valueShows", inPlace := ["internal/abi.NoEscape", "internal/bytealg.MakeNoZero"], apart := false, narrowed := true }
def ValueShowsUptoSaid : Prop := valueShowsUptoRow.holds Try.pinned (OpenSpec.upto valueShowsSpec)

/-- 'panicroadlaw.DefersOrders', WHERE WHAT IT READS IS OF BULK AT MOST 1048576: true; the input reads as it did. -/
def defersOrdersUptoRow : OpenClaim := { program := "ytkkehbfceabhmaa", sum := "edd414e632f2a51e1eac8f4dd48ada9de2f200daf22ac41bcf63d87ab793f803", func := "panicroad/panicroadlaw.DefersOrders", spec := "defersOrders", apart := false, narrowed := true }
def DefersOrdersUptoSaid : Prop := defersOrdersUptoRow.holds Try.pinned (OpenSpec.upto defersOrdersSpec)

/-- 'panicroadlaw.ValueLines', WHERE WHAT IT READS IS OF BULK AT MOST 1048576: true; the input reads as it did. -/
def valueLinesUptoRow : OpenClaim := { program := "ytkkehbfceabhmaa", sum := "edd414e632f2a51e1eac8f4dd48ada9de2f200daf22ac41bcf63d87ab793f803", func := "panicroad/panicroadlaw.ValueLines", spec := "valueLines", inPlace := ["internal/abi.NoEscape", "internal/bytealg.MakeNoZero"], apart := false, narrowed := true }
def ValueLinesUptoSaid : Prop := valueLinesUptoRow.holds Try.pinned (OpenSpec.upto valueLinesSpec)

/-- 'panicroadlaw.ReportValues', WHERE WHAT IT READS IS OF BULK AT MOST 1048576: true; the input reads as it did. -/
def reportValuesUptoRow : OpenClaim := { program := "ytkkehbfceabhmaa", sum := "edd414e632f2a51e1eac8f4dd48ada9de2f200daf22ac41bcf63d87ab793f803", func := "panicroad/panicroadlaw.ReportValues", spec := "reportValues", inPlace := ["internal/abi.NoEscape", "internal/bytealg.MakeNoZero"], apart := false, narrowed := true }
def ReportValuesUptoSaid : Prop := reportValuesUptoRow.holds Try.pinned (OpenSpec.upto reportValuesSpec)

/-- 'panicroadlaw.ReportCrashes', WHERE WHAT IT READS IS OF BULK AT MOST 1048576: true; the input reads as it did. -/
def reportCrashesUptoRow : OpenClaim := { program := "ytkkehbfceabhmaa", sum := "edd414e632f2a51e1eac8f4dd48ada9de2f200daf22ac41bcf63d87ab793f803", func := "panicroad/panicroadlaw.ReportCrashes", spec := "reportCrashes", inPlace := ["internal/abi.NoEscape", "internal/bytealg.IndexByteString"], apart := false, narrowed := true }
def ReportCrashesUptoSaid : Prop := reportCrashesUptoRow.holds Try.pinned (OpenSpec.upto reportCrashesSpec)

/-- 'panicroadlaw.PanicsPlays', WHERE WHAT IT READS IS OF BULK AT MOST 1048576: true; the input reads as it did. -/
def panicsPlaysUptoRow : OpenClaim := { program := "ytkkehbfceabhmaa", sum := "edd414e632f2a51e1eac8f4dd48ada9de2f200daf22ac41bcf63d87ab793f803", func := "panicroad/panicroadlaw.PanicsPlays", spec := "panicsPlays", recurses := true, apart := false, narrowed := true }
def PanicsPlaysUptoSaid : Prop := panicsPlaysUptoRow.holds Try.pinned (OpenSpec.upto panicsPlaysSpec)

/-- 'panicroadlaw.PanicsSteps', WHERE WHAT IT READS IS OF BULK AT MOST 1048576: true; the input reads as it did. -/
def panicsStepsUptoRow : OpenClaim := { program := "ytkkehbfceabhmaa", sum := "edd414e632f2a51e1eac8f4dd48ada9de2f200daf22ac41bcf63d87ab793f803", func := "panicroad/panicroadlaw.PanicsSteps", spec := "panicsSteps", recurses := true, apart := false, narrowed := true }
def PanicsStepsUptoSaid : Prop := panicsStepsUptoRow.holds Try.pinned (OpenSpec.upto panicsStepsSpec)

/-- 'panicroadlaw.ReportReads', WHERE WHAT IT READS IS OF BULK AT MOST 1048576: true; the input reads as it did. -/
def reportReadsUptoRow : OpenClaim := { program := "ytkkehbfceabhmaa", sum := "edd414e632f2a51e1eac8f4dd48ada9de2f200daf22ac41bcf63d87ab793f803", func := "panicroad/panicroadlaw.ReportReads", spec := "reportReads", inPlace := ["internal/bytealg.IndexByteString", "internal/bytealg.IndexString", "internal/abi.NoEscape"], named := ["internal/bytealg.MaxLen"], apart := false, narrowed := true }
def ReportReadsUptoSaid : Prop := reportReadsUptoRow.holds Try.pinned (OpenSpec.upto reportReadsSpec)

end Rows
end Go.Proofs.Ytkkehbfceabhmaa
