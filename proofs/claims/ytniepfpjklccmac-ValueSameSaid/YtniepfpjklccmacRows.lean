/-
  No cell of these rows narrows 'for every input' (looked for: loops, veiled, ifaces, maps, wideKeys, modest, calm, conditions, laid).
  DERIVED. THE GIVEN ROWS OF THIS SEAT. 12 by the template 'for every input the law returns true; each argument reads behind the call as it read before'; 0 by the template 'total and deterministic' (their statements: YtniepfpjklccmacTotals.lean).
  GIVEN WITH THE SEED: the statements are not yours to turn. If you find one false, say at which input.
  Laid BY PROGRAM, IN A SANDBOX (cutbox-rows.mjs): the forced cells as the released guide's own fill.sh prints them over the translation 6896d316ae278cd1… (all of the seat's roots in one cut). By AI agents, Wed Nov 11 2026. No macro, syntax, notation, axiom, sorry.
-/
import Derived.Test.YtniepfpjklccmacChecked
import GoSem.Claim
import GoSem.ClaimJoined
import GoSem.ClaimMapViews
import Derived.JoinedTies
import Derived.KernelRfl
namespace Go.Proofs.Ytniepfpjklccmac
/- THE CELL 'sum', in the pinned program and in every row, IS THE sha256 OF THE DUMP (.gsa) THAT YtniepfpjklccmacProg.lean LOADS. Nothing in Lean hashes anything: it is a label: what it is worth is what the hold of that sum in a sandbox is worth. -/
noncomputable def Try.pinned : Pinned := { name := "ytniepfpjklccmac", sum := "6896d316ae278cd1f24a8279edbfe48c467544b110fa1f7d35ad03b22d83a611", checked := Try.checked }
namespace Rows
def none {H : Type} : Left H := { results := [], args := [] }

/-- 'panicroadlaw.ValueOrders': WHATEVER THE INPUT: true; the input reads as it did. -/
def valueOrdersSpec : ChangeSpec := { name := "valueOrders", fn := fun _ => fun
  | [d1, d2] => { results := [.lit (.bool true)], args := [d1, d2] }
  | _ => none }
def valueOrdersRow : OpenClaim := { program := "ytniepfpjklccmac", sum := "6896d316ae278cd1f24a8279edbfe48c467544b110fa1f7d35ad03b22d83a611", func := "panicroad/panicroadlaw.ValueOrders", spec := "valueOrders", inPlace := ["internal/bytealg.abigen_runtime_cmpstring"], apart := false }
def ValueOrdersSaid : Prop := valueOrdersRow.holds Try.pinned (OpenSpec.ofChange valueOrdersSpec)

/-- ITS FALSE NEIGHBOUR: 'it returns false'. Refute it at one input. -/
def valueOrdersWrong : ChangeSpec := { name := "valueOrders", fn := fun _ => fun
  | [d1, d2] => { results := [.lit (.bool false)], args := [d1, d2] }
  | _ => none }
def ValueOrdersWrongFalsely : Prop := valueOrdersRow.holds Try.pinned (OpenSpec.ofChange valueOrdersWrong)

/-- 'panicroadlaw.ValueSame': WHATEVER THE INPUT: true; the input reads as it did. -/
def valueSameSpec : ChangeSpec := { name := "valueSame", fn := fun _ => fun
  | [d1, d2] => { results := [.lit (.bool true)], args := [d1, d2] }
  | _ => none }
def valueSameRow : OpenClaim := { program := "ytniepfpjklccmac", sum := "6896d316ae278cd1f24a8279edbfe48c467544b110fa1f7d35ad03b22d83a611", func := "panicroad/panicroadlaw.ValueSame", spec := "valueSame", unfollowed := true, recurses := true, apart := false }
def ValueSameSaid : Prop := valueSameRow.holds Try.pinned (OpenSpec.ofChange valueSameSpec)

/-- ITS FALSE NEIGHBOUR: 'it returns false'. Refute it at one input. -/
def valueSameWrong : ChangeSpec := { name := "valueSame", fn := fun _ => fun
  | [d1, d2] => { results := [.lit (.bool false)], args := [d1, d2] }
  | _ => none }
def ValueSameWrongFalsely : Prop := valueSameRow.holds Try.pinned (OpenSpec.ofChange valueSameWrong)

/-- 'panicroadlaw.ValuePlains': WHATEVER THE INPUT: true; the input reads as it did. -/
def valuePlainsSpec : ChangeSpec := { name := "valuePlains", fn := fun _ => fun
  | [d] => { results := [.lit (.bool true)], args := [d] }
  | _ => none }
def valuePlainsRow : OpenClaim := { program := "ytniepfpjklccmac", sum := "6896d316ae278cd1f24a8279edbfe48c467544b110fa1f7d35ad03b22d83a611", func := "panicroad/panicroadlaw.ValuePlains", spec := "valuePlains", apart := false }
def ValuePlainsSaid : Prop := valuePlainsRow.holds Try.pinned (OpenSpec.ofChange valuePlainsSpec)

/-- ITS FALSE NEIGHBOUR: 'it returns false'. Refute it at one input. -/
def valuePlainsWrong : ChangeSpec := { name := "valuePlains", fn := fun _ => fun
  | [d] => { results := [.lit (.bool false)], args := [d] }
  | _ => none }
def ValuePlainsWrongFalsely : Prop := valuePlainsRow.holds Try.pinned (OpenSpec.ofChange valuePlainsWrong)

/-- 'panicroadlaw.ValueShows': WHATEVER THE INPUT: true; the input reads as it did. -/
def valueShowsSpec : ChangeSpec := { name := "valueShows", fn := fun _ => fun
  | [d] => { results := [.lit (.bool true)], args := [d] }
  | _ => none }
def valueShowsRow : OpenClaim := { program := "ytniepfpjklccmac", sum := "6896d316ae278cd1f24a8279edbfe48c467544b110fa1f7d35ad03b22d83a611", func := "panicroad/panicroadlaw.ValueShows", spec := "valueShows", inPlace := ["internal/abi.NoEscape", "internal/bytealg.MakeNoZero"], apart := false }
def ValueShowsSaid : Prop := valueShowsRow.holds Try.pinned (OpenSpec.ofChange valueShowsSpec)

/-- ITS FALSE NEIGHBOUR: 'it returns false'. Refute it at one input. -/
def valueShowsWrong : ChangeSpec := { name := "valueShows", fn := fun _ => fun
  | [d] => { results := [.lit (.bool false)], args := [d] }
  | _ => none }
def ValueShowsWrongFalsely : Prop := valueShowsRow.holds Try.pinned (OpenSpec.ofChange valueShowsWrong)

/-- 'panicroadlaw.ValueLines': WHATEVER THE INPUT: true; the input reads as it did. -/
def valueLinesSpec : ChangeSpec := { name := "valueLines", fn := fun _ => fun
  | [d] => { results := [.lit (.bool true)], args := [d] }
  | _ => none }
def valueLinesRow : OpenClaim := { program := "ytniepfpjklccmac", sum := "6896d316ae278cd1f24a8279edbfe48c467544b110fa1f7d35ad03b22d83a611", func := "panicroad/panicroadlaw.ValueLines", spec := "valueLines", inPlace := ["internal/abi.NoEscape", "internal/bytealg.MakeNoZero"], apart := false }
def ValueLinesSaid : Prop := valueLinesRow.holds Try.pinned (OpenSpec.ofChange valueLinesSpec)

/-- ITS FALSE NEIGHBOUR: 'it returns false'. Refute it at one input. -/
def valueLinesWrong : ChangeSpec := { name := "valueLines", fn := fun _ => fun
  | [d] => { results := [.lit (.bool false)], args := [d] }
  | _ => none }
def ValueLinesWrongFalsely : Prop := valueLinesRow.holds Try.pinned (OpenSpec.ofChange valueLinesWrong)

/-- 'panicroadlaw.ReportValues': WHATEVER THE INPUT: true; the input reads as it did. -/
def reportValuesSpec : ChangeSpec := { name := "reportValues", fn := fun _ => fun
  | [d] => { results := [.lit (.bool true)], args := [d] }
  | _ => none }
def reportValuesRow : OpenClaim := { program := "ytniepfpjklccmac", sum := "6896d316ae278cd1f24a8279edbfe48c467544b110fa1f7d35ad03b22d83a611", func := "panicroad/panicroadlaw.ReportValues", spec := "reportValues", inPlace := ["internal/abi.NoEscape", "internal/bytealg.MakeNoZero"], apart := false }
def ReportValuesSaid : Prop := reportValuesRow.holds Try.pinned (OpenSpec.ofChange reportValuesSpec)

/-- ITS FALSE NEIGHBOUR: 'it returns false'. Refute it at one input. -/
def reportValuesWrong : ChangeSpec := { name := "reportValues", fn := fun _ => fun
  | [d] => { results := [.lit (.bool false)], args := [d] }
  | _ => none }
def ReportValuesWrongFalsely : Prop := reportValuesRow.holds Try.pinned (OpenSpec.ofChange reportValuesWrong)

/-- 'panicroadlaw.ReportLines': WHATEVER THE INPUT: true; the input reads as it did. -/
def reportLinesSpec : ChangeSpec := { name := "reportLines", fn := fun _ => fun
  | [d] => { results := [.lit (.bool true)], args := [d] }
  | _ => none }
def reportLinesRow : OpenClaim := { program := "ytniepfpjklccmac", sum := "6896d316ae278cd1f24a8279edbfe48c467544b110fa1f7d35ad03b22d83a611", func := "panicroad/panicroadlaw.ReportLines", spec := "reportLines", apart := false }
def ReportLinesSaid : Prop := reportLinesRow.holds Try.pinned (OpenSpec.ofChange reportLinesSpec)

/-- ITS FALSE NEIGHBOUR: 'it returns false'. Refute it at one input. -/
def reportLinesWrong : ChangeSpec := { name := "reportLines", fn := fun _ => fun
  | [d] => { results := [.lit (.bool false)], args := [d] }
  | _ => none }
def ReportLinesWrongFalsely : Prop := reportLinesRow.holds Try.pinned (OpenSpec.ofChange reportLinesWrong)

/-- 'panicroadlaw.ReportCrashes': WHATEVER THE INPUT: true; the input reads as it did. -/
def reportCrashesSpec : ChangeSpec := { name := "reportCrashes", fn := fun _ => fun
  | [d] => { results := [.lit (.bool true)], args := [d] }
  | _ => none }
def reportCrashesRow : OpenClaim := { program := "ytniepfpjklccmac", sum := "6896d316ae278cd1f24a8279edbfe48c467544b110fa1f7d35ad03b22d83a611", func := "panicroad/panicroadlaw.ReportCrashes", spec := "reportCrashes", inPlace := ["internal/abi.NoEscape", "internal/bytealg.IndexByteString"], apart := false }
def ReportCrashesSaid : Prop := reportCrashesRow.holds Try.pinned (OpenSpec.ofChange reportCrashesSpec)

/-- ITS FALSE NEIGHBOUR: 'it returns false'. Refute it at one input. -/
def reportCrashesWrong : ChangeSpec := { name := "reportCrashes", fn := fun _ => fun
  | [d] => { results := [.lit (.bool false)], args := [d] }
  | _ => none }
def ReportCrashesWrongFalsely : Prop := reportCrashesRow.holds Try.pinned (OpenSpec.ofChange reportCrashesWrong)

/-- 'panicroadlaw.ReportReads': WHATEVER THE INPUT: true; the input reads as it did. -/
def reportReadsSpec : ChangeSpec := { name := "reportReads", fn := fun _ => fun
  | [d] => { results := [.lit (.bool true)], args := [d] }
  | _ => none }
def reportReadsRow : OpenClaim := { program := "ytniepfpjklccmac", sum := "6896d316ae278cd1f24a8279edbfe48c467544b110fa1f7d35ad03b22d83a611", func := "panicroad/panicroadlaw.ReportReads", spec := "reportReads", inPlace := ["internal/bytealg.IndexByteString", "internal/bytealg.IndexString", "internal/abi.NoEscape"], named := ["internal/bytealg.MaxLen"], apart := false }
def ReportReadsSaid : Prop := reportReadsRow.holds Try.pinned (OpenSpec.ofChange reportReadsSpec)

/-- ITS FALSE NEIGHBOUR: 'it returns false'. Refute it at one input. -/
def reportReadsWrong : ChangeSpec := { name := "reportReads", fn := fun _ => fun
  | [d] => { results := [.lit (.bool false)], args := [d] }
  | _ => none }
def ReportReadsWrongFalsely : Prop := reportReadsRow.holds Try.pinned (OpenSpec.ofChange reportReadsWrong)

/-- 'panicroadlaw.PanicsPlays': WHATEVER THE INPUT: true; the input reads as it did. -/
def panicsPlaysSpec : ChangeSpec := { name := "panicsPlays", fn := fun _ => fun
  | [d] => { results := [.lit (.bool true)], args := [d] }
  | _ => none }
def panicsPlaysRow : OpenClaim := { program := "ytniepfpjklccmac", sum := "6896d316ae278cd1f24a8279edbfe48c467544b110fa1f7d35ad03b22d83a611", func := "panicroad/panicroadlaw.PanicsPlays", spec := "panicsPlays", recurses := true, apart := false }
def PanicsPlaysSaid : Prop := panicsPlaysRow.holds Try.pinned (OpenSpec.ofChange panicsPlaysSpec)

/-- ITS FALSE NEIGHBOUR: 'it returns false'. Refute it at one input. -/
def panicsPlaysWrong : ChangeSpec := { name := "panicsPlays", fn := fun _ => fun
  | [d] => { results := [.lit (.bool false)], args := [d] }
  | _ => none }
def PanicsPlaysWrongFalsely : Prop := panicsPlaysRow.holds Try.pinned (OpenSpec.ofChange panicsPlaysWrong)

/-- 'panicroadlaw.PanicsSteps': WHATEVER THE INPUT: true; the input reads as it did. -/
def panicsStepsSpec : ChangeSpec := { name := "panicsSteps", fn := fun _ => fun
  | [d1, d2] => { results := [.lit (.bool true)], args := [d1, d2] }
  | _ => none }
def panicsStepsRow : OpenClaim := { program := "ytniepfpjklccmac", sum := "6896d316ae278cd1f24a8279edbfe48c467544b110fa1f7d35ad03b22d83a611", func := "panicroad/panicroadlaw.PanicsSteps", spec := "panicsSteps", recurses := true, apart := false }
def PanicsStepsSaid : Prop := panicsStepsRow.holds Try.pinned (OpenSpec.ofChange panicsStepsSpec)

/-- ITS FALSE NEIGHBOUR: 'it returns false'. Refute it at one input. -/
def panicsStepsWrong : ChangeSpec := { name := "panicsSteps", fn := fun _ => fun
  | [d1, d2] => { results := [.lit (.bool false)], args := [d1, d2] }
  | _ => none }
def PanicsStepsWrongFalsely : Prop := panicsStepsRow.holds Try.pinned (OpenSpec.ofChange panicsStepsWrong)

/-- 'panicroadlaw.HeapNil': WHATEVER THE INPUT: true; the input reads as it did. -/
def heapNilSpec : ChangeSpec := { name := "heapNil", fn := fun _ => fun
  | [d1, d2, d3, d4, d5] => { results := [.lit (.bool true)], args := [d1, d2, d3, d4, d5] }
  | _ => none }
def heapNilRow : OpenClaim := { program := "ytniepfpjklccmac", sum := "6896d316ae278cd1f24a8279edbfe48c467544b110fa1f7d35ad03b22d83a611", func := "panicroad/panicroadlaw.HeapNil", spec := "heapNil", apart := false }
def HeapNilSaid : Prop := heapNilRow.holds Try.pinned (OpenSpec.ofChange heapNilSpec)

/-- ITS FALSE NEIGHBOUR: 'it returns false'. Refute it at one input. -/
def heapNilWrong : ChangeSpec := { name := "heapNil", fn := fun _ => fun
  | [d1, d2, d3, d4, d5] => { results := [.lit (.bool false)], args := [d1, d2, d3, d4, d5] }
  | _ => none }
def HeapNilWrongFalsely : Prop := heapNilRow.holds Try.pinned (OpenSpec.ofChange heapNilWrong)

/- THE SECOND FORM. 'bulk': how many values and letters a reading holds, each counted each time it is reached (what is shared counts as often as it is met; a slice's spare places count too). A statement '..UptoSaid' is the law's where the arguments, and the package variables that the reading takes, are together of bulk at most 1048576: NARROWER than '..Said'. Prove '..Said' where nothing that the law and all that it calls make is longer than what came in: it says more and counts as full. Else prove '..UptoSaid'. A law counts once. -/
mutual
def uptoBulk {H : Type} : DataW H → Nat
  | .lit (.string bytes) => bytes.length + 1
  | .lit _ => 1
  | .nil => 1
  | .ptr d => uptoBulk d + 1
  | .slice elems spare => uptoBulkAll elems + uptoBulkAll spare + 1
  | .agg parts => uptoBulkAll parts + 1
  | .iface _ d => uptoBulk d + 1
  | .map entries => uptoBulkEntries entries + 1
  | .held _ => 1
def uptoBulkAll {H : Type} : List (DataW H) → Nat
  | [] => 0
  | d :: r => uptoBulk d + uptoBulkAll r
def uptoBulkEntries {H : Type} : List (Lit × DataW H) → Nat
  | [] => 0
  | x :: r => uptoBulkEntry x + uptoBulkEntries r
def uptoBulkEntry {H : Type} : Lit × DataW H → Nat
  | (.string bytes, d) => bytes.length + uptoBulk d + 1
  | (_, d) => uptoBulk d + 1
 end
def uptoSmall : (H : Type) → List (DataW H) → Bool := fun _ ds => decide (uptoBulkAll ds ≤ 1048576)
def OpenSpec.upto (s : _root_.Go.ChangeSpec) : _root_.Go.OpenSpec := { _root_.Go.OpenSpec.ofChange s with cond := some uptoSmall }

/-- 'panicroadlaw.ValueOrders', WHERE WHAT IT READS IS OF BULK AT MOST 1048576: true; the input reads as it did. -/
def valueOrdersUptoRow : OpenClaim := { program := "ytniepfpjklccmac", sum := "6896d316ae278cd1f24a8279edbfe48c467544b110fa1f7d35ad03b22d83a611", func := "panicroad/panicroadlaw.ValueOrders", spec := "valueOrders", inPlace := ["internal/bytealg.abigen_runtime_cmpstring"], apart := false, narrowed := true }
def ValueOrdersUptoSaid : Prop := valueOrdersUptoRow.holds Try.pinned (OpenSpec.upto valueOrdersSpec)

/-- 'panicroadlaw.ValueSame', WHERE WHAT IT READS IS OF BULK AT MOST 1048576: true; the input reads as it did. -/
def valueSameUptoRow : OpenClaim := { program := "ytniepfpjklccmac", sum := "6896d316ae278cd1f24a8279edbfe48c467544b110fa1f7d35ad03b22d83a611", func := "panicroad/panicroadlaw.ValueSame", spec := "valueSame", unfollowed := true, recurses := true, apart := false, narrowed := true }
def ValueSameUptoSaid : Prop := valueSameUptoRow.holds Try.pinned (OpenSpec.upto valueSameSpec)

/-- 'panicroadlaw.ValuePlains', WHERE WHAT IT READS IS OF BULK AT MOST 1048576: true; the input reads as it did. -/
def valuePlainsUptoRow : OpenClaim := { program := "ytniepfpjklccmac", sum := "6896d316ae278cd1f24a8279edbfe48c467544b110fa1f7d35ad03b22d83a611", func := "panicroad/panicroadlaw.ValuePlains", spec := "valuePlains", apart := false, narrowed := true }
def ValuePlainsUptoSaid : Prop := valuePlainsUptoRow.holds Try.pinned (OpenSpec.upto valuePlainsSpec)

/-- 'panicroadlaw.ValueShows', WHERE WHAT IT READS IS OF BULK AT MOST 1048576: true; the input reads as it did. -/
def valueShowsUptoRow : OpenClaim := { program := "ytniepfpjklccmac", sum := "6896d316ae278cd1f24a8279edbfe48c467544b110fa1f7d35ad03b22d83a611", func := "panicroad/panicroadlaw.ValueShows", spec := "valueShows", inPlace := ["internal/abi.NoEscape", "internal/bytealg.MakeNoZero"], apart := false, narrowed := true }
def ValueShowsUptoSaid : Prop := valueShowsUptoRow.holds Try.pinned (OpenSpec.upto valueShowsSpec)

/-- 'panicroadlaw.ValueLines', WHERE WHAT IT READS IS OF BULK AT MOST 1048576: true; the input reads as it did. -/
def valueLinesUptoRow : OpenClaim := { program := "ytniepfpjklccmac", sum := "6896d316ae278cd1f24a8279edbfe48c467544b110fa1f7d35ad03b22d83a611", func := "panicroad/panicroadlaw.ValueLines", spec := "valueLines", inPlace := ["internal/abi.NoEscape", "internal/bytealg.MakeNoZero"], apart := false, narrowed := true }
def ValueLinesUptoSaid : Prop := valueLinesUptoRow.holds Try.pinned (OpenSpec.upto valueLinesSpec)

/-- 'panicroadlaw.ReportValues', WHERE WHAT IT READS IS OF BULK AT MOST 1048576: true; the input reads as it did. -/
def reportValuesUptoRow : OpenClaim := { program := "ytniepfpjklccmac", sum := "6896d316ae278cd1f24a8279edbfe48c467544b110fa1f7d35ad03b22d83a611", func := "panicroad/panicroadlaw.ReportValues", spec := "reportValues", inPlace := ["internal/abi.NoEscape", "internal/bytealg.MakeNoZero"], apart := false, narrowed := true }
def ReportValuesUptoSaid : Prop := reportValuesUptoRow.holds Try.pinned (OpenSpec.upto reportValuesSpec)

/-- 'panicroadlaw.ReportLines', WHERE WHAT IT READS IS OF BULK AT MOST 1048576: true; the input reads as it did. -/
def reportLinesUptoRow : OpenClaim := { program := "ytniepfpjklccmac", sum := "6896d316ae278cd1f24a8279edbfe48c467544b110fa1f7d35ad03b22d83a611", func := "panicroad/panicroadlaw.ReportLines", spec := "reportLines", apart := false, narrowed := true }
def ReportLinesUptoSaid : Prop := reportLinesUptoRow.holds Try.pinned (OpenSpec.upto reportLinesSpec)

/-- 'panicroadlaw.ReportCrashes', WHERE WHAT IT READS IS OF BULK AT MOST 1048576: true; the input reads as it did. -/
def reportCrashesUptoRow : OpenClaim := { program := "ytniepfpjklccmac", sum := "6896d316ae278cd1f24a8279edbfe48c467544b110fa1f7d35ad03b22d83a611", func := "panicroad/panicroadlaw.ReportCrashes", spec := "reportCrashes", inPlace := ["internal/abi.NoEscape", "internal/bytealg.IndexByteString"], apart := false, narrowed := true }
def ReportCrashesUptoSaid : Prop := reportCrashesUptoRow.holds Try.pinned (OpenSpec.upto reportCrashesSpec)

/-- 'panicroadlaw.ReportReads', WHERE WHAT IT READS IS OF BULK AT MOST 1048576: true; the input reads as it did. -/
def reportReadsUptoRow : OpenClaim := { program := "ytniepfpjklccmac", sum := "6896d316ae278cd1f24a8279edbfe48c467544b110fa1f7d35ad03b22d83a611", func := "panicroad/panicroadlaw.ReportReads", spec := "reportReads", inPlace := ["internal/bytealg.IndexByteString", "internal/bytealg.IndexString", "internal/abi.NoEscape"], named := ["internal/bytealg.MaxLen"], apart := false, narrowed := true }
def ReportReadsUptoSaid : Prop := reportReadsUptoRow.holds Try.pinned (OpenSpec.upto reportReadsSpec)

/-- 'panicroadlaw.PanicsPlays', WHERE WHAT IT READS IS OF BULK AT MOST 1048576: true; the input reads as it did. -/
def panicsPlaysUptoRow : OpenClaim := { program := "ytniepfpjklccmac", sum := "6896d316ae278cd1f24a8279edbfe48c467544b110fa1f7d35ad03b22d83a611", func := "panicroad/panicroadlaw.PanicsPlays", spec := "panicsPlays", recurses := true, apart := false, narrowed := true }
def PanicsPlaysUptoSaid : Prop := panicsPlaysUptoRow.holds Try.pinned (OpenSpec.upto panicsPlaysSpec)

/-- 'panicroadlaw.PanicsSteps', WHERE WHAT IT READS IS OF BULK AT MOST 1048576: true; the input reads as it did. -/
def panicsStepsUptoRow : OpenClaim := { program := "ytniepfpjklccmac", sum := "6896d316ae278cd1f24a8279edbfe48c467544b110fa1f7d35ad03b22d83a611", func := "panicroad/panicroadlaw.PanicsSteps", spec := "panicsSteps", recurses := true, apart := false, narrowed := true }
def PanicsStepsUptoSaid : Prop := panicsStepsUptoRow.holds Try.pinned (OpenSpec.upto panicsStepsSpec)

/-- 'panicroadlaw.HeapNil', WHERE WHAT IT READS IS OF BULK AT MOST 1048576: true; the input reads as it did. -/
def heapNilUptoRow : OpenClaim := { program := "ytniepfpjklccmac", sum := "6896d316ae278cd1f24a8279edbfe48c467544b110fa1f7d35ad03b22d83a611", func := "panicroad/panicroadlaw.HeapNil", spec := "heapNil", apart := false, narrowed := true }
def HeapNilUptoSaid : Prop := heapNilUptoRow.holds Try.pinned (OpenSpec.upto heapNilSpec)

end Rows
end Go.Proofs.Ytniepfpjklccmac
