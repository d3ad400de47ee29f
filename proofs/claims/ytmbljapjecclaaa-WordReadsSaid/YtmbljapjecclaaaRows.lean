/-
  No cell of these rows narrows 'for every input' (looked for: loops, veiled, ifaces, maps, wideKeys, modest, calm, conditions, laid).
  DERIVED. THE GIVEN ROWS OF THIS SEAT. 12 by the template 'for every input the law returns true; each argument reads behind the call as it read before'; 0 by the template 'total and deterministic' (their statements: YtmbljapjecclaaaTotals.lean).
  GIVEN WITH THE SEED: the statements are not yours to turn. If you find one false, say at which input.
  Laid BY PROGRAM, IN A SANDBOX (cutbox-rows.mjs): the forced cells as the released guide's own fill.sh prints them over the translation 87150c3c2070bb6f… (all of the seat's roots in one cut). By AI agents, Wed Nov 11 2026. No macro, syntax, notation, axiom, sorry.
-/
import Derived.Test.YtmbljapjecclaaaChecked
import GoSem.Claim
import GoSem.ClaimJoined
import GoSem.ClaimMapViews
import Derived.JoinedTies
import Derived.KernelRfl
namespace Go.Proofs.Ytmbljapjecclaaa
/- THE CELL 'sum', in the pinned program and in every row, IS THE sha256 OF THE DUMP (.gsa) THAT YtmbljapjecclaaaProg.lean LOADS. Nothing in Lean hashes anything: it is a label: what it is worth is what the hold of that sum in a sandbox is worth. -/
noncomputable def Try.pinned : Pinned := { name := "ytmbljapjecclaaa", sum := "87150c3c2070bb6f4c0aa0ecc3464dcb4ff0990d0b0c6acc6c6b61bef624aa0c", checked := Try.checked }
namespace Rows
def none {H : Type} : Left H := { results := [], args := [] }

/-- 'panicroadlaw.WordReads': WHATEVER THE INPUT: true; the input reads as it did. -/
def wordReadsSpec : ChangeSpec := { name := "wordReads", fn := fun _ => fun
  | [d] => { results := [.lit (.bool true)], args := [d] }
  | _ => none }
def wordReadsRow : OpenClaim := { program := "ytmbljapjecclaaa", sum := "87150c3c2070bb6f4c0aa0ecc3464dcb4ff0990d0b0c6acc6c6b61bef624aa0c", func := "panicroad/panicroadlaw.WordReads", spec := "wordReads", apart := false }
def WordReadsSaid : Prop := wordReadsRow.holds Try.pinned (OpenSpec.ofChange wordReadsSpec)

/-- ITS FALSE NEIGHBOUR: 'it returns false'. Refute it at one input. -/
def wordReadsWrong : ChangeSpec := { name := "wordReads", fn := fun _ => fun
  | [d] => { results := [.lit (.bool false)], args := [d] }
  | _ => none }
def WordReadsWrongFalsely : Prop := wordReadsRow.holds Try.pinned (OpenSpec.ofChange wordReadsWrong)

/-- 'panicroadlaw.WordDoes': WHATEVER THE INPUT: true; the input reads as it did. -/
def wordDoesSpec : ChangeSpec := { name := "wordDoes", fn := fun _ => fun
  | [d1, d2, d3] => { results := [.lit (.bool true)], args := [d1, d2, d3] }
  | _ => none }
def wordDoesRow : OpenClaim := { program := "ytmbljapjecclaaa", sum := "87150c3c2070bb6f4c0aa0ecc3464dcb4ff0990d0b0c6acc6c6b61bef624aa0c", func := "panicroad/panicroadlaw.WordDoes", spec := "wordDoes", apart := false }
def WordDoesSaid : Prop := wordDoesRow.holds Try.pinned (OpenSpec.ofChange wordDoesSpec)

/-- ITS FALSE NEIGHBOUR: 'it returns false'. Refute it at one input. -/
def wordDoesWrong : ChangeSpec := { name := "wordDoes", fn := fun _ => fun
  | [d1, d2, d3] => { results := [.lit (.bool false)], args := [d1, d2, d3] }
  | _ => none }
def WordDoesWrongFalsely : Prop := wordDoesRow.holds Try.pinned (OpenSpec.ofChange wordDoesWrong)

/-- 'panicroadlaw.DefersPush': WHATEVER THE INPUT: true; the input reads as it did. -/
def defersPushSpec : ChangeSpec := { name := "defersPush", fn := fun _ => fun
  | [d1, d2] => { results := [.lit (.bool true)], args := [d1, d2] }
  | _ => none }
def defersPushRow : OpenClaim := { program := "ytmbljapjecclaaa", sum := "87150c3c2070bb6f4c0aa0ecc3464dcb4ff0990d0b0c6acc6c6b61bef624aa0c", func := "panicroad/panicroadlaw.DefersPush", spec := "defersPush", apart := false }
def DefersPushSaid : Prop := defersPushRow.holds Try.pinned (OpenSpec.ofChange defersPushSpec)

/-- ITS FALSE NEIGHBOUR: 'it returns false'. Refute it at one input. -/
def defersPushWrong : ChangeSpec := { name := "defersPush", fn := fun _ => fun
  | [d1, d2] => { results := [.lit (.bool false)], args := [d1, d2] }
  | _ => none }
def DefersPushWrongFalsely : Prop := defersPushRow.holds Try.pinned (OpenSpec.ofChange defersPushWrong)

/-- 'panicroadlaw.DefersPop': WHATEVER THE INPUT: true; the input reads as it did. -/
def defersPopSpec : ChangeSpec := { name := "defersPop", fn := fun _ => fun
  | [d] => { results := [.lit (.bool true)], args := [d] }
  | _ => none }
def defersPopRow : OpenClaim := { program := "ytmbljapjecclaaa", sum := "87150c3c2070bb6f4c0aa0ecc3464dcb4ff0990d0b0c6acc6c6b61bef624aa0c", func := "panicroad/panicroadlaw.DefersPop", spec := "defersPop", apart := false }
def DefersPopSaid : Prop := defersPopRow.holds Try.pinned (OpenSpec.ofChange defersPopSpec)

/-- ITS FALSE NEIGHBOUR: 'it returns false'. Refute it at one input. -/
def defersPopWrong : ChangeSpec := { name := "defersPop", fn := fun _ => fun
  | [d] => { results := [.lit (.bool false)], args := [d] }
  | _ => none }
def DefersPopWrongFalsely : Prop := defersPopRow.holds Try.pinned (OpenSpec.ofChange defersPopWrong)

/-- 'panicroadlaw.DefersOrders': WHATEVER THE INPUT: true; the input reads as it did. -/
def defersOrdersSpec : ChangeSpec := { name := "defersOrders", fn := fun _ => fun
  | [d1, d2] => { results := [.lit (.bool true)], args := [d1, d2] }
  | _ => none }
def defersOrdersRow : OpenClaim := { program := "ytmbljapjecclaaa", sum := "87150c3c2070bb6f4c0aa0ecc3464dcb4ff0990d0b0c6acc6c6b61bef624aa0c", func := "panicroad/panicroadlaw.DefersOrders", spec := "defersOrders", apart := false }
def DefersOrdersSaid : Prop := defersOrdersRow.holds Try.pinned (OpenSpec.ofChange defersOrdersSpec)

/-- ITS FALSE NEIGHBOUR: 'it returns false'. Refute it at one input. -/
def defersOrdersWrong : ChangeSpec := { name := "defersOrders", fn := fun _ => fun
  | [d1, d2] => { results := [.lit (.bool false)], args := [d1, d2] }
  | _ => none }
def DefersOrdersWrongFalsely : Prop := defersOrdersRow.holds Try.pinned (OpenSpec.ofChange defersOrdersWrong)

/-- 'panicroadlaw.ValueShows': WHATEVER THE INPUT: true; the input reads as it did. -/
def valueShowsSpec : ChangeSpec := { name := "valueShows", fn := fun _ => fun
  | [d] => { results := [.lit (.bool true)], args := [d] }
  | _ => none }
def valueShowsRow : OpenClaim := { program := "ytmbljapjecclaaa", sum := "87150c3c2070bb6f4c0aa0ecc3464dcb4ff0990d0b0c6acc6c6b61bef624aa0c", func := "panicroad/panicroadlaw.ValueShows", spec := "valueShows", inPlace := ["internal/abi.NoEscape", "internal/bytealg.MakeNoZero"], apart := false }
def ValueShowsSaid : Prop := valueShowsRow.holds Try.pinned (OpenSpec.ofChange valueShowsSpec)

/-- ITS FALSE NEIGHBOUR: 'it returns false'. Refute it at one input. -/
def valueShowsWrong : ChangeSpec := { name := "valueShows", fn := fun _ => fun
  | [d] => { results := [.lit (.bool false)], args := [d] }
  | _ => none }
def ValueShowsWrongFalsely : Prop := valueShowsRow.holds Try.pinned (OpenSpec.ofChange valueShowsWrong)

/-- 'panicroadlaw.ValueLines': WHATEVER THE INPUT: true; the input reads as it did. -/
def valueLinesSpec : ChangeSpec := { name := "valueLines", fn := fun _ => fun
  | [d] => { results := [.lit (.bool true)], args := [d] }
  | _ => none }
def valueLinesRow : OpenClaim := { program := "ytmbljapjecclaaa", sum := "87150c3c2070bb6f4c0aa0ecc3464dcb4ff0990d0b0c6acc6c6b61bef624aa0c", func := "panicroad/panicroadlaw.ValueLines", spec := "valueLines", inPlace := ["internal/abi.NoEscape", "internal/bytealg.MakeNoZero"], apart := false }
def ValueLinesSaid : Prop := valueLinesRow.holds Try.pinned (OpenSpec.ofChange valueLinesSpec)

/-- ITS FALSE NEIGHBOUR: 'it returns false'. Refute it at one input. -/
def valueLinesWrong : ChangeSpec := { name := "valueLines", fn := fun _ => fun
  | [d] => { results := [.lit (.bool false)], args := [d] }
  | _ => none }
def ValueLinesWrongFalsely : Prop := valueLinesRow.holds Try.pinned (OpenSpec.ofChange valueLinesWrong)

/-- 'panicroadlaw.ReportTexts': WHATEVER THE INPUT: true; the input reads as it did. -/
def reportTextsSpec : ChangeSpec := { name := "reportTexts", fn := fun _ => fun
  | [d] => { results := [.lit (.bool true)], args := [d] }
  | _ => none }
def reportTextsRow : OpenClaim := { program := "ytmbljapjecclaaa", sum := "87150c3c2070bb6f4c0aa0ecc3464dcb4ff0990d0b0c6acc6c6b61bef624aa0c", func := "panicroad/panicroadlaw.ReportTexts", spec := "reportTexts", inPlace := ["internal/bytealg.IndexByteString"], apart := false }
def ReportTextsSaid : Prop := reportTextsRow.holds Try.pinned (OpenSpec.ofChange reportTextsSpec)

/-- ITS FALSE NEIGHBOUR: 'it returns false'. Refute it at one input. -/
def reportTextsWrong : ChangeSpec := { name := "reportTexts", fn := fun _ => fun
  | [d] => { results := [.lit (.bool false)], args := [d] }
  | _ => none }
def ReportTextsWrongFalsely : Prop := reportTextsRow.holds Try.pinned (OpenSpec.ofChange reportTextsWrong)

/-- 'panicroadlaw.ReportValues': WHATEVER THE INPUT: true; the input reads as it did. -/
def reportValuesSpec : ChangeSpec := { name := "reportValues", fn := fun _ => fun
  | [d] => { results := [.lit (.bool true)], args := [d] }
  | _ => none }
def reportValuesRow : OpenClaim := { program := "ytmbljapjecclaaa", sum := "87150c3c2070bb6f4c0aa0ecc3464dcb4ff0990d0b0c6acc6c6b61bef624aa0c", func := "panicroad/panicroadlaw.ReportValues", spec := "reportValues", inPlace := ["internal/abi.NoEscape", "internal/bytealg.MakeNoZero"], apart := false }
def ReportValuesSaid : Prop := reportValuesRow.holds Try.pinned (OpenSpec.ofChange reportValuesSpec)

/-- ITS FALSE NEIGHBOUR: 'it returns false'. Refute it at one input. -/
def reportValuesWrong : ChangeSpec := { name := "reportValues", fn := fun _ => fun
  | [d] => { results := [.lit (.bool false)], args := [d] }
  | _ => none }
def ReportValuesWrongFalsely : Prop := reportValuesRow.holds Try.pinned (OpenSpec.ofChange reportValuesWrong)

/-- 'panicroadlaw.ReportCrashes': WHATEVER THE INPUT: true; the input reads as it did. -/
def reportCrashesSpec : ChangeSpec := { name := "reportCrashes", fn := fun _ => fun
  | [d] => { results := [.lit (.bool true)], args := [d] }
  | _ => none }
def reportCrashesRow : OpenClaim := { program := "ytmbljapjecclaaa", sum := "87150c3c2070bb6f4c0aa0ecc3464dcb4ff0990d0b0c6acc6c6b61bef624aa0c", func := "panicroad/panicroadlaw.ReportCrashes", spec := "reportCrashes", inPlace := ["internal/abi.NoEscape", "internal/bytealg.IndexByteString"], apart := false }
def ReportCrashesSaid : Prop := reportCrashesRow.holds Try.pinned (OpenSpec.ofChange reportCrashesSpec)

/-- ITS FALSE NEIGHBOUR: 'it returns false'. Refute it at one input. -/
def reportCrashesWrong : ChangeSpec := { name := "reportCrashes", fn := fun _ => fun
  | [d] => { results := [.lit (.bool false)], args := [d] }
  | _ => none }
def ReportCrashesWrongFalsely : Prop := reportCrashesRow.holds Try.pinned (OpenSpec.ofChange reportCrashesWrong)

/-- 'panicroadlaw.ScanQuotes': WHATEVER THE INPUT: true; the input reads as it did. -/
def scanQuotesSpec : ChangeSpec := { name := "scanQuotes", fn := fun _ => fun
  | [d] => { results := [.lit (.bool true)], args := [d] }
  | _ => none }
def scanQuotesRow : OpenClaim := { program := "ytmbljapjecclaaa", sum := "87150c3c2070bb6f4c0aa0ecc3464dcb4ff0990d0b0c6acc6c6b61bef624aa0c", func := "panicroad/panicroadlaw.ScanQuotes", spec := "scanQuotes", apart := false }
def ScanQuotesSaid : Prop := scanQuotesRow.holds Try.pinned (OpenSpec.ofChange scanQuotesSpec)

/-- ITS FALSE NEIGHBOUR: 'it returns false'. Refute it at one input. -/
def scanQuotesWrong : ChangeSpec := { name := "scanQuotes", fn := fun _ => fun
  | [d] => { results := [.lit (.bool false)], args := [d] }
  | _ => none }
def ScanQuotesWrongFalsely : Prop := scanQuotesRow.holds Try.pinned (OpenSpec.ofChange scanQuotesWrong)

/-- 'panicroadlaw.ScanUnquotes': WHATEVER THE INPUT: true; the input reads as it did. -/
def scanUnquotesSpec : ChangeSpec := { name := "scanUnquotes", fn := fun _ => fun
  | [d] => { results := [.lit (.bool true)], args := [d] }
  | _ => none }
def scanUnquotesRow : OpenClaim := { program := "ytmbljapjecclaaa", sum := "87150c3c2070bb6f4c0aa0ecc3464dcb4ff0990d0b0c6acc6c6b61bef624aa0c", func := "panicroad/panicroadlaw.ScanUnquotes", spec := "scanUnquotes", inPlace := ["internal/bytealg.IndexByteString"], apart := false }
def ScanUnquotesSaid : Prop := scanUnquotesRow.holds Try.pinned (OpenSpec.ofChange scanUnquotesSpec)

/-- ITS FALSE NEIGHBOUR: 'it returns false'. Refute it at one input. -/
def scanUnquotesWrong : ChangeSpec := { name := "scanUnquotes", fn := fun _ => fun
  | [d] => { results := [.lit (.bool false)], args := [d] }
  | _ => none }
def ScanUnquotesWrongFalsely : Prop := scanUnquotesRow.holds Try.pinned (OpenSpec.ofChange scanUnquotesWrong)

/- THE SECOND FORM. 'bulk': how many values and letters a reading holds, each counted each time it is reached (what is shared counts as often as it is met; a slice's spare places count too). A statement '..UptoSaid' is the law's where the arguments, and the package variables that the reading takes, are together of bulk at most 1048576: NARROWER than '..Said'. Prove '..Said' where nothing that the law and all that it calls make is longer than what came in: it says more and counts as full. Else prove '..UptoSaid'. A law counts once. -/
mutual
def uptoBulk {H : Type} : DataW H → Nat
  | .lit (.string bytes) => bytes.length + 1
  | .lit _ => 1
  | .nil => 1
  | .ptr d => uptoBulk d + 1
  | .slice elems spare => uptoBulkAll elems + uptoBulkAll spare + 1
  | .agg parts => uptoBulkAll parts + 1
  | .iface _ d => uptoBulk d + 1
  | .map entries => uptoBulkEntries entries + 1
  | .held _ => 1
def uptoBulkAll {H : Type} : List (DataW H) → Nat
  | [] => 0
  | d :: r => uptoBulk d + uptoBulkAll r
def uptoBulkEntries {H : Type} : List (Lit × DataW H) → Nat
  | [] => 0
  | x :: r => uptoBulkEntry x + uptoBulkEntries r
def uptoBulkEntry {H : Type} : Lit × DataW H → Nat
  | (.string bytes, d) => bytes.length + uptoBulk d + 1
  | (_, d) => uptoBulk d + 1
 end
def uptoSmall : (H : Type) → List (DataW H) → Bool := fun _ ds => decide (uptoBulkAll ds ≤ 1048576)
def OpenSpec.upto (s : _root_.Go.ChangeSpec) : _root_.Go.OpenSpec := { _root_.Go.OpenSpec.ofChange s with cond := some uptoSmall }

/-- 'panicroadlaw.WordReads', WHERE WHAT IT READS IS OF BULK AT MOST 1048576: true; the input reads as it did. -/
def wordReadsUptoRow : OpenClaim := { program := "ytmbljapjecclaaa", sum := "87150c3c2070bb6f4c0aa0ecc3464dcb4ff0990d0b0c6acc6c6b61bef624aa0c", func := "panicroad/panicroadlaw.WordReads", spec := "wordReads", apart := false, narrowed := true }
def WordReadsUptoSaid : Prop := wordReadsUptoRow.holds Try.pinned (OpenSpec.upto wordReadsSpec)

/-- 'panicroadlaw.WordDoes', WHERE WHAT IT READS IS OF BULK AT MOST 1048576: true; the input reads as it did. -/
def wordDoesUptoRow : OpenClaim := { program := "ytmbljapjecclaaa", sum := "87150c3c2070bb6f4c0aa0ecc3464dcb4ff0990d0b0c6acc6c6b61bef624aa0c", func := "panicroad/panicroadlaw.WordDoes", spec := "wordDoes", apart := false, narrowed := true }
def WordDoesUptoSaid : Prop := wordDoesUptoRow.holds Try.pinned (OpenSpec.upto wordDoesSpec)

/-- 'panicroadlaw.DefersPush', WHERE WHAT IT READS IS OF BULK AT MOST 1048576: true; the input reads as it did. -/
def defersPushUptoRow : OpenClaim := { program := "ytmbljapjecclaaa", sum := "87150c3c2070bb6f4c0aa0ecc3464dcb4ff0990d0b0c6acc6c6b61bef624aa0c", func := "panicroad/panicroadlaw.DefersPush", spec := "defersPush", apart := false, narrowed := true }
def DefersPushUptoSaid : Prop := defersPushUptoRow.holds Try.pinned (OpenSpec.upto defersPushSpec)

/-- 'panicroadlaw.DefersPop', WHERE WHAT IT READS IS OF BULK AT MOST 1048576: true; the input reads as it did. -/
def defersPopUptoRow : OpenClaim := { program := "ytmbljapjecclaaa", sum := "87150c3c2070bb6f4c0aa0ecc3464dcb4ff0990d0b0c6acc6c6b61bef624aa0c", func := "panicroad/panicroadlaw.DefersPop", spec := "defersPop", apart := false, narrowed := true }
def DefersPopUptoSaid : Prop := defersPopUptoRow.holds Try.pinned (OpenSpec.upto defersPopSpec)

/-- 'panicroadlaw.DefersOrders', WHERE WHAT IT READS IS OF BULK AT MOST 1048576: true; the input reads as it did. -/
def defersOrdersUptoRow : OpenClaim := { program := "ytmbljapjecclaaa", sum := "87150c3c2070bb6f4c0aa0ecc3464dcb4ff0990d0b0c6acc6c6b61bef624aa0c", func := "panicroad/panicroadlaw.DefersOrders", spec := "defersOrders", apart := false, narrowed := true }
def DefersOrdersUptoSaid : Prop := defersOrdersUptoRow.holds Try.pinned (OpenSpec.upto defersOrdersSpec)

/-- 'panicroadlaw.ValueShows', WHERE WHAT IT READS IS OF BULK AT MOST 1048576: true; the input reads as it did. -/
def valueShowsUptoRow : OpenClaim := { program := "ytmbljapjecclaaa", sum := "87150c3c2070bb6f4c0aa0ecc3464dcb4ff0990d0b0c6acc6c6b61bef624aa0c", func := "panicroad/panicroadlaw.ValueShows", spec := "valueShows", inPlace := ["internal/abi.NoEscape", "internal/bytealg.MakeNoZero"], apart := false, narrowed := true }
def ValueShowsUptoSaid : Prop := valueShowsUptoRow.holds Try.pinned (OpenSpec.upto valueShowsSpec)

/-- 'panicroadlaw.ValueLines', WHERE WHAT IT READS IS OF BULK AT MOST 1048576: true; the input reads as it did. -/
def valueLinesUptoRow : OpenClaim := { program := "ytmbljapjecclaaa", sum := "87150c3c2070bb6f4c0aa0ecc3464dcb4ff0990d0b0c6acc6c6b61bef624aa0c", func := "panicroad/panicroadlaw.ValueLines", spec := "valueLines", inPlace := ["internal/abi.NoEscape", "internal/bytealg.MakeNoZero"], apart := false, narrowed := true }
def ValueLinesUptoSaid : Prop := valueLinesUptoRow.holds Try.pinned (OpenSpec.upto valueLinesSpec)

/-- 'panicroadlaw.ReportTexts', WHERE WHAT IT READS IS OF BULK AT MOST 1048576: true; the input reads as it did. -/
def reportTextsUptoRow : OpenClaim := { program := "ytmbljapjecclaaa", sum := "87150c3c2070bb6f4c0aa0ecc3464dcb4ff0990d0b0c6acc6c6b61bef624aa0c", func := "panicroad/panicroadlaw.ReportTexts", spec := "reportTexts", inPlace := ["internal/bytealg.IndexByteString"], apart := false, narrowed := true }
def ReportTextsUptoSaid : Prop := reportTextsUptoRow.holds Try.pinned (OpenSpec.upto reportTextsSpec)

/-- 'panicroadlaw.ReportValues', WHERE WHAT IT READS IS OF BULK AT MOST 1048576: true; the input reads as it did. -/
def reportValuesUptoRow : OpenClaim := { program := "ytmbljapjecclaaa", sum := "87150c3c2070bb6f4c0aa0ecc3464dcb4ff0990d0b0c6acc6c6b61bef624aa0c", func := "panicroad/panicroadlaw.ReportValues", spec := "reportValues", inPlace := ["internal/abi.NoEscape", "internal/bytealg.MakeNoZero"], apart := false, narrowed := true }
def ReportValuesUptoSaid : Prop := reportValuesUptoRow.holds Try.pinned (OpenSpec.upto reportValuesSpec)

/-- 'panicroadlaw.ReportCrashes', WHERE WHAT IT READS IS OF BULK AT MOST 1048576: true; the input reads as it did. -/
def reportCrashesUptoRow : OpenClaim := { program := "ytmbljapjecclaaa", sum := "87150c3c2070bb6f4c0aa0ecc3464dcb4ff0990d0b0c6acc6c6b61bef624aa0c", func := "panicroad/panicroadlaw.ReportCrashes", spec := "reportCrashes", inPlace := ["internal/abi.NoEscape", "internal/bytealg.IndexByteString"], apart := false, narrowed := true }
def ReportCrashesUptoSaid : Prop := reportCrashesUptoRow.holds Try.pinned (OpenSpec.upto reportCrashesSpec)

/-- 'panicroadlaw.ScanQuotes', WHERE WHAT IT READS IS OF BULK AT MOST 1048576: true; the input reads as it did. -/
def scanQuotesUptoRow : OpenClaim := { program := "ytmbljapjecclaaa", sum := "87150c3c2070bb6f4c0aa0ecc3464dcb4ff0990d0b0c6acc6c6b61bef624aa0c", func := "panicroad/panicroadlaw.ScanQuotes", spec := "scanQuotes", apart := false, narrowed := true }
def ScanQuotesUptoSaid : Prop := scanQuotesUptoRow.holds Try.pinned (OpenSpec.upto scanQuotesSpec)

/-- 'panicroadlaw.ScanUnquotes', WHERE WHAT IT READS IS OF BULK AT MOST 1048576: true; the input reads as it did. -/
def scanUnquotesUptoRow : OpenClaim := { program := "ytmbljapjecclaaa", sum := "87150c3c2070bb6f4c0aa0ecc3464dcb4ff0990d0b0c6acc6c6b61bef624aa0c", func := "panicroad/panicroadlaw.ScanUnquotes", spec := "scanUnquotes", inPlace := ["internal/bytealg.IndexByteString"], apart := false, narrowed := true }
def ScanUnquotesUptoSaid : Prop := scanUnquotesUptoRow.holds Try.pinned (OpenSpec.upto scanUnquotesSpec)

end Rows
end Go.Proofs.Ytmbljapjecclaaa
