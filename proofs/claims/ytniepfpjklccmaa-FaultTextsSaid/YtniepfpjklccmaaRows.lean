/-
  No cell of these rows narrows 'for every input' (looked for: loops, veiled, ifaces, maps, wideKeys, modest, calm, conditions, laid).
  DERIVED. THE GIVEN ROWS OF THIS SEAT. 11 by the template 'for every input the law returns true; each argument reads behind the call as it read before'; 0 by the template 'total and deterministic' (their statements: YtniepfpjklccmaaTotals.lean).
  GIVEN WITH THE SEED: the statements are not yours to turn. If you find one false, say at which input.
  Laid BY PROGRAM, IN A SANDBOX (cutbox-rows.mjs): the forced cells as the released guide's own fill.sh prints them over the translation c816c4f74b1317c2… (all of the seat's roots in one cut). By AI agents, Wed Nov 11 2026. No macro, syntax, notation, axiom, sorry.
-/
import Derived.Test.YtniepfpjklccmaaChecked
import GoSem.Claim
import GoSem.ClaimJoined
import GoSem.ClaimMapViews
import Derived.JoinedTies
import Derived.KernelRfl
namespace Go.Proofs.Ytniepfpjklccmaa
/- THE CELL 'sum', in the pinned program and in every row, IS THE sha256 OF THE DUMP (.gsa) THAT YtniepfpjklccmaaProg.lean LOADS. Nothing in Lean hashes anything: it is a label: what it is worth is what the hold of that sum in a sandbox is worth. -/
noncomputable def Try.pinned : Pinned := { name := "ytniepfpjklccmaa", sum := "c816c4f74b1317c203e64684fd801e1f062d37ef2879bf4ab914d2d5c94974d0", checked := Try.checked }
namespace Rows
def none {H : Type} : Left H := { results := [], args := [] }

/-- 'panicroadlaw.WordNumbers': WHATEVER THE INPUT: true; the input reads as it did. -/
def wordNumbersSpec : ChangeSpec := { name := "wordNumbers", fn := fun _ => fun
  | [d] => { results := [.lit (.bool true)], args := [d] }
  | _ => none }
def wordNumbersRow : OpenClaim := { program := "ytniepfpjklccmaa", sum := "c816c4f74b1317c203e64684fd801e1f062d37ef2879bf4ab914d2d5c94974d0", func := "panicroad/panicroadlaw.WordNumbers", spec := "wordNumbers", apart := false }
def WordNumbersSaid : Prop := wordNumbersRow.holds Try.pinned (OpenSpec.ofChange wordNumbersSpec)

/-- ITS FALSE NEIGHBOUR: 'it returns false'. Refute it at one input. -/
def wordNumbersWrong : ChangeSpec := { name := "wordNumbers", fn := fun _ => fun
  | [d] => { results := [.lit (.bool false)], args := [d] }
  | _ => none }
def WordNumbersWrongFalsely : Prop := wordNumbersRow.holds Try.pinned (OpenSpec.ofChange wordNumbersWrong)

/-- 'panicroadlaw.WordHolds': WHATEVER THE INPUT: true; the input reads as it did. -/
def wordHoldsSpec : ChangeSpec := { name := "wordHolds", fn := fun _ => fun
  | [d1, d2] => { results := [.lit (.bool true)], args := [d1, d2] }
  | _ => none }
def wordHoldsRow : OpenClaim := { program := "ytniepfpjklccmaa", sum := "c816c4f74b1317c203e64684fd801e1f062d37ef2879bf4ab914d2d5c94974d0", func := "panicroad/panicroadlaw.WordHolds", spec := "wordHolds", apart := false }
def WordHoldsSaid : Prop := wordHoldsRow.holds Try.pinned (OpenSpec.ofChange wordHoldsSpec)

/-- ITS FALSE NEIGHBOUR: 'it returns false'. Refute it at one input. -/
def wordHoldsWrong : ChangeSpec := { name := "wordHolds", fn := fun _ => fun
  | [d1, d2] => { results := [.lit (.bool false)], args := [d1, d2] }
  | _ => none }
def WordHoldsWrongFalsely : Prop := wordHoldsRow.holds Try.pinned (OpenSpec.ofChange wordHoldsWrong)

/-- 'panicroadlaw.WordTexts': WHATEVER THE INPUT: true; the input reads as it did. -/
def wordTextsSpec : ChangeSpec := { name := "wordTexts", fn := fun _ => fun
  | [d] => { results := [.lit (.bool true)], args := [d] }
  | _ => none }
def wordTextsRow : OpenClaim := { program := "ytniepfpjklccmaa", sum := "c816c4f74b1317c203e64684fd801e1f062d37ef2879bf4ab914d2d5c94974d0", func := "panicroad/panicroadlaw.WordTexts", spec := "wordTexts", apart := false }
def WordTextsSaid : Prop := wordTextsRow.holds Try.pinned (OpenSpec.ofChange wordTextsSpec)

/-- ITS FALSE NEIGHBOUR: 'it returns false'. Refute it at one input. -/
def wordTextsWrong : ChangeSpec := { name := "wordTexts", fn := fun _ => fun
  | [d] => { results := [.lit (.bool false)], args := [d] }
  | _ => none }
def WordTextsWrongFalsely : Prop := wordTextsRow.holds Try.pinned (OpenSpec.ofChange wordTextsWrong)

/-- 'panicroadlaw.WordCompares': WHATEVER THE INPUT: true; the input reads as it did. -/
def wordComparesSpec : ChangeSpec := { name := "wordCompares", fn := fun _ => fun
  | [d1, d2, d3] => { results := [.lit (.bool true)], args := [d1, d2, d3] }
  | _ => none }
def wordComparesRow : OpenClaim := { program := "ytniepfpjklccmaa", sum := "c816c4f74b1317c203e64684fd801e1f062d37ef2879bf4ab914d2d5c94974d0", func := "panicroad/panicroadlaw.WordCompares", spec := "wordCompares", apart := false }
def WordComparesSaid : Prop := wordComparesRow.holds Try.pinned (OpenSpec.ofChange wordComparesSpec)

/-- ITS FALSE NEIGHBOUR: 'it returns false'. Refute it at one input. -/
def wordComparesWrong : ChangeSpec := { name := "wordCompares", fn := fun _ => fun
  | [d1, d2, d3] => { results := [.lit (.bool false)], args := [d1, d2, d3] }
  | _ => none }
def WordComparesWrongFalsely : Prop := wordComparesRow.holds Try.pinned (OpenSpec.ofChange wordComparesWrong)

/-- 'panicroadlaw.WordDoes': WHATEVER THE INPUT: true; the input reads as it did. -/
def wordDoesSpec : ChangeSpec := { name := "wordDoes", fn := fun _ => fun
  | [d1, d2, d3] => { results := [.lit (.bool true)], args := [d1, d2, d3] }
  | _ => none }
def wordDoesRow : OpenClaim := { program := "ytniepfpjklccmaa", sum := "c816c4f74b1317c203e64684fd801e1f062d37ef2879bf4ab914d2d5c94974d0", func := "panicroad/panicroadlaw.WordDoes", spec := "wordDoes", apart := false }
def WordDoesSaid : Prop := wordDoesRow.holds Try.pinned (OpenSpec.ofChange wordDoesSpec)

/-- ITS FALSE NEIGHBOUR: 'it returns false'. Refute it at one input. -/
def wordDoesWrong : ChangeSpec := { name := "wordDoes", fn := fun _ => fun
  | [d1, d2, d3] => { results := [.lit (.bool false)], args := [d1, d2, d3] }
  | _ => none }
def WordDoesWrongFalsely : Prop := wordDoesRow.holds Try.pinned (OpenSpec.ofChange wordDoesWrong)

/-- 'panicroadlaw.WordReads': WHATEVER THE INPUT: true; the input reads as it did. -/
def wordReadsSpec : ChangeSpec := { name := "wordReads", fn := fun _ => fun
  | [d] => { results := [.lit (.bool true)], args := [d] }
  | _ => none }
def wordReadsRow : OpenClaim := { program := "ytniepfpjklccmaa", sum := "c816c4f74b1317c203e64684fd801e1f062d37ef2879bf4ab914d2d5c94974d0", func := "panicroad/panicroadlaw.WordReads", spec := "wordReads", apart := false }
def WordReadsSaid : Prop := wordReadsRow.holds Try.pinned (OpenSpec.ofChange wordReadsSpec)

/-- ITS FALSE NEIGHBOUR: 'it returns false'. Refute it at one input. -/
def wordReadsWrong : ChangeSpec := { name := "wordReads", fn := fun _ => fun
  | [d] => { results := [.lit (.bool false)], args := [d] }
  | _ => none }
def WordReadsWrongFalsely : Prop := wordReadsRow.holds Try.pinned (OpenSpec.ofChange wordReadsWrong)

/-- 'panicroadlaw.ReportEnds': WHATEVER THE INPUT: true; the input reads as it did. -/
def reportEndsSpec : ChangeSpec := { name := "reportEnds", fn := fun _ => fun
  | [d1, d2] => { results := [.lit (.bool true)], args := [d1, d2] }
  | _ => none }
def reportEndsRow : OpenClaim := { program := "ytniepfpjklccmaa", sum := "c816c4f74b1317c203e64684fd801e1f062d37ef2879bf4ab914d2d5c94974d0", func := "panicroad/panicroadlaw.ReportEnds", spec := "reportEnds", apart := false }
def ReportEndsSaid : Prop := reportEndsRow.holds Try.pinned (OpenSpec.ofChange reportEndsSpec)

/-- ITS FALSE NEIGHBOUR: 'it returns false'. Refute it at one input. -/
def reportEndsWrong : ChangeSpec := { name := "reportEnds", fn := fun _ => fun
  | [d1, d2] => { results := [.lit (.bool false)], args := [d1, d2] }
  | _ => none }
def ReportEndsWrongFalsely : Prop := reportEndsRow.holds Try.pinned (OpenSpec.ofChange reportEndsWrong)

/-- 'panicroadlaw.FaultOperations': WHATEVER THE INPUT: true; the input reads as it did. -/
def faultOperationsSpec : ChangeSpec := { name := "faultOperations", fn := fun _ => fun
  | [d1, d2] => { results := [.lit (.bool true)], args := [d1, d2] }
  | _ => none }
def faultOperationsRow : OpenClaim := { program := "ytniepfpjklccmaa", sum := "c816c4f74b1317c203e64684fd801e1f062d37ef2879bf4ab914d2d5c94974d0", func := "panicroad/panicroadlaw.FaultOperations", spec := "faultOperations", apart := false }
def FaultOperationsSaid : Prop := faultOperationsRow.holds Try.pinned (OpenSpec.ofChange faultOperationsSpec)

/-- ITS FALSE NEIGHBOUR: 'it returns false'. Refute it at one input. -/
def faultOperationsWrong : ChangeSpec := { name := "faultOperations", fn := fun _ => fun
  | [d1, d2] => { results := [.lit (.bool false)], args := [d1, d2] }
  | _ => none }
def FaultOperationsWrongFalsely : Prop := faultOperationsRow.holds Try.pinned (OpenSpec.ofChange faultOperationsWrong)

/-- 'panicroadlaw.FaultTexts': WHATEVER THE INPUT: true; the input reads as it did. -/
def faultTextsSpec : ChangeSpec := { name := "faultTexts", fn := fun _ => fun
  | [d] => { results := [.lit (.bool true)], args := [d] }
  | _ => none }
def faultTextsRow : OpenClaim := { program := "ytniepfpjklccmaa", sum := "c816c4f74b1317c203e64684fd801e1f062d37ef2879bf4ab914d2d5c94974d0", func := "panicroad/panicroadlaw.FaultTexts", spec := "faultTexts", apart := false }
def FaultTextsSaid : Prop := faultTextsRow.holds Try.pinned (OpenSpec.ofChange faultTextsSpec)

/-- ITS FALSE NEIGHBOUR: 'it returns false'. Refute it at one input. -/
def faultTextsWrong : ChangeSpec := { name := "faultTexts", fn := fun _ => fun
  | [d] => { results := [.lit (.bool false)], args := [d] }
  | _ => none }
def FaultTextsWrongFalsely : Prop := faultTextsRow.holds Try.pinned (OpenSpec.ofChange faultTextsWrong)

/-- 'panicroadlaw.FaultChecks': WHATEVER THE INPUT: true; the input reads as it did. -/
def faultChecksSpec : ChangeSpec := { name := "faultChecks", fn := fun _ => fun
  | [d1, d2, d3, d4] => { results := [.lit (.bool true)], args := [d1, d2, d3, d4] }
  | _ => none }
def faultChecksRow : OpenClaim := { program := "ytniepfpjklccmaa", sum := "c816c4f74b1317c203e64684fd801e1f062d37ef2879bf4ab914d2d5c94974d0", func := "panicroad/panicroadlaw.FaultChecks", spec := "faultChecks", apart := false }
def FaultChecksSaid : Prop := faultChecksRow.holds Try.pinned (OpenSpec.ofChange faultChecksSpec)

/-- ITS FALSE NEIGHBOUR: 'it returns false'. Refute it at one input. -/
def faultChecksWrong : ChangeSpec := { name := "faultChecks", fn := fun _ => fun
  | [d1, d2, d3, d4] => { results := [.lit (.bool false)], args := [d1, d2, d3, d4] }
  | _ => none }
def FaultChecksWrongFalsely : Prop := faultChecksRow.holds Try.pinned (OpenSpec.ofChange faultChecksWrong)

/-- 'panicroadlaw.FaultCats': WHATEVER THE INPUT: true; the input reads as it did. -/
def faultCatsSpec : ChangeSpec := { name := "faultCats", fn := fun _ => fun
  | [d1, d2] => { results := [.lit (.bool true)], args := [d1, d2] }
  | _ => none }
def faultCatsRow : OpenClaim := { program := "ytniepfpjklccmaa", sum := "c816c4f74b1317c203e64684fd801e1f062d37ef2879bf4ab914d2d5c94974d0", func := "panicroad/panicroadlaw.FaultCats", spec := "faultCats", apart := false }
def FaultCatsSaid : Prop := faultCatsRow.holds Try.pinned (OpenSpec.ofChange faultCatsSpec)

/-- ITS FALSE NEIGHBOUR: 'it returns false'. Refute it at one input. -/
def faultCatsWrong : ChangeSpec := { name := "faultCats", fn := fun _ => fun
  | [d1, d2] => { results := [.lit (.bool false)], args := [d1, d2] }
  | _ => none }
def FaultCatsWrongFalsely : Prop := faultCatsRow.holds Try.pinned (OpenSpec.ofChange faultCatsWrong)

/- THE SECOND FORM. 'bulk': how many values and letters a reading holds, each counted each time it is reached (what is shared counts as often as it is met; a slice's spare places count too). A statement '..UptoSaid' is the law's where the arguments, and the package variables that the reading takes, are together of bulk at most 1048576: NARROWER than '..Said'. Prove '..Said' where nothing that the law and all that it calls make is longer than what came in: it says more and counts as full. Else prove '..UptoSaid'. A law counts once. -/
mutual
def uptoBulk {H : Type} : DataW H → Nat
  | .lit (.string bytes) => bytes.length + 1
  | .lit _ => 1
  | .nil => 1
  | .ptr d => uptoBulk d + 1
  | .slice elems spare => uptoBulkAll elems + uptoBulkAll spare + 1
  | .agg parts => uptoBulkAll parts + 1
  | .iface _ d => uptoBulk d + 1
  | .map entries => uptoBulkEntries entries + 1
  | .held _ => 1
def uptoBulkAll {H : Type} : List (DataW H) → Nat
  | [] => 0
  | d :: r => uptoBulk d + uptoBulkAll r
def uptoBulkEntries {H : Type} : List (Lit × DataW H) → Nat
  | [] => 0
  | x :: r => uptoBulkEntry x + uptoBulkEntries r
def uptoBulkEntry {H : Type} : Lit × DataW H → Nat
  | (.string bytes, d) => bytes.length + uptoBulk d + 1
  | (_, d) => uptoBulk d + 1
 end
def uptoSmall : (H : Type) → List (DataW H) → Bool := fun _ ds => decide (uptoBulkAll ds ≤ 1048576)
def OpenSpec.upto (s : _root_.Go.ChangeSpec) : _root_.Go.OpenSpec := { _root_.Go.OpenSpec.ofChange s with cond := some uptoSmall }

/-- 'panicroadlaw.WordNumbers', WHERE WHAT IT READS IS OF BULK AT MOST 1048576: true; the input reads as it did. -/
def wordNumbersUptoRow : OpenClaim := { program := "ytniepfpjklccmaa", sum := "c816c4f74b1317c203e64684fd801e1f062d37ef2879bf4ab914d2d5c94974d0", func := "panicroad/panicroadlaw.WordNumbers", spec := "wordNumbers", apart := false, narrowed := true }
def WordNumbersUptoSaid : Prop := wordNumbersUptoRow.holds Try.pinned (OpenSpec.upto wordNumbersSpec)

/-- 'panicroadlaw.WordHolds', WHERE WHAT IT READS IS OF BULK AT MOST 1048576: true; the input reads as it did. -/
def wordHoldsUptoRow : OpenClaim := { program := "ytniepfpjklccmaa", sum := "c816c4f74b1317c203e64684fd801e1f062d37ef2879bf4ab914d2d5c94974d0", func := "panicroad/panicroadlaw.WordHolds", spec := "wordHolds", apart := false, narrowed := true }
def WordHoldsUptoSaid : Prop := wordHoldsUptoRow.holds Try.pinned (OpenSpec.upto wordHoldsSpec)

/-- 'panicroadlaw.WordTexts', WHERE WHAT IT READS IS OF BULK AT MOST 1048576: true; the input reads as it did. -/
def wordTextsUptoRow : OpenClaim := { program := "ytniepfpjklccmaa", sum := "c816c4f74b1317c203e64684fd801e1f062d37ef2879bf4ab914d2d5c94974d0", func := "panicroad/panicroadlaw.WordTexts", spec := "wordTexts", apart := false, narrowed := true }
def WordTextsUptoSaid : Prop := wordTextsUptoRow.holds Try.pinned (OpenSpec.upto wordTextsSpec)

/-- 'panicroadlaw.WordCompares', WHERE WHAT IT READS IS OF BULK AT MOST 1048576: true; the input reads as it did. -/
def wordComparesUptoRow : OpenClaim := { program := "ytniepfpjklccmaa", sum := "c816c4f74b1317c203e64684fd801e1f062d37ef2879bf4ab914d2d5c94974d0", func := "panicroad/panicroadlaw.WordCompares", spec := "wordCompares", apart := false, narrowed := true }
def WordComparesUptoSaid : Prop := wordComparesUptoRow.holds Try.pinned (OpenSpec.upto wordComparesSpec)

/-- 'panicroadlaw.WordDoes', WHERE WHAT IT READS IS OF BULK AT MOST 1048576: true; the input reads as it did. -/
def wordDoesUptoRow : OpenClaim := { program := "ytniepfpjklccmaa", sum := "c816c4f74b1317c203e64684fd801e1f062d37ef2879bf4ab914d2d5c94974d0", func := "panicroad/panicroadlaw.WordDoes", spec := "wordDoes", apart := false, narrowed := true }
def WordDoesUptoSaid : Prop := wordDoesUptoRow.holds Try.pinned (OpenSpec.upto wordDoesSpec)

/-- 'panicroadlaw.WordReads', WHERE WHAT IT READS IS OF BULK AT MOST 1048576: true; the input reads as it did. -/
def wordReadsUptoRow : OpenClaim := { program := "ytniepfpjklccmaa", sum := "c816c4f74b1317c203e64684fd801e1f062d37ef2879bf4ab914d2d5c94974d0", func := "panicroad/panicroadlaw.WordReads", spec := "wordReads", apart := false, narrowed := true }
def WordReadsUptoSaid : Prop := wordReadsUptoRow.holds Try.pinned (OpenSpec.upto wordReadsSpec)

/-- 'panicroadlaw.ReportEnds', WHERE WHAT IT READS IS OF BULK AT MOST 1048576: true; the input reads as it did. -/
def reportEndsUptoRow : OpenClaim := { program := "ytniepfpjklccmaa", sum := "c816c4f74b1317c203e64684fd801e1f062d37ef2879bf4ab914d2d5c94974d0", func := "panicroad/panicroadlaw.ReportEnds", spec := "reportEnds", apart := false, narrowed := true }
def ReportEndsUptoSaid : Prop := reportEndsUptoRow.holds Try.pinned (OpenSpec.upto reportEndsSpec)

/-- 'panicroadlaw.FaultOperations', WHERE WHAT IT READS IS OF BULK AT MOST 1048576: true; the input reads as it did. -/
def faultOperationsUptoRow : OpenClaim := { program := "ytniepfpjklccmaa", sum := "c816c4f74b1317c203e64684fd801e1f062d37ef2879bf4ab914d2d5c94974d0", func := "panicroad/panicroadlaw.FaultOperations", spec := "faultOperations", apart := false, narrowed := true }
def FaultOperationsUptoSaid : Prop := faultOperationsUptoRow.holds Try.pinned (OpenSpec.upto faultOperationsSpec)

/-- 'panicroadlaw.FaultTexts', WHERE WHAT IT READS IS OF BULK AT MOST 1048576: true; the input reads as it did. -/
def faultTextsUptoRow : OpenClaim := { program := "ytniepfpjklccmaa", sum := "c816c4f74b1317c203e64684fd801e1f062d37ef2879bf4ab914d2d5c94974d0", func := "panicroad/panicroadlaw.FaultTexts", spec := "faultTexts", apart := false, narrowed := true }
def FaultTextsUptoSaid : Prop := faultTextsUptoRow.holds Try.pinned (OpenSpec.upto faultTextsSpec)

/-- 'panicroadlaw.FaultChecks', WHERE WHAT IT READS IS OF BULK AT MOST 1048576: true; the input reads as it did. -/
def faultChecksUptoRow : OpenClaim := { program := "ytniepfpjklccmaa", sum := "c816c4f74b1317c203e64684fd801e1f062d37ef2879bf4ab914d2d5c94974d0", func := "panicroad/panicroadlaw.FaultChecks", spec := "faultChecks", apart := false, narrowed := true }
def FaultChecksUptoSaid : Prop := faultChecksUptoRow.holds Try.pinned (OpenSpec.upto faultChecksSpec)

/-- 'panicroadlaw.FaultCats', WHERE WHAT IT READS IS OF BULK AT MOST 1048576: true; the input reads as it did. -/
def faultCatsUptoRow : OpenClaim := { program := "ytniepfpjklccmaa", sum := "c816c4f74b1317c203e64684fd801e1f062d37ef2879bf4ab914d2d5c94974d0", func := "panicroad/panicroadlaw.FaultCats", spec := "faultCats", apart := false, narrowed := true }
def FaultCatsUptoSaid : Prop := faultCatsUptoRow.holds Try.pinned (OpenSpec.upto faultCatsSpec)

end Rows
end Go.Proofs.Ytniepfpjklccmaa
