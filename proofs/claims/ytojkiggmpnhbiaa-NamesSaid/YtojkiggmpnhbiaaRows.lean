/-
  No cell of these rows narrows 'for every input' (looked for: loops, veiled, ifaces, maps, wideKeys, modest, calm, conditions, laid).
  DERIVED. THE GIVEN ROWS OF THIS SEAT. 12 by the template 'for every input the law returns true; each argument reads behind the call as it read before'; 0 by the template 'total and deterministic' (their statements: YtojkiggmpnhbiaaTotals.lean).
  GIVEN WITH THE SEED: the statements are not yours to turn. If you find one false, say at which input.
  Laid BY PROGRAM, IN A SANDBOX (cutbox-rows.mjs): the forced cells as the released guide's own fill.sh prints them over the translation dc7ae83d8b6b3555… (all of the seat's roots in one cut). By AI agents, Wed Nov 11 2026. No macro, syntax, notation, axiom, sorry.
-/
import Derived.Test.YtojkiggmpnhbiaaChecked
import GoSem.Claim
import GoSem.ClaimJoined
import GoSem.ClaimMapViews
import Derived.JoinedTies
import Derived.KernelRfl
namespace Go.Proofs.Ytojkiggmpnhbiaa
/- THE CELL 'sum', in the pinned program and in every row, IS THE sha256 OF THE DUMP (.gsa) THAT YtojkiggmpnhbiaaProg.lean LOADS. Nothing in Lean hashes anything: it is a label: what it is worth is what the hold of that sum in a sandbox is worth. -/
noncomputable def Try.pinned : Pinned := { name := "ytojkiggmpnhbiaa", sum := "dc7ae83d8b6b35557782929e337a08d898f41c07cb38e3ac7378adf9dcc2f189", checked := Try.checked }
namespace Rows
def none {H : Type} : Left H := { results := [], args := [] }

/-- 'panicroadlaw.Names': WHATEVER THE INPUT: true; the input reads as it did. -/
def namesSpec : ChangeSpec := { name := "names", fn := fun _ => fun
  | [] => { results := [.lit (.bool true)], args := [] }
  | _ => none }
def namesRow : OpenClaim := { program := "ytojkiggmpnhbiaa", sum := "dc7ae83d8b6b35557782929e337a08d898f41c07cb38e3ac7378adf9dcc2f189", func := "panicroad/panicroadlaw.Names", spec := "names", apart := false }
def NamesSaid : Prop := namesRow.holds Try.pinned (OpenSpec.ofChange namesSpec)

/-- ITS FALSE NEIGHBOUR: 'it returns false'. Refute it at one input. -/
def namesWrong : ChangeSpec := { name := "names", fn := fun _ => fun
  | [] => { results := [.lit (.bool false)], args := [] }
  | _ => none }
def NamesWrongFalsely : Prop := namesRow.holds Try.pinned (OpenSpec.ofChange namesWrong)

/-- 'panicroadlaw.ValueMay': WHATEVER THE INPUT: true; the input reads as it did. -/
def valueMaySpec : ChangeSpec := { name := "valueMay", fn := fun _ => fun
  | [d] => { results := [.lit (.bool true)], args := [d] }
  | _ => none }
def valueMayRow : OpenClaim := { program := "ytojkiggmpnhbiaa", sum := "dc7ae83d8b6b35557782929e337a08d898f41c07cb38e3ac7378adf9dcc2f189", func := "panicroad/panicroadlaw.ValueMay", spec := "valueMay", apart := false }
def ValueMaySaid : Prop := valueMayRow.holds Try.pinned (OpenSpec.ofChange valueMaySpec)

/-- ITS FALSE NEIGHBOUR: 'it returns false'. Refute it at one input. -/
def valueMayWrong : ChangeSpec := { name := "valueMay", fn := fun _ => fun
  | [d] => { results := [.lit (.bool false)], args := [d] }
  | _ => none }
def ValueMayWrongFalsely : Prop := valueMayRow.holds Try.pinned (OpenSpec.ofChange valueMayWrong)

/-- 'panicroadlaw.PanicsBegins': WHATEVER THE INPUT: true; the input reads as it did. -/
def panicsBeginsSpec : ChangeSpec := { name := "panicsBegins", fn := fun _ => fun
  | [] => { results := [.lit (.bool true)], args := [] }
  | _ => none }
def panicsBeginsRow : OpenClaim := { program := "ytojkiggmpnhbiaa", sum := "dc7ae83d8b6b35557782929e337a08d898f41c07cb38e3ac7378adf9dcc2f189", func := "panicroad/panicroadlaw.PanicsBegins", spec := "panicsBegins", apart := false }
def PanicsBeginsSaid : Prop := panicsBeginsRow.holds Try.pinned (OpenSpec.ofChange panicsBeginsSpec)

/-- ITS FALSE NEIGHBOUR: 'it returns false'. Refute it at one input. -/
def panicsBeginsWrong : ChangeSpec := { name := "panicsBegins", fn := fun _ => fun
  | [] => { results := [.lit (.bool false)], args := [] }
  | _ => none }
def PanicsBeginsWrongFalsely : Prop := panicsBeginsRow.holds Try.pinned (OpenSpec.ofChange panicsBeginsWrong)

/-- 'panicroadlaw.FaultIndexes': WHATEVER THE INPUT: true; the input reads as it did. -/
def faultIndexesSpec : ChangeSpec := { name := "faultIndexes", fn := fun _ => fun
  | [d1, d2] => { results := [.lit (.bool true)], args := [d1, d2] }
  | _ => none }
def faultIndexesRow : OpenClaim := { program := "ytojkiggmpnhbiaa", sum := "dc7ae83d8b6b35557782929e337a08d898f41c07cb38e3ac7378adf9dcc2f189", func := "panicroad/panicroadlaw.FaultIndexes", spec := "faultIndexes", apart := false }
def FaultIndexesSaid : Prop := faultIndexesRow.holds Try.pinned (OpenSpec.ofChange faultIndexesSpec)

/-- ITS FALSE NEIGHBOUR: 'it returns false'. Refute it at one input. -/
def faultIndexesWrong : ChangeSpec := { name := "faultIndexes", fn := fun _ => fun
  | [d1, d2] => { results := [.lit (.bool false)], args := [d1, d2] }
  | _ => none }
def FaultIndexesWrongFalsely : Prop := faultIndexesRow.holds Try.pinned (OpenSpec.ofChange faultIndexesWrong)

/-- 'panicroadlaw.FaultBounds': WHATEVER THE INPUT: true; the input reads as it did. -/
def faultBoundsSpec : ChangeSpec := { name := "faultBounds", fn := fun _ => fun
  | [d1, d2, d3] => { results := [.lit (.bool true)], args := [d1, d2, d3] }
  | _ => none }
def faultBoundsRow : OpenClaim := { program := "ytojkiggmpnhbiaa", sum := "dc7ae83d8b6b35557782929e337a08d898f41c07cb38e3ac7378adf9dcc2f189", func := "panicroad/panicroadlaw.FaultBounds", spec := "faultBounds", apart := false }
def FaultBoundsSaid : Prop := faultBoundsRow.holds Try.pinned (OpenSpec.ofChange faultBoundsSpec)

/-- ITS FALSE NEIGHBOUR: 'it returns false'. Refute it at one input. -/
def faultBoundsWrong : ChangeSpec := { name := "faultBounds", fn := fun _ => fun
  | [d1, d2, d3] => { results := [.lit (.bool false)], args := [d1, d2, d3] }
  | _ => none }
def FaultBoundsWrongFalsely : Prop := faultBoundsRow.holds Try.pinned (OpenSpec.ofChange faultBoundsWrong)

/-- 'panicroadlaw.FaultLongs': WHATEVER THE INPUT: true; the input reads as it did. -/
def faultLongsSpec : ChangeSpec := { name := "faultLongs", fn := fun _ => fun
  | [d1, d2] => { results := [.lit (.bool true)], args := [d1, d2] }
  | _ => none }
def faultLongsRow : OpenClaim := { program := "ytojkiggmpnhbiaa", sum := "dc7ae83d8b6b35557782929e337a08d898f41c07cb38e3ac7378adf9dcc2f189", func := "panicroad/panicroadlaw.FaultLongs", spec := "faultLongs", apart := false }
def FaultLongsSaid : Prop := faultLongsRow.holds Try.pinned (OpenSpec.ofChange faultLongsSpec)

/-- ITS FALSE NEIGHBOUR: 'it returns false'. Refute it at one input. -/
def faultLongsWrong : ChangeSpec := { name := "faultLongs", fn := fun _ => fun
  | [d1, d2] => { results := [.lit (.bool false)], args := [d1, d2] }
  | _ => none }
def FaultLongsWrongFalsely : Prop := faultLongsRow.holds Try.pinned (OpenSpec.ofChange faultLongsWrong)

/-- 'panicroadlaw.ScanWords': WHATEVER THE INPUT: true; the input reads as it did. -/
def scanWordsSpec : ChangeSpec := { name := "scanWords", fn := fun _ => fun
  | [d] => { results := [.lit (.bool true)], args := [d] }
  | _ => none }
def scanWordsRow : OpenClaim := { program := "ytojkiggmpnhbiaa", sum := "dc7ae83d8b6b35557782929e337a08d898f41c07cb38e3ac7378adf9dcc2f189", func := "panicroad/panicroadlaw.ScanWords", spec := "scanWords", apart := false }
def ScanWordsSaid : Prop := scanWordsRow.holds Try.pinned (OpenSpec.ofChange scanWordsSpec)

/-- ITS FALSE NEIGHBOUR: 'it returns false'. Refute it at one input. -/
def scanWordsWrong : ChangeSpec := { name := "scanWords", fn := fun _ => fun
  | [d] => { results := [.lit (.bool false)], args := [d] }
  | _ => none }
def ScanWordsWrongFalsely : Prop := scanWordsRow.holds Try.pinned (OpenSpec.ofChange scanWordsWrong)

/-- 'panicroadlaw.DefersSets': WHATEVER THE INPUT: true; the input reads as it did. -/
def defersSetsSpec : ChangeSpec := { name := "defersSets", fn := fun _ => fun
  | [d1, d2] => { results := [.lit (.bool true)], args := [d1, d2] }
  | _ => none }
def defersSetsRow : OpenClaim := { program := "ytojkiggmpnhbiaa", sum := "dc7ae83d8b6b35557782929e337a08d898f41c07cb38e3ac7378adf9dcc2f189", func := "panicroad/panicroadlaw.DefersSets", spec := "defersSets", apart := false }
def DefersSetsSaid : Prop := defersSetsRow.holds Try.pinned (OpenSpec.ofChange defersSetsSpec)

/-- ITS FALSE NEIGHBOUR: 'it returns false'. Refute it at one input. -/
def defersSetsWrong : ChangeSpec := { name := "defersSets", fn := fun _ => fun
  | [d1, d2] => { results := [.lit (.bool false)], args := [d1, d2] }
  | _ => none }
def DefersSetsWrongFalsely : Prop := defersSetsRow.holds Try.pinned (OpenSpec.ofChange defersSetsWrong)

/-- 'panicroadlaw.ImageSums': WHATEVER THE INPUT: true; the input reads as it did. -/
def imageSumsSpec : ChangeSpec := { name := "imageSums", fn := fun _ => fun
  | [d] => { results := [.lit (.bool true)], args := [d] }
  | _ => none }
def imageSumsRow : OpenClaim := { program := "ytojkiggmpnhbiaa", sum := "dc7ae83d8b6b35557782929e337a08d898f41c07cb38e3ac7378adf9dcc2f189", func := "panicroad/panicroadlaw.ImageSums", spec := "imageSums", apart := false }
def ImageSumsSaid : Prop := imageSumsRow.holds Try.pinned (OpenSpec.ofChange imageSumsSpec)

/-- ITS FALSE NEIGHBOUR: 'it returns false'. Refute it at one input. -/
def imageSumsWrong : ChangeSpec := { name := "imageSums", fn := fun _ => fun
  | [d] => { results := [.lit (.bool false)], args := [d] }
  | _ => none }
def ImageSumsWrongFalsely : Prop := imageSumsRow.holds Try.pinned (OpenSpec.ofChange imageSumsWrong)

/-- 'panicroadlaw.WordSigns': WHATEVER THE INPUT: true; the input reads as it did. -/
def wordSignsSpec : ChangeSpec := { name := "wordSigns", fn := fun _ => fun
  | [d] => { results := [.lit (.bool true)], args := [d] }
  | _ => none }
def wordSignsRow : OpenClaim := { program := "ytojkiggmpnhbiaa", sum := "dc7ae83d8b6b35557782929e337a08d898f41c07cb38e3ac7378adf9dcc2f189", func := "panicroad/panicroadlaw.WordSigns", spec := "wordSigns", apart := false }
def WordSignsSaid : Prop := wordSignsRow.holds Try.pinned (OpenSpec.ofChange wordSignsSpec)

/-- ITS FALSE NEIGHBOUR: 'it returns false'. Refute it at one input. -/
def wordSignsWrong : ChangeSpec := { name := "wordSigns", fn := fun _ => fun
  | [d] => { results := [.lit (.bool false)], args := [d] }
  | _ => none }
def WordSignsWrongFalsely : Prop := wordSignsRow.holds Try.pinned (OpenSpec.ofChange wordSignsWrong)

/-- 'panicroadlaw.GuardAfters': WHATEVER THE INPUT: true; the input reads as it did. -/
def guardAftersSpec : ChangeSpec := { name := "guardAfters", fn := fun _ => fun
  | [d] => { results := [.lit (.bool true)], args := [d] }
  | _ => none }
def guardAftersRow : OpenClaim := { program := "ytojkiggmpnhbiaa", sum := "dc7ae83d8b6b35557782929e337a08d898f41c07cb38e3ac7378adf9dcc2f189", func := "panicroad/panicroadlaw.GuardAfters", spec := "guardAfters", apart := false }
def GuardAftersSaid : Prop := guardAftersRow.holds Try.pinned (OpenSpec.ofChange guardAftersSpec)

/-- ITS FALSE NEIGHBOUR: 'it returns false'. Refute it at one input. -/
def guardAftersWrong : ChangeSpec := { name := "guardAfters", fn := fun _ => fun
  | [d] => { results := [.lit (.bool false)], args := [d] }
  | _ => none }
def GuardAftersWrongFalsely : Prop := guardAftersRow.holds Try.pinned (OpenSpec.ofChange guardAftersWrong)

/-- 'panicroadlaw.GuardTargets': WHATEVER THE INPUT: true; the input reads as it did. -/
def guardTargetsSpec : ChangeSpec := { name := "guardTargets", fn := fun _ => fun
  | [d] => { results := [.lit (.bool true)], args := [d] }
  | _ => none }
def guardTargetsRow : OpenClaim := { program := "ytojkiggmpnhbiaa", sum := "dc7ae83d8b6b35557782929e337a08d898f41c07cb38e3ac7378adf9dcc2f189", func := "panicroad/panicroadlaw.GuardTargets", spec := "guardTargets", apart := false }
def GuardTargetsSaid : Prop := guardTargetsRow.holds Try.pinned (OpenSpec.ofChange guardTargetsSpec)

/-- ITS FALSE NEIGHBOUR: 'it returns false'. Refute it at one input. -/
def guardTargetsWrong : ChangeSpec := { name := "guardTargets", fn := fun _ => fun
  | [d] => { results := [.lit (.bool false)], args := [d] }
  | _ => none }
def GuardTargetsWrongFalsely : Prop := guardTargetsRow.holds Try.pinned (OpenSpec.ofChange guardTargetsWrong)

/- THE SECOND FORM. 'bulk': how many values and letters a reading holds, each counted each time it is reached (what is shared counts as often as it is met; a slice's spare places count too). A statement '..UptoSaid' is the law's where the arguments, and the package variables that the reading takes, are together of bulk at most 1048576: NARROWER than '..Said'. Prove '..Said' where nothing that the law and all that it calls make is longer than what came in: it says more and counts as full. Else prove '..UptoSaid'. A law counts once. -/
mutual
def uptoBulk {H : Type} : DataW H → Nat
  | .lit (.string bytes) => bytes.length + 1
  | .lit _ => 1
  | .nil => 1
  | .ptr d => uptoBulk d + 1
  | .slice elems spare => uptoBulkAll elems + uptoBulkAll spare + 1
  | .agg parts => uptoBulkAll parts + 1
  | .iface _ d => uptoBulk d + 1
  | .map entries => uptoBulkEntries entries + 1
  | .held _ => 1
def uptoBulkAll {H : Type} : List (DataW H) → Nat
  | [] => 0
  | d :: r => uptoBulk d + uptoBulkAll r
def uptoBulkEntries {H : Type} : List (Lit × DataW H) → Nat
  | [] => 0
  | x :: r => uptoBulkEntry x + uptoBulkEntries r
def uptoBulkEntry {H : Type} : Lit × DataW H → Nat
  | (.string bytes, d) => bytes.length + uptoBulk d + 1
  | (_, d) => uptoBulk d + 1
 end
def uptoSmall : (H : Type) → List (DataW H) → Bool := fun _ ds => decide (uptoBulkAll ds ≤ 1048576)
def OpenSpec.upto (s : _root_.Go.ChangeSpec) : _root_.Go.OpenSpec := { _root_.Go.OpenSpec.ofChange s with cond := some uptoSmall }

/-- 'panicroadlaw.Names', WHERE WHAT IT READS IS OF BULK AT MOST 1048576: true; the input reads as it did. -/
def namesUptoRow : OpenClaim := { program := "ytojkiggmpnhbiaa", sum := "dc7ae83d8b6b35557782929e337a08d898f41c07cb38e3ac7378adf9dcc2f189", func := "panicroad/panicroadlaw.Names", spec := "names", apart := false, narrowed := true }
def NamesUptoSaid : Prop := namesUptoRow.holds Try.pinned (OpenSpec.upto namesSpec)

/-- 'panicroadlaw.ValueMay', WHERE WHAT IT READS IS OF BULK AT MOST 1048576: true; the input reads as it did. -/
def valueMayUptoRow : OpenClaim := { program := "ytojkiggmpnhbiaa", sum := "dc7ae83d8b6b35557782929e337a08d898f41c07cb38e3ac7378adf9dcc2f189", func := "panicroad/panicroadlaw.ValueMay", spec := "valueMay", apart := false, narrowed := true }
def ValueMayUptoSaid : Prop := valueMayUptoRow.holds Try.pinned (OpenSpec.upto valueMaySpec)

/-- 'panicroadlaw.PanicsBegins', WHERE WHAT IT READS IS OF BULK AT MOST 1048576: true; the input reads as it did. -/
def panicsBeginsUptoRow : OpenClaim := { program := "ytojkiggmpnhbiaa", sum := "dc7ae83d8b6b35557782929e337a08d898f41c07cb38e3ac7378adf9dcc2f189", func := "panicroad/panicroadlaw.PanicsBegins", spec := "panicsBegins", apart := false, narrowed := true }
def PanicsBeginsUptoSaid : Prop := panicsBeginsUptoRow.holds Try.pinned (OpenSpec.upto panicsBeginsSpec)

/-- 'panicroadlaw.FaultIndexes', WHERE WHAT IT READS IS OF BULK AT MOST 1048576: true; the input reads as it did. -/
def faultIndexesUptoRow : OpenClaim := { program := "ytojkiggmpnhbiaa", sum := "dc7ae83d8b6b35557782929e337a08d898f41c07cb38e3ac7378adf9dcc2f189", func := "panicroad/panicroadlaw.FaultIndexes", spec := "faultIndexes", apart := false, narrowed := true }
def FaultIndexesUptoSaid : Prop := faultIndexesUptoRow.holds Try.pinned (OpenSpec.upto faultIndexesSpec)

/-- 'panicroadlaw.FaultBounds', WHERE WHAT IT READS IS OF BULK AT MOST 1048576: true; the input reads as it did. -/
def faultBoundsUptoRow : OpenClaim := { program := "ytojkiggmpnhbiaa", sum := "dc7ae83d8b6b35557782929e337a08d898f41c07cb38e3ac7378adf9dcc2f189", func := "panicroad/panicroadlaw.FaultBounds", spec := "faultBounds", apart := false, narrowed := true }
def FaultBoundsUptoSaid : Prop := faultBoundsUptoRow.holds Try.pinned (OpenSpec.upto faultBoundsSpec)

/-- 'panicroadlaw.FaultLongs', WHERE WHAT IT READS IS OF BULK AT MOST 1048576: true; the input reads as it did. -/
def faultLongsUptoRow : OpenClaim := { program := "ytojkiggmpnhbiaa", sum := "dc7ae83d8b6b35557782929e337a08d898f41c07cb38e3ac7378adf9dcc2f189", func := "panicroad/panicroadlaw.FaultLongs", spec := "faultLongs", apart := false, narrowed := true }
def FaultLongsUptoSaid : Prop := faultLongsUptoRow.holds Try.pinned (OpenSpec.upto faultLongsSpec)

/-- 'panicroadlaw.ScanWords', WHERE WHAT IT READS IS OF BULK AT MOST 1048576: true; the input reads as it did. -/
def scanWordsUptoRow : OpenClaim := { program := "ytojkiggmpnhbiaa", sum := "dc7ae83d8b6b35557782929e337a08d898f41c07cb38e3ac7378adf9dcc2f189", func := "panicroad/panicroadlaw.ScanWords", spec := "scanWords", apart := false, narrowed := true }
def ScanWordsUptoSaid : Prop := scanWordsUptoRow.holds Try.pinned (OpenSpec.upto scanWordsSpec)

/-- 'panicroadlaw.DefersSets', WHERE WHAT IT READS IS OF BULK AT MOST 1048576: true; the input reads as it did. -/
def defersSetsUptoRow : OpenClaim := { program := "ytojkiggmpnhbiaa", sum := "dc7ae83d8b6b35557782929e337a08d898f41c07cb38e3ac7378adf9dcc2f189", func := "panicroad/panicroadlaw.DefersSets", spec := "defersSets", apart := false, narrowed := true }
def DefersSetsUptoSaid : Prop := defersSetsUptoRow.holds Try.pinned (OpenSpec.upto defersSetsSpec)

/-- 'panicroadlaw.ImageSums', WHERE WHAT IT READS IS OF BULK AT MOST 1048576: true; the input reads as it did. -/
def imageSumsUptoRow : OpenClaim := { program := "ytojkiggmpnhbiaa", sum := "dc7ae83d8b6b35557782929e337a08d898f41c07cb38e3ac7378adf9dcc2f189", func := "panicroad/panicroadlaw.ImageSums", spec := "imageSums", apart := false, narrowed := true }
def ImageSumsUptoSaid : Prop := imageSumsUptoRow.holds Try.pinned (OpenSpec.upto imageSumsSpec)

/-- 'panicroadlaw.WordSigns', WHERE WHAT IT READS IS OF BULK AT MOST 1048576: true; the input reads as it did. -/
def wordSignsUptoRow : OpenClaim := { program := "ytojkiggmpnhbiaa", sum := "dc7ae83d8b6b35557782929e337a08d898f41c07cb38e3ac7378adf9dcc2f189", func := "panicroad/panicroadlaw.WordSigns", spec := "wordSigns", apart := false, narrowed := true }
def WordSignsUptoSaid : Prop := wordSignsUptoRow.holds Try.pinned (OpenSpec.upto wordSignsSpec)

/-- 'panicroadlaw.GuardAfters', WHERE WHAT IT READS IS OF BULK AT MOST 1048576: true; the input reads as it did. -/
def guardAftersUptoRow : OpenClaim := { program := "ytojkiggmpnhbiaa", sum := "dc7ae83d8b6b35557782929e337a08d898f41c07cb38e3ac7378adf9dcc2f189", func := "panicroad/panicroadlaw.GuardAfters", spec := "guardAfters", apart := false, narrowed := true }
def GuardAftersUptoSaid : Prop := guardAftersUptoRow.holds Try.pinned (OpenSpec.upto guardAftersSpec)

/-- 'panicroadlaw.GuardTargets', WHERE WHAT IT READS IS OF BULK AT MOST 1048576: true; the input reads as it did. -/
def guardTargetsUptoRow : OpenClaim := { program := "ytojkiggmpnhbiaa", sum := "dc7ae83d8b6b35557782929e337a08d898f41c07cb38e3ac7378adf9dcc2f189", func := "panicroad/panicroadlaw.GuardTargets", spec := "guardTargets", apart := false, narrowed := true }
def GuardTargetsUptoSaid : Prop := guardTargetsUptoRow.holds Try.pinned (OpenSpec.upto guardTargetsSpec)

end Rows
end Go.Proofs.Ytojkiggmpnhbiaa
