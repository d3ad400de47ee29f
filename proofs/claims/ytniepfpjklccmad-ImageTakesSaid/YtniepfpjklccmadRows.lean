/-
  No cell of these rows narrows 'for every input' (looked for: loops, veiled, ifaces, maps, wideKeys, modest, calm, conditions, laid).
  DERIVED. THE GIVEN ROWS OF THIS SEAT. 9 by the template 'for every input the law returns true; each argument reads behind the call as it read before'; 0 by the template 'total and deterministic' (their statements: YtniepfpjklccmadTotals.lean).
  GIVEN WITH THE SEED: the statements are not yours to turn. If you find one false, say at which input.
  Laid BY PROGRAM, IN A SANDBOX (cutbox-rows.mjs): the forced cells as the released guide's own fill.sh prints them over the translation edac8d1b278f2782… (all of the seat's roots in one cut). By AI agents, Wed Nov 11 2026. No macro, syntax, notation, axiom, sorry.
-/
import Derived.Test.YtniepfpjklccmadChecked
import GoSem.Claim
import GoSem.ClaimJoined
import GoSem.ClaimMapViews
import Derived.JoinedTies
import Derived.KernelRfl
namespace Go.Proofs.Ytniepfpjklccmad
/- THE CELL 'sum', in the pinned program and in every row, IS THE sha256 OF THE DUMP (.gsa) THAT YtniepfpjklccmadProg.lean LOADS. Nothing in Lean hashes anything: it is a label: what it is worth is what the hold of that sum in a sandbox is worth. -/
noncomputable def Try.pinned : Pinned := { name := "ytniepfpjklccmad", sum := "edac8d1b278f27823c76ec4c8996b2499054f3657e291fdc7b5fe8169fe0a218", checked := Try.checked }
namespace Rows
def none {H : Type} : Left H := { results := [], args := [] }

/-- 'panicroadlaw.DefersPush': WHATEVER THE INPUT: true; the input reads as it did. -/
def defersPushSpec : ChangeSpec := { name := "defersPush", fn := fun _ => fun
  | [d1, d2] => { results := [.lit (.bool true)], args := [d1, d2] }
  | _ => none }
def defersPushRow : OpenClaim := { program := "ytniepfpjklccmad", sum := "edac8d1b278f27823c76ec4c8996b2499054f3657e291fdc7b5fe8169fe0a218", func := "panicroad/panicroadlaw.DefersPush", spec := "defersPush", apart := false }
def DefersPushSaid : Prop := defersPushRow.holds Try.pinned (OpenSpec.ofChange defersPushSpec)

/-- ITS FALSE NEIGHBOUR: 'it returns false'. Refute it at one input. -/
def defersPushWrong : ChangeSpec := { name := "defersPush", fn := fun _ => fun
  | [d1, d2] => { results := [.lit (.bool false)], args := [d1, d2] }
  | _ => none }
def DefersPushWrongFalsely : Prop := defersPushRow.holds Try.pinned (OpenSpec.ofChange defersPushWrong)

/-- 'panicroadlaw.DefersPop': WHATEVER THE INPUT: true; the input reads as it did. -/
def defersPopSpec : ChangeSpec := { name := "defersPop", fn := fun _ => fun
  | [d] => { results := [.lit (.bool true)], args := [d] }
  | _ => none }
def defersPopRow : OpenClaim := { program := "ytniepfpjklccmad", sum := "edac8d1b278f27823c76ec4c8996b2499054f3657e291fdc7b5fe8169fe0a218", func := "panicroad/panicroadlaw.DefersPop", spec := "defersPop", apart := false }
def DefersPopSaid : Prop := defersPopRow.holds Try.pinned (OpenSpec.ofChange defersPopSpec)

/-- ITS FALSE NEIGHBOUR: 'it returns false'. Refute it at one input. -/
def defersPopWrong : ChangeSpec := { name := "defersPop", fn := fun _ => fun
  | [d] => { results := [.lit (.bool false)], args := [d] }
  | _ => none }
def DefersPopWrongFalsely : Prop := defersPopRow.holds Try.pinned (OpenSpec.ofChange defersPopWrong)

/-- 'panicroadlaw.DefersTops': WHATEVER THE INPUT: true; the input reads as it did. -/
def defersTopsSpec : ChangeSpec := { name := "defersTops", fn := fun _ => fun
  | [d] => { results := [.lit (.bool true)], args := [d] }
  | _ => none }
def defersTopsRow : OpenClaim := { program := "ytniepfpjklccmad", sum := "edac8d1b278f27823c76ec4c8996b2499054f3657e291fdc7b5fe8169fe0a218", func := "panicroad/panicroadlaw.DefersTops", spec := "defersTops", apart := false }
def DefersTopsSaid : Prop := defersTopsRow.holds Try.pinned (OpenSpec.ofChange defersTopsSpec)

/-- ITS FALSE NEIGHBOUR: 'it returns false'. Refute it at one input. -/
def defersTopsWrong : ChangeSpec := { name := "defersTops", fn := fun _ => fun
  | [d] => { results := [.lit (.bool false)], args := [d] }
  | _ => none }
def DefersTopsWrongFalsely : Prop := defersTopsRow.holds Try.pinned (OpenSpec.ofChange defersTopsWrong)

/-- 'panicroadlaw.DefersOrders': WHATEVER THE INPUT: true; the input reads as it did. -/
def defersOrdersSpec : ChangeSpec := { name := "defersOrders", fn := fun _ => fun
  | [d1, d2] => { results := [.lit (.bool true)], args := [d1, d2] }
  | _ => none }
def defersOrdersRow : OpenClaim := { program := "ytniepfpjklccmad", sum := "edac8d1b278f27823c76ec4c8996b2499054f3657e291fdc7b5fe8169fe0a218", func := "panicroad/panicroadlaw.DefersOrders", spec := "defersOrders", apart := false }
def DefersOrdersSaid : Prop := defersOrdersRow.holds Try.pinned (OpenSpec.ofChange defersOrdersSpec)

/-- ITS FALSE NEIGHBOUR: 'it returns false'. Refute it at one input. -/
def defersOrdersWrong : ChangeSpec := { name := "defersOrders", fn := fun _ => fun
  | [d1, d2] => { results := [.lit (.bool false)], args := [d1, d2] }
  | _ => none }
def DefersOrdersWrongFalsely : Prop := defersOrdersRow.holds Try.pinned (OpenSpec.ofChange defersOrdersWrong)

/-- 'panicroadlaw.DefersDrops': WHATEVER THE INPUT: true; the input reads as it did. -/
def defersDropsSpec : ChangeSpec := { name := "defersDrops", fn := fun _ => fun
  | [d1, d2] => { results := [.lit (.bool true)], args := [d1, d2] }
  | _ => none }
def defersDropsRow : OpenClaim := { program := "ytniepfpjklccmad", sum := "edac8d1b278f27823c76ec4c8996b2499054f3657e291fdc7b5fe8169fe0a218", func := "panicroad/panicroadlaw.DefersDrops", spec := "defersDrops", apart := false }
def DefersDropsSaid : Prop := defersDropsRow.holds Try.pinned (OpenSpec.ofChange defersDropsSpec)

/-- ITS FALSE NEIGHBOUR: 'it returns false'. Refute it at one input. -/
def defersDropsWrong : ChangeSpec := { name := "defersDrops", fn := fun _ => fun
  | [d1, d2] => { results := [.lit (.bool false)], args := [d1, d2] }
  | _ => none }
def DefersDropsWrongFalsely : Prop := defersDropsRow.holds Try.pinned (OpenSpec.ofChange defersDropsWrong)

/-- 'panicroadlaw.GuardNeeds': WHATEVER THE INPUT: true; the input reads as it did. -/
def guardNeedsSpec : ChangeSpec := { name := "guardNeeds", fn := fun _ => fun
  | [d] => { results := [.lit (.bool true)], args := [d] }
  | _ => none }
def guardNeedsRow : OpenClaim := { program := "ytniepfpjklccmad", sum := "edac8d1b278f27823c76ec4c8996b2499054f3657e291fdc7b5fe8169fe0a218", func := "panicroad/panicroadlaw.GuardNeeds", spec := "guardNeeds", unfollowed := true, recurses := true, apart := false }
def GuardNeedsSaid : Prop := guardNeedsRow.holds Try.pinned (OpenSpec.ofChange guardNeedsSpec)

/-- ITS FALSE NEIGHBOUR: 'it returns false'. Refute it at one input. -/
def guardNeedsWrong : ChangeSpec := { name := "guardNeeds", fn := fun _ => fun
  | [d] => { results := [.lit (.bool false)], args := [d] }
  | _ => none }
def GuardNeedsWrongFalsely : Prop := guardNeedsRow.holds Try.pinned (OpenSpec.ofChange guardNeedsWrong)

/-- 'panicroadlaw.ImageNumbers': WHATEVER THE INPUT: true; the input reads as it did. -/
def imageNumbersSpec : ChangeSpec := { name := "imageNumbers", fn := fun _ => fun
  | [d1, d2] => { results := [.lit (.bool true)], args := [d1, d2] }
  | _ => none }
def imageNumbersRow : OpenClaim := { program := "ytniepfpjklccmad", sum := "edac8d1b278f27823c76ec4c8996b2499054f3657e291fdc7b5fe8169fe0a218", func := "panicroad/panicroadlaw.ImageNumbers", spec := "imageNumbers", apart := false }
def ImageNumbersSaid : Prop := imageNumbersRow.holds Try.pinned (OpenSpec.ofChange imageNumbersSpec)

/-- ITS FALSE NEIGHBOUR: 'it returns false'. Refute it at one input. -/
def imageNumbersWrong : ChangeSpec := { name := "imageNumbers", fn := fun _ => fun
  | [d1, d2] => { results := [.lit (.bool false)], args := [d1, d2] }
  | _ => none }
def ImageNumbersWrongFalsely : Prop := imageNumbersRow.holds Try.pinned (OpenSpec.ofChange imageNumbersWrong)

/-- 'panicroadlaw.ImageTakes': WHATEVER THE INPUT: true; the input reads as it did. -/
def imageTakesSpec : ChangeSpec := { name := "imageTakes", fn := fun _ => fun
  | [d] => { results := [.lit (.bool true)], args := [d] }
  | _ => none }
def imageTakesRow : OpenClaim := { program := "ytniepfpjklccmad", sum := "edac8d1b278f27823c76ec4c8996b2499054f3657e291fdc7b5fe8169fe0a218", func := "panicroad/panicroadlaw.ImageTakes", spec := "imageTakes", apart := false }
def ImageTakesSaid : Prop := imageTakesRow.holds Try.pinned (OpenSpec.ofChange imageTakesSpec)

/-- ITS FALSE NEIGHBOUR: 'it returns false'. Refute it at one input. -/
def imageTakesWrong : ChangeSpec := { name := "imageTakes", fn := fun _ => fun
  | [d] => { results := [.lit (.bool false)], args := [d] }
  | _ => none }
def ImageTakesWrongFalsely : Prop := imageTakesRow.holds Try.pinned (OpenSpec.ofChange imageTakesWrong)

/-- 'panicroadlaw.HeapPlays': WHATEVER THE INPUT: true; the input reads as it did. -/
def heapPlaysSpec : ChangeSpec := { name := "heapPlays", fn := fun _ => fun
  | [d1, d2] => { results := [.lit (.bool true)], args := [d1, d2] }
  | _ => none }
def heapPlaysRow : OpenClaim := { program := "ytniepfpjklccmad", sum := "edac8d1b278f27823c76ec4c8996b2499054f3657e291fdc7b5fe8169fe0a218", func := "panicroad/panicroadlaw.HeapPlays", spec := "heapPlays", unfollowed := true, recurses := true, apart := false }
def HeapPlaysSaid : Prop := heapPlaysRow.holds Try.pinned (OpenSpec.ofChange heapPlaysSpec)

/-- ITS FALSE NEIGHBOUR: 'it returns false'. Refute it at one input. -/
def heapPlaysWrong : ChangeSpec := { name := "heapPlays", fn := fun _ => fun
  | [d1, d2] => { results := [.lit (.bool false)], args := [d1, d2] }
  | _ => none }
def HeapPlaysWrongFalsely : Prop := heapPlaysRow.holds Try.pinned (OpenSpec.ofChange heapPlaysWrong)

/- THE SECOND FORM. 'bulk': how many values and letters a reading holds, each counted each time it is reached (what is shared counts as often as it is met; a slice's spare places count too). A statement '..UptoSaid' is the law's where the arguments, and the package variables that the reading takes, are together of bulk at most 1048576: NARROWER than '..Said'. Prove '..Said' where nothing that the law and all that it calls make is longer than what came in: it says more and counts as full. Else prove '..UptoSaid'. A law counts once. -/
mutual
def uptoBulk {H : Type} : DataW H → Nat
  | .lit (.string bytes) => bytes.length + 1
  | .lit _ => 1
  | .nil => 1
  | .ptr d => uptoBulk d + 1
  | .slice elems spare => uptoBulkAll elems + uptoBulkAll spare + 1
  | .agg parts => uptoBulkAll parts + 1
  | .iface _ d => uptoBulk d + 1
  | .map entries => uptoBulkEntries entries + 1
  | .held _ => 1
def uptoBulkAll {H : Type} : List (DataW H) → Nat
  | [] => 0
  | d :: r => uptoBulk d + uptoBulkAll r
def uptoBulkEntries {H : Type} : List (Lit × DataW H) → Nat
  | [] => 0
  | x :: r => uptoBulkEntry x + uptoBulkEntries r
def uptoBulkEntry {H : Type} : Lit × DataW H → Nat
  | (.string bytes, d) => bytes.length + uptoBulk d + 1
  | (_, d) => uptoBulk d + 1
 end
def uptoSmall : (H : Type) → List (DataW H) → Bool := fun _ ds => decide (uptoBulkAll ds ≤ 1048576)
def OpenSpec.upto (s : _root_.Go.ChangeSpec) : _root_.Go.OpenSpec := { _root_.Go.OpenSpec.ofChange s with cond := some uptoSmall }

/-- 'panicroadlaw.DefersPush', WHERE WHAT IT READS IS OF BULK AT MOST 1048576: true; the input reads as it did. -/
def defersPushUptoRow : OpenClaim := { program := "ytniepfpjklccmad", sum := "edac8d1b278f27823c76ec4c8996b2499054f3657e291fdc7b5fe8169fe0a218", func := "panicroad/panicroadlaw.DefersPush", spec := "defersPush", apart := false, narrowed := true }
def DefersPushUptoSaid : Prop := defersPushUptoRow.holds Try.pinned (OpenSpec.upto defersPushSpec)

/-- 'panicroadlaw.DefersPop', WHERE WHAT IT READS IS OF BULK AT MOST 1048576: true; the input reads as it did. -/
def defersPopUptoRow : OpenClaim := { program := "ytniepfpjklccmad", sum := "edac8d1b278f27823c76ec4c8996b2499054f3657e291fdc7b5fe8169fe0a218", func := "panicroad/panicroadlaw.DefersPop", spec := "defersPop", apart := false, narrowed := true }
def DefersPopUptoSaid : Prop := defersPopUptoRow.holds Try.pinned (OpenSpec.upto defersPopSpec)

/-- 'panicroadlaw.DefersTops', WHERE WHAT IT READS IS OF BULK AT MOST 1048576: true; the input reads as it did. -/
def defersTopsUptoRow : OpenClaim := { program := "ytniepfpjklccmad", sum := "edac8d1b278f27823c76ec4c8996b2499054f3657e291fdc7b5fe8169fe0a218", func := "panicroad/panicroadlaw.DefersTops", spec := "defersTops", apart := false, narrowed := true }
def DefersTopsUptoSaid : Prop := defersTopsUptoRow.holds Try.pinned (OpenSpec.upto defersTopsSpec)

/-- 'panicroadlaw.DefersOrders', WHERE WHAT IT READS IS OF BULK AT MOST 1048576: true; the input reads as it did. -/
def defersOrdersUptoRow : OpenClaim := { program := "ytniepfpjklccmad", sum := "edac8d1b278f27823c76ec4c8996b2499054f3657e291fdc7b5fe8169fe0a218", func := "panicroad/panicroadlaw.DefersOrders", spec := "defersOrders", apart := false, narrowed := true }
def DefersOrdersUptoSaid : Prop := defersOrdersUptoRow.holds Try.pinned (OpenSpec.upto defersOrdersSpec)

/-- 'panicroadlaw.DefersDrops', WHERE WHAT IT READS IS OF BULK AT MOST 1048576: true; the input reads as it did. -/
def defersDropsUptoRow : OpenClaim := { program := "ytniepfpjklccmad", sum := "edac8d1b278f27823c76ec4c8996b2499054f3657e291fdc7b5fe8169fe0a218", func := "panicroad/panicroadlaw.DefersDrops", spec := "defersDrops", apart := false, narrowed := true }
def DefersDropsUptoSaid : Prop := defersDropsUptoRow.holds Try.pinned (OpenSpec.upto defersDropsSpec)

/-- 'panicroadlaw.GuardNeeds', WHERE WHAT IT READS IS OF BULK AT MOST 1048576: true; the input reads as it did. -/
def guardNeedsUptoRow : OpenClaim := { program := "ytniepfpjklccmad", sum := "edac8d1b278f27823c76ec4c8996b2499054f3657e291fdc7b5fe8169fe0a218", func := "panicroad/panicroadlaw.GuardNeeds", spec := "guardNeeds", unfollowed := true, recurses := true, apart := false, narrowed := true }
def GuardNeedsUptoSaid : Prop := guardNeedsUptoRow.holds Try.pinned (OpenSpec.upto guardNeedsSpec)

/-- 'panicroadlaw.ImageNumbers', WHERE WHAT IT READS IS OF BULK AT MOST 1048576: true; the input reads as it did. -/
def imageNumbersUptoRow : OpenClaim := { program := "ytniepfpjklccmad", sum := "edac8d1b278f27823c76ec4c8996b2499054f3657e291fdc7b5fe8169fe0a218", func := "panicroad/panicroadlaw.ImageNumbers", spec := "imageNumbers", apart := false, narrowed := true }
def ImageNumbersUptoSaid : Prop := imageNumbersUptoRow.holds Try.pinned (OpenSpec.upto imageNumbersSpec)

/-- 'panicroadlaw.ImageTakes', WHERE WHAT IT READS IS OF BULK AT MOST 1048576: true; the input reads as it did. -/
def imageTakesUptoRow : OpenClaim := { program := "ytniepfpjklccmad", sum := "edac8d1b278f27823c76ec4c8996b2499054f3657e291fdc7b5fe8169fe0a218", func := "panicroad/panicroadlaw.ImageTakes", spec := "imageTakes", apart := false, narrowed := true }
def ImageTakesUptoSaid : Prop := imageTakesUptoRow.holds Try.pinned (OpenSpec.upto imageTakesSpec)

/-- 'panicroadlaw.HeapPlays', WHERE WHAT IT READS IS OF BULK AT MOST 1048576: true; the input reads as it did. -/
def heapPlaysUptoRow : OpenClaim := { program := "ytniepfpjklccmad", sum := "edac8d1b278f27823c76ec4c8996b2499054f3657e291fdc7b5fe8169fe0a218", func := "panicroad/panicroadlaw.HeapPlays", spec := "heapPlays", unfollowed := true, recurses := true, apart := false, narrowed := true }
def HeapPlaysUptoSaid : Prop := heapPlaysUptoRow.holds Try.pinned (OpenSpec.upto heapPlaysSpec)

end Rows
end Go.Proofs.Ytniepfpjklccmad
