/-
  DERIVED. GIVEN WITH THE SEED: THE CARDS: each row of YtgjhjojbaieeaaaDoorRows.lean that lists a variable, with what it lists TIED to the program's text (the seventh form; the later family's looks); each row that meets fmt, with fmt's text TOLD by the authors' own Lean function (tested against real Go, not proved from fmt's source: count such statements apart). THE CARD IS WHAT COUNTS. Prove the row's statement (the work); the ties are given (YtgjhjojbaieeaaaDoorTie.lean); close each card by the builder's one call (the guide's Derived/Test/ToyasCard.lean, 'card_holds'). Laid BY PROGRAM, IN A SANDBOX (cutbox-door.mjs). By AI agents, Wed Nov 11 2026. No macro, syntax, notation, axiom, sorry.
-/
import Derived.Test.YtgjhjojbaieeaaaDoorRows
import GoSem.ClaimSeven
namespace Go.Proofs.YtgjhjojbaieeaaaDoor
namespace Rows

/-- THE TIED CARD OF 'panicroadlaw.FaultReads'. -/
def faultReadsCard : Claim7 := { stood := { row := faultReadsRow, standIns := [], harness := (true, "a680304e8ffd7e459602367896d4339b2cfe38ec479708008ded054bbec47c14"), looks := false }, kinds := [], alts := [], laidByText := true, laidKinds := [.data, .pinned], laidTests := true, laidLooks := .later }
def FaultReadsCardSaid : Prop := Claim7.holds Tryd.pinned (.plain (OpenSpec.ofChange faultReadsSpec)) faultReadsCard

/-- THE SECOND FORM's CARD OF 'panicroadlaw.FaultReads'. -/
def faultReadsUptoCard : Claim7 := { stood := { row := faultReadsUptoRow, standIns := [], harness := (true, "a680304e8ffd7e459602367896d4339b2cfe38ec479708008ded054bbec47c14"), looks := false }, kinds := [], alts := [], laidByText := true, laidKinds := [.data, .pinned], laidTests := true, laidLooks := .later }
def FaultReadsUptoCardSaid : Prop := Claim7.holds Tryd.pinned (.plain (OpenSpec.upto faultReadsSpec)) faultReadsUptoCard
end Rows
end Go.Proofs.YtgjhjojbaieeaaaDoor
