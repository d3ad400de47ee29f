/- 'guard.Need' and the document's NeedOf answer alike; so the law over them is true. Conditions: none. -/
import Derived.Test.YtapbdfcihheecaaOpIns
import Derived.Handy
import Derived.BigRegion
namespace Go.Proofs.Ytapbdfcihheecaa
open Go.ChangeShapes Go.WideShapes Go.ChangeAt Go.RowKit

def NeedPost (x : Value) (b : Bool) (w : World) (e : Ending) (w' : World) : Prop := e = .returned (.tuple #[x, .bool b]) ∧ Below w.heap.size w w'
theorem need_end {w w' : World} {x : Value} {b : Bool} (h : Below w.heap.size w w') : NeedPost x b w (.returned (.tuple #[x, .bool b])) w' := ⟨rfl, h⟩
end Go.Proofs.Ytapbdfcihheecaa

