/- 'guard.Target' and the document's TargetOf answer alike; so the law over them is true. Conditions: none. -/
import Derived.Test.YtgcedkioanolcaaOpIns
import Derived.Handy
namespace Go.Proofs.Ytgcedkioanolcaa
open Go.ChangeShapes Go.WideShapes Go.ChangeAt Go.RowKit

def tgtN (o a b : Int) : Int := if o == 25 || o == 26 || o == 36 || o == 40 then a else if o == 27 || o == 38 then b else 0
def tgtB (o : Int) : Bool := o == 25 || o == 26 || o == 36 || o == 40 || o == 27 || o == 38
theorem guardTarget_any (o a b c d e : Int) (w : World) : Calls Try.prog 126 #[ins o a b c d e] w fun x w' => x = .returned (.tuple #[.int .i64 (tgtN o a b), .bool (tgtB o)]) ∧ Below w.heap.size w w' := by
  unfold ins
  go_enter Try.func126, Try.ntmps126
  go_wp2
  all_goals
    go_returns
    refine ⟨?_, al _⟩
    simp_all [tgtN, tgtB]
theorem refTargetOf_any (o a b c d e : Int) (w : World) : Calls Try.prog 108 #[ins o a b c d e] w fun x w' => x = .returned (.tuple #[.int .i64 (tgtN o a b), .bool (tgtB o)]) ∧ Below w.heap.size w w' := by
  unfold ins
  go_enter Try.func108, Try.ntmps108
  go_wp2
  all_goals
    go_returns
    refine ⟨?_, al _⟩
    simp_all [tgtN, tgtB]
end Go.Proofs.Ytgcedkioanolcaa
