/- 'guard.Target' and the document's TargetOf answer alike; so the law over them is true. Conditions: none. -/
import Derived.Test.YtapbdfcihheecaaOpIns
import Derived.Handy
namespace Go.Proofs.Ytapbdfcihheecaa
open Go.ChangeShapes Go.WideShapes Go.ChangeAt Go.RowKit

def tgtN (o a b : Int) : Int := if o == 25 || o == 26 || o == 36 || o == 40 then a else if o == 27 || o == 38 then b else 0
def tgtB (o : Int) : Bool := o == 25 || o == 26 || o == 36 || o == 40 || o == 27 || o == 38
theorem guardTarget_any (o a b c d e : Int) (w : World) : Calls Try.prog 128 #[ins o a b c d e] w fun x w' => x = .returned (.tuple #[.int .i64 (tgtN o a b), .bool (tgtB o)]) ∧ Below w.heap.size w w' := by
  unfold ins
  go_enter Try.func128, Try.ntmps128
  go_wp2
  all_goals
    go_returns
    refine ⟨?_, al _⟩
    simp_all [tgtN, tgtB]
theorem refTargetOf_any (o a b c d e : Int) (w : World) : Calls Try.prog 103 #[ins o a b c d e] w fun x w' => x = .returned (.tuple #[.int .i64 (tgtN o a b), .bool (tgtB o)]) ∧ Below w.heap.size w w' := by
  unfold ins
  go_enter Try.func103, Try.ntmps103
  go_wp2
  all_goals
    go_returns
    refine ⟨?_, al _⟩
    simp_all [tgtN, tgtB]
end Go.Proofs.Ytapbdfcihheecaa
