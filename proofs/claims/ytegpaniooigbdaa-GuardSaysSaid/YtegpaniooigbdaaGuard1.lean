/- 'guard.After' and the document's AfterOf answer alike, 'guard.Target' and TargetOf too; so the laws over them are true. Conditions: none. -/
import Derived.Test.YtegpaniooigbdaaBase
import Derived.Handy
namespace Go.Proofs.Ytegpaniooigbdaa
open Go.ChangeShapes Go.WideShapes Go.ChangeAt Go.RowKit

def afterF (op : Int) : Int := if op == 24 || op == 28 || op == 31 || op == 33 then 25 else if op == 36 || op == 39 then 40 else 0
theorem guardAfter_any (op : Int) (w : World) : Calls Try.prog 131 #[.int .i64 op] w fun e w' => e = .returned (.int .i64 (afterF op)) ∧ w' = w := by
  go_enter Try.func131, Try.ntmps131
  go_wp2
  all_goals
    go_ret
    exact ⟨by simp [afterF, *], rfl⟩
theorem refAfterOf_any (op : Int) (w : World) : Calls Try.prog 92 #[.int .i64 op] w fun e w' => e = .returned (.int .i64 (afterF op)) ∧ Below w.heap.size w w' := by
  go_enter Try.func92, Try.ntmps92
  go_wp2
  go_rounds 5
  all_goals
    go_ret
    exact ⟨by simp_all [afterF], al _⟩
end Go.Proofs.Ytegpaniooigbdaa
