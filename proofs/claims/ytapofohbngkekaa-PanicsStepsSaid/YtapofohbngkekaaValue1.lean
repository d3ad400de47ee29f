/- 'value.May' and the document's May answer alike; so the law over them is true. Conditions: none. -/
import Derived.Test.YtapofohbngkekaaOpValue
import Derived.Deep.RegionHeld3
namespace Go.Proofs.Ytapofohbngkekaa
open Go.ChangeShapes Go.WideShapes Go.ChangeAt Go.RowKit
def mayB (k : Int) : Bool := k == 1 || k == 3 || k == 5
theorem valueMay_any (k n : Int) (s : ByteArray) (A : Option Addr) (len cap : Nat) (w : World) : Calls Try.prog 69 #[val k n s A len cap] w fun e w' => e = .returned (.bool (mayB k)) ∧ Below w.heap.size w w' := by
  go_enter Try.func69, Try.ntmps69
  go_wp2
  all_goals
    go_ret
    refine ⟨?_, al _⟩
    simp_all [mayB]
theorem refMay_any (k n : Int) (s : ByteArray) (A : Option Addr) (len cap : Nat) (w : World) : Calls Try.prog 52 #[val k n s A len cap] w fun e w' => e = .returned (.bool (mayB k)) ∧ Below w.heap.size w w' := by
  go_enter Try.func52, Try.ntmps52
  go_wp2
  all_goals
    go_ret
    refine ⟨?_, al _⟩
    simp_all [mayB]
end Go.Proofs.Ytapofohbngkekaa
