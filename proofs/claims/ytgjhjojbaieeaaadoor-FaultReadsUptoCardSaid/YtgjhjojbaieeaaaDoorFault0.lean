/- A Fault as a value. Conditions: none. -/
import Derived.Test.YtgjhjojbaieeaaaDoorBase
namespace Go.Proofs.YtgjhjojbaieeaaaDoor
open Go.ChangeShapes Go.WideShapes Go.ChangeAt Go.RowKit

/-- A Fault. -/
def f4 (k a b c : Int) : Value := .agg #[.int .i64 k, .int .i64 a, .int .i64 b, .int .i64 c]
theorem eqF (w : World) (k a b c k' a' b' c' : Int) : (binOp .eql 23 (f4 k a b c) (f4 k' a' b' c')).run Tryd.prog w = .ok (.bool (k == k' && a == a' && b == b' && c == c')) w := by
  unfold f4
  rw [run_eql_struct]
  simp [go_sem]
  by_cases h1 : k = k' <;> by_cases h2 : a = a' <;> by_cases h3 : b = b' <;> by_cases h4 : c = c' <;> simp [h1, h2, h3, h4]
theorem eqG (w : World) (x y : Operand) (k a b c k' a' b' c' : Int) : (eqGuard .eql 23 x y (f4 k a b c) (f4 k' a' b' c')).run Tryd.prog w = .ok () w := by
  unfold f4
  simp [eqGuard, go_sem]
end Go.Proofs.YtgjhjojbaieeaaaDoor
