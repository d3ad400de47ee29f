/- 'guard.Target' and the document's TargetOf answer alike; so the law over them is true. Conditions: none. -/
import Derived.Test.YtojkiggmpnhbiaaOpIns
import Derived.Handy
namespace Go.Proofs.Ytojkiggmpnhbiaa
open Go.ChangeShapes Go.WideShapes Go.ChangeAt Go.RowKit

def tgtN (o a b : Int) : Int := if o == 25 || o == 26 || o == 36 || o == 40 then a else if o == 27 || o == 38 then b else 0
def tgtB (o : Int) : Bool := o == 25 || o == 26 || o == 36 || o == 40 || o == 27 || o == 38
theorem guardTarget_any (o a b c d e : Int) (w : World) : Calls Try.prog 37 #[ins o a b c d e] w fun x w' => x = .returned (.tuple #[.int .i64 (tgtN o a b), .bool (tgtB o)]) ∧ Below w.heap.size w w' := by
  unfold ins
  go_enter Try.func37, Try.ntmps37
  go_wp2
  all_goals
    go_returns
    refine ⟨?_, al _⟩
    simp_all [tgtN, tgtB]
theorem refTargetOf_any (o a b c d e : Int) (w : World) : Calls Try.prog 38 #[ins o a b c d e] w fun x w' => x = .returned (.tuple #[.int .i64 (tgtN o a b), .bool (tgtB o)]) ∧ Below w.heap.size w w' := by
  unfold ins
  go_enter Try.func38, Try.ntmps38
  go_wp2
  all_goals
    go_returns
    refine ⟨?_, al _⟩
    simp_all [tgtN, tgtB]
theorem walkGuardTargets (v0 : Value) (w : World) (w0 : IsIns v0) : Calls Try.prog 14 #[v0] w fun e w' => e = .returned (.bool true) ∧ Below w.heap.size w w' := by
  obtain ⟨o, a, b, c, d, e, rfl⟩ := w0
  have h0 : tgtB 26 = true := by decide
  go_enter Try.func14, Try.ntmps14
  go_wp2_with fail
  refine (guardTarget_any _ _ _ _ _ _ _).mono ?_
  rintro x w1 ⟨rfl, b1⟩
  obtain ⟨k1, k2⟩ := kept b1
  go_wp2_with fail
  refine (refTargetOf_any _ _ _ _ _ _ _).mono ?_
  rintro x w2 ⟨rfl, b2⟩
  go_wp2_with fail
  refine (guardTarget_any _ _ _ _ _ _ _).mono ?_
  rintro x w3 ⟨rfl, b3⟩
  go_wp2_with fail
  go_ret
  exact ⟨rfl, sq (sq (sq (al _) b1) b2) b3⟩
end Go.Proofs.Ytojkiggmpnhbiaa
