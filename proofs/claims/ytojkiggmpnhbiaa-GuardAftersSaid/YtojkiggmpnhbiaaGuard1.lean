/- 'guard.After' and the document's AfterOf answer alike, 'guard.Target' and TargetOf too; so the laws over them are true. Conditions: none. -/
import Derived.Test.YtojkiggmpnhbiaaBase
import Derived.Handy
namespace Go.Proofs.Ytojkiggmpnhbiaa
open Go.ChangeShapes Go.WideShapes Go.ChangeAt Go.RowKit

def afterF (op : Int) : Int := if op == 24 || op == 28 || op == 31 || op == 33 then 25 else if op == 36 || op == 39 then 40 else 0
theorem guardAfter_any (op : Int) (w : World) : Calls Try.prog 35 #[.int .i64 op] w fun e w' => e = .returned (.int .i64 (afterF op)) ∧ w' = w := by
  go_enter Try.func35, Try.ntmps35
  go_wp2
  all_goals
    go_ret
    exact ⟨by simp [afterF, *], rfl⟩
theorem refAfterOf_any (op : Int) (w : World) : Calls Try.prog 36 #[.int .i64 op] w fun e w' => e = .returned (.int .i64 (afterF op)) ∧ Below w.heap.size w w' := by
  go_enter Try.func36, Try.ntmps36
  go_wp2
  go_rounds 5
  all_goals
    go_ret
    exact ⟨by simp_all [afterF], al _⟩
theorem walkGuardAfters (v0 : Value) (w : World) (w0 : IsInt v0) : Calls Try.prog 13 #[v0] w fun e w' => e = .returned (.bool true) ∧ Below w.heap.size w w' := by
  obtain ⟨op, rfl, _⟩ := w0
  go_enter Try.func13, Try.ntmps13
  go_wp2_with fail
  refine (guardAfter_any _ _).mono ?_
  rintro e w1 ⟨rfl, rfl⟩
  go_wp2_with fail
  refine (refAfterOf_any _ _).mono ?_
  rintro e w2 ⟨rfl, b2⟩
  go_wp2_with fail
  refine (guardAfter_any _ _).mono ?_
  rintro e w3 ⟨rfl, rfl⟩
  go_wp2_with fail
  go_ret
  exact ⟨by simp [afterF], b2⟩
end Go.Proofs.Ytojkiggmpnhbiaa
