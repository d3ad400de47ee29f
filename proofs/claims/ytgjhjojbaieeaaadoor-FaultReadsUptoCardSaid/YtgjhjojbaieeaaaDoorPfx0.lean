/- A text's begin. Conditions: none. -/
import Derived.Test.YtgjhjojbaieeaaaDoorBase
import Derived.Handy
set_option maxRecDepth 20000
namespace Go.Proofs.YtgjhjojbaieeaaaDoor
open Go.ChangeShapes Go.WideShapes Go.ChangeAt Go.RowKit
/-- Does a text begin so? -/
def pfxB (s p : ByteArray) : Bool := decide (p.size ≤ s.size) && decide (s.extract 0 p.size = p)
theorem ba_eq (a b : ByteArray) : (a.toList == b.toList) = decide (a = b) := by
  rw [ByteArray.toList_eq, ByteArray.toList_eq]
  by_cases h : a = b
  · subst h; simp
  · rw [decide_eq_false h]
    simp only [beq_eq_false_iff_ne, ne_eq]
    exact fun e => h (ByteArray.ext (Array.ext' e))
theorem hasPrefix_lite (s p : ByteArray) (w : World) : Calls Tryd.prog 39 #[.string s, .string p] w fun e w' => e = .returned (.bool (pfxB s p)) ∧ w' = w := by
  by_cases h : p.size ≤ s.size
  · have HE := Lib.hid (show pfxB s p = ((s.extract 0 p.size).toList == p.toList) by unfold pfxB; rw [decide_eq_true h, Bool.true_and, ba_eq])
    have h1 : decide (p.size ≤ s.size) = true := decide_eq_true h
    go_enter Tryd.func39, Tryd.ntmps39
    go_wp2_with fail
    go_ret
    exact ⟨by rw [HE.out]; rfl, rfl⟩
  · have HE := Lib.hid (show pfxB s p = false by unfold pfxB; rw [decide_eq_false h, Bool.false_and])
    have h1 : decide (p.size ≤ s.size) = false := decide_eq_false h
    go_enter Tryd.func39, Tryd.ntmps39
    go_wp2_with fail
    go_ret
    exact ⟨by rw [HE.out]; rfl, rfl⟩
theorem pfx_le {s p : ByteArray} (h : pfxB s p = true) : p.size ≤ s.size := by
  unfold pfxB at h
  rw [Bool.and_eq_true, decide_eq_true_eq] at h
  exact h.1
end Go.Proofs.YtgjhjojbaieeaaaDoor
