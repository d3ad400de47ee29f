/- The law WordTexts is true. Conditions: none. -/
import Derived.Test.YtniepfpjklccmaaDecimal
set_option maxRecDepth 20000
namespace Go.Proofs.Ytniepfpjklccmaa
open Go.ChangeShapes Go.WideShapes Go.ChangeAt Go.RowKit
theorem walkWordTexts (v0 : Value) (w : World) (w0 : IsInt v0) : Calls Try.prog 5 #[v0] w fun e w' => e = .returned (.bool true) ∧ Below w.heap.size w w' := by
  obtain ⟨n, rfl, hn⟩ := w0
  go_enter Try.func5, Try.ntmps5
  go_wp2_with fail
  refine (wordText_any n hn _).mono ?_
  rintro e w1 ⟨rfl, hb⟩
  go_wp2_with fail
  refine (refDecimal_any n hn _).mono ?_
  rintro e w2 ⟨rfl, hb2⟩
  go_wp2_with fail
  go_ret
  exact ⟨by simp, sq hb hb2⟩
end Go.Proofs.Ytniepfpjklccmaa
