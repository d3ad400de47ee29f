/- 'CodeSound' is true. Conditions: none. -/
import Derived.Test.YtegpaniooigbdaaCdT
import Derived.Test.YtegpaniooigbdaaCdK
import Derived.Test.YtegpaniooigbdaaCdI
import Derived.Deep.RegionHeld3
set_option maxRecDepth 100000
namespace Go.Proofs.Ytegpaniooigbdaa
open Go.ChangeShapes Go.WideShapes Go.ChangeAt Go.RowKit
theorem codeSound_zero (w : World) : Calls Try.prog 67 #[.agg #[.slice none 0 0, .slice none 0 0]] w fun e w' => e = .returned (.agg #[.int .i64 16, .int .i64 (-1), .int .i64 (-1)]) ∧ Below w.heap.size w w' := by
  refine (codeSound_any none none 0 0 ⟨[], []⟩ 0 0 w rfl rfl ⟨fun k f h => by simp at h, ⟨rfl, fun h => by simp at h⟩, fun s h => by simp at h, fun s h => by simp at h, by simp, by simp, fun s h => by simp at h⟩).mono ?_
  rintro e w' ⟨rfl, hb⟩
  exact ⟨rfl, hb⟩
theorem held01 {W w1 w2 : World} {g : Nat} {x0 x1 : Value} (hg : g < W.heap.size) (hb : Below w1.heap.size w1 w2) (h : w1.cell? ⟨g, 0, none⟩ = some x0 ∧ w1.cell? ⟨g, 1, none⟩ = some x1 ∧ Below W.heap.size W w1) :
    w2.cell? ⟨g, 0, none⟩ = some x0 ∧ w2.cell? ⟨g, 1, none⟩ = some x1 ∧ Below W.heap.size W w2 := by
  obtain ⟨k1, _⟩ := kept hb
  obtain ⟨b, c, e⟩ := h
  have hg1 : g < w1.heap.size := Nat.lt_of_lt_of_le hg e.size
  exact ⟨by rw [k1 _ _ hg1]; exact b, by rw [k1 _ _ hg1]; exact c, sq e hb⟩
theorem lst3 {a b c : Prop} (h : a ∧ b ∧ c) : c := h.2.2
end Go.Proofs.Ytegpaniooigbdaa
