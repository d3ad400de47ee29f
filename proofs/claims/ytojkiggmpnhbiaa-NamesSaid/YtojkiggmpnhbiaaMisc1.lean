/- The closed laws Names and PanicsBegins. Conditions: none. -/
import Derived.Test.YtojkiggmpnhbiaaBase
import Derived.Handy
namespace Go.Proofs.Ytojkiggmpnhbiaa
open Go.ChangeShapes Go.WideShapes Go.ChangeAt Go.RowKit
theorem walkNames (w : World) : Calls Try.prog 3 #[] w fun e w' => e = .returned (.bool true) ∧ Below w.heap.size w w' := by
  go_enter Try.func3, Try.ntmps3
  go_wp2
  go_ret
  exact ⟨rfl, Below.refl _ _⟩
/-- Two lists of panics without an element are alike. -/
theorem refSamePanics_nil (w : World) : Calls Try.prog 39 #[.slice none 0 0, .slice none 0 0] w fun e w' => e = .returned (.bool true) ∧ w' = w := by
  go_enter Try.func39, Try.ntmps39
  go_wp2
  go_rounds 1
  go_ret
  exact ⟨rfl, rfl⟩
theorem refSameInts_nil (w : World) : Calls Try.prog 40 #[.slice none 0 0, .slice none 0 0] w fun e w' => e = .returned (.bool true) ∧ w' = w := by
  go_enter Try.func40, Try.ntmps40
  go_wp2
  go_rounds 1
  go_ret
  exact ⟨rfl, rfl⟩
/-- The one activation of a state that has just begun. -/
def IsBegun (w : World) (g : Nat) : Prop :=
  w.cell? ⟨g, 0, none⟩ = some (.int .i64 0) ∧ w.cell? ⟨g, 1, none⟩ = some (.int .i64 0) ∧ w.cell? ⟨g, 2, none⟩ = some (.int .i64 (-1)) ∧ w.cell? ⟨g, 3, none⟩ = some (.int .i64 0) ∧ w.cell? ⟨g, 4, none⟩ = some (.slice none 0 0) ∧ g < w.heap.size
theorem IsBegun.stay {w w' : World} {g : Nat} (h : IsBegun w g) (hb : Below w.heap.size w w') : IsBegun w' g := by
  obtain ⟨k1, _⟩ := kept hb
  obtain ⟨a, b, c, d, e, f⟩ := h
  refine ⟨?_, ?_, ?_, ?_, ?_, Nat.lt_of_lt_of_le f hb.size⟩
  all_goals (rw [k1 _ _ f]; assumption)
theorem panicsBegin_any (w : World) : Calls Try.prog 19 #[] w fun e w' => ∃ g, e = .returned (.agg #[.slice (some ⟨g, 0, none⟩) 1 1, .slice none 0 0, .int .i64 1, .int .i64 0, .int .i64 0, .int .i64 0]) ∧ IsBegun w' g ∧ Below w.heap.size w w' := by
  go_enter Try.func19, Try.ntmps19
  go_wp2
  go_returns
  exact ⟨w.heap.size + 1, rfl, by unfold IsBegun; simp, al2 (al _) _⟩
theorem refBeginState_any (w : World) : Calls Try.prog 20 #[] w fun e w' => ∃ g, e = .returned (.agg #[.slice (some ⟨g, 0, none⟩) 1 1, .slice none 0 0, .int .i64 1, .int .i64 0, .int .i64 0, .int .i64 0]) ∧ IsBegun w' g ∧ Below w.heap.size w w' := by
  go_enter Try.func20, Try.ntmps20
  go_wp2
  go_returns
  exact ⟨w.heap.size + 1, rfl, by unfold IsBegun; simp, al2 (al _) _⟩
set_option maxHeartbeats 2000000 in
theorem refSameState_begun (w : World) (g g' : Nat) (h : IsBegun w g) (h' : IsBegun w g') : Calls Try.prog 18 #[.agg #[.slice (some ⟨g, 0, none⟩) 1 1, .slice none 0 0, .int .i64 1, .int .i64 0, .int .i64 0, .int .i64 0], .agg #[.slice (some ⟨g', 0, none⟩) 1 1, .slice none 0 0, .int .i64 1, .int .i64 0, .int .i64 0, .int .i64 0]] w fun e w' => e = .returned (.bool true) ∧ Below w.heap.size w w' := by
  obtain ⟨a0, a1, a2, a3, a4, ha⟩ := h
  obtain ⟨b0, b1, b2, b3, b4, hb⟩ := h'
  have ha1 : g < w.heap.size + 1 := by omega
  have hb1 : g' < w.heap.size + 1 := by omega
  have ha2 : g < w.heap.size + 1 + 1 := by omega
  have hb2 : g' < w.heap.size + 1 + 1 := by omega
  go_enter Try.func18, Try.ntmps18
  go_wp2_with (first | (go_at_call 39; refine (refSamePanics_nil _).mono ?_; rintro e w' ⟨rfl, rfl⟩))
  refine wp_loop_rounds 2 ?_
  rw [rounds_succ]
  go_wp2_with fail
  go_region
  all_goals
    go_wp2_with fail
    refine (refSameInts_nil _).mono ?_
    rintro e w' ⟨rfl, rfl⟩
    go_wp2_with fail
    rw [rounds_succ]
    go_wp2
    go_ret
    refine ⟨rfl, ?_⟩
    go_grown
theorem walkPanicsBegins (w : World) : Calls Try.prog 5 #[] w fun e w' => e = .returned (.bool true) ∧ Below w.heap.size w w' := by
  go_enter Try.func5, Try.ntmps5
  go_wp2_with fail
  refine (panicsBegin_any _).mono ?_
  rintro e w1 ⟨g1, rfl, h1, b1⟩
  go_wp2_with fail
  refine (refBeginState_any _).mono ?_
  rintro e w2 ⟨g2, rfl, h2, b2⟩
  go_wp2_with fail
  refine (refSameState_begun _ _ _ (h1.stay b2) h2).mono ?_
  rintro e w3 ⟨rfl, b3⟩
  go_wp2_with fail
  go_ret
  exact ⟨rfl, sq (sq b1 b2) b3⟩
end Go.Proofs.Ytojkiggmpnhbiaa
