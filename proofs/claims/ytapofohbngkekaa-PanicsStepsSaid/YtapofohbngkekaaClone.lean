/- 'slices.Clone' of numbers; what a copy reads as. Conditions: none. -/
import Derived.Test.YtapofohbngkekaaBase
import Derived.Test.YtapofohbngkekaaShelf
set_option maxRecDepth 20000
namespace Go.Proofs.Ytapofohbngkekaa
open Go.ChangeShapes Go.WideShapes Go.ChangeAt Go.RowKit
theorem clone_any (A : Option Addr) (n c : Nat) (zs : List Int) (w : World) (h : Rd w w.heap.size 1 A n (zs.map (Value.int .i64))) (hn : n * 8 ≤ 140737488355328) :
    Calls Try.prog 74 #[.slice A n c] w fun e w' => ∃ A' c', e = .returned (.slice A' n c') ∧ w'.ownsRow w.heap.size 3 1 (.slice A' n c') n (zs.map (Value.int .i64)) ∧ Below w.heap.size w w' := by
  have hl : zs.length = n := by have := h.1; simpa using this
  rcases A with _ | ad
  · have h0 : n = 0 := by
      rcases Nat.eq_zero_or_pos n with h0 | h0
      · exact h0
      · obtain ⟨b, off, e, _⟩ := h.2 h0; cases e
    subst h0
    obtain rfl : zs = [] := List.eq_nil_of_length_eq_zero hl
    refine (Try.slices_Clone_int_nil 0 c w).mono ?_
    rintro e w' ⟨rfl, rfl⟩
    exact ⟨none, 0, rfl, World.ownsRow_nil _ _ _ _, Below.refl _ _⟩
  · rcases Nat.eq_zero_or_pos n with h0 | h0
    · subst h0
      obtain rfl : zs = [] := List.eq_nil_of_length_eq_zero hl
      refine (Try.slices_Clone_int_zero ad c w).mono ?_
      rintro e w' ⟨v', rfl, hown, _, hb⟩
      obtain ⟨A', c', rfl⟩ := own_form hown
      exact ⟨A', c', rfl, hown, hb⟩
    · obtain ⟨b, off, e, _, hc⟩ := h.2 h0
      injection e with e
      subst e
      refine (Try.slices_Clone_int b off n c zs w (by omega) hn (fun j hj => ?_)).mono ?_
      · refine hc j _ ?_
        rw [List.getElem?_map, List.getElem?_eq_getElem hj]
        simp [List.getD, List.getElem?_eq_getElem hj]
      · rintro e w' ⟨v', rfl, hown, _, hb⟩
        rw [List.take_of_length_le (by omega)] at hown
        obtain ⟨A', c', rfl⟩ := own_form hown
        exact ⟨A', c', rfl, hown, hb⟩
end Go.Proofs.Ytapofohbngkekaa
