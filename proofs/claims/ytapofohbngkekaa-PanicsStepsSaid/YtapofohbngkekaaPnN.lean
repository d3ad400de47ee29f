/- 'slices.Clone' of activations and of panics. Conditions: none. -/
import Derived.Test.YtapofohbngkekaaPnG
import Derived.Lib.LazyBuf
set_option maxRecDepth 100000
namespace Go.Proofs.Ytapofohbngkekaa
open Go.ChangeShapes Go.WideShapes Go.ChangeAt Go.RowKit
theorem frClone_any (A : Option Addr) (n c : Nat) (xs : List Value) (w : World) (h : Rd w w.heap.size 5 A n xs) (ho : ∀ u ∈ xs, u.oneCell' = true) (hn : n ≤ 1000000) :
    Calls Try.prog 73 #[.slice A n c] w fun e w' => ∃ A' c', e = .returned (.slice A' n c') ∧ w'.ownsRow w.heap.size 93 5 (.slice A' n c') n xs ∧ Below w.heap.size w w' := by
  obtain ⟨i0, hi, hz0, hz1, hz2⟩ := info_parts info_frame
  rcases A with _ | ad
  · have h0 : n = 0 := by
      rcases Nat.eq_zero_or_pos n with h0 | h0
      · exact h0
      · obtain ⟨b, off, e, _⟩ := h.2 h0; cases e
    subst h0
    obtain rfl : xs = [] := List.eq_nil_of_length_eq_zero (by have := h.1; omega)
    have heq : ∀ W, (binOp .eql 53 (.slice none 0 c) (.slice none 0 0)).run Try.prog W = .ok (.bool true) W := fun W => run_eql_slice_nil W _ _ _ _ _ Try.underlying53
    clear h ho hn
    go_enter Try.func73, Try.ntmps73
    go_wp2_with fail
    go_ret
    exact ⟨none, 0, rfl, World.ownsRow_nil _ _ _ _, Below.refl _ _⟩
  · have HR := Lib.hid h
    have HO := Lib.hid ho
    clear h ho
    have heq : ∀ W, (binOp .eql 53 (.slice (some ad) n c) (.slice none 0 0)).run Try.prog W = .ok (.bool false) W := fun W => run_eql_slice_nil W _ _ _ _ _ Try.underlying53
    go_enter Try.func73, Try.ntmps73
    have hown0 : (w.alloc (.cells #[] 93)).ownsRow w.heap.size 93 5 (.slice (some ⟨w.heap.size, 0, none⟩) 0 0) 0 [] := ⟨rfl, .inr ⟨w.heap.size, 0, #[], rfl, Nat.le_refl _, heap_alloc_new w _, Nat.le_refl _, by unfold maxLen; omega, rfl, rfl⟩⟩
    go_wp2_with (at_builtin; refine wpList_append_rd _ rfl _ _ 53 rfl w.heap.size 93 i0 _ 5 56 Try.underlying53 hi hz0 hz1 hz2 rfl (by omega) (.slice (some ⟨w.heap.size, 0, none⟩) 0 0) 0 [] rfl hown0 w.heap.size (some ad) n c xs rfl (HR.out.alloc (Nat.le_refl _) _) HO.out (by unfold maxLen; omega) (by omega) (by simp) ?_; intro A' c' w' hown hgrow _)
    go_ret
    rw [Nat.zero_add, List.nil_append] at hown
    exact ⟨A', c', rfl, hown, (al _).grown hgrow (by simp) fun q hq => by injection hq with hq; show w.heap.size ≤ q; rw [← hq]; exact Nat.le_refl _⟩
theorem pnClone_any (A : Option Addr) (n c : Nat) (xs : List Value) (w : World) (h : Rd w w.heap.size 7 A n xs) (ho : ∀ u ∈ xs, u.oneCell' = true) (hn : n ≤ 1000000) :
    Calls Try.prog 75 #[.slice A n c] w fun e w' => ∃ A' c', e = .returned (.slice A' n c') ∧ w'.ownsRow w.heap.size 99 7 (.slice A' n c') n xs ∧ Below w.heap.size w w' := by
  obtain ⟨i0, hi, hz0, hz1, hz2⟩ := info_parts info_pn
  rcases A with _ | ad
  · have h0 : n = 0 := by
      rcases Nat.eq_zero_or_pos n with h0 | h0
      · exact h0
      · obtain ⟨b, off, e, _⟩ := h.2 h0; cases e
    subst h0
    obtain rfl : xs = [] := List.eq_nil_of_length_eq_zero (by have := h.1; omega)
    have heq : ∀ W, (binOp .eql 54 (.slice none 0 c) (.slice none 0 0)).run Try.prog W = .ok (.bool true) W := fun W => run_eql_slice_nil W _ _ _ _ _ Try.underlying54
    clear h ho hn
    go_enter Try.func75, Try.ntmps75
    go_wp2_with fail
    go_ret
    exact ⟨none, 0, rfl, World.ownsRow_nil _ _ _ _, Below.refl _ _⟩
  · have HR := Lib.hid h
    have HO := Lib.hid ho
    clear h ho
    have heq : ∀ W, (binOp .eql 54 (.slice (some ad) n c) (.slice none 0 0)).run Try.prog W = .ok (.bool false) W := fun W => run_eql_slice_nil W _ _ _ _ _ Try.underlying54
    go_enter Try.func75, Try.ntmps75
    have hown0 : (w.alloc (.cells #[] 99)).ownsRow w.heap.size 99 7 (.slice (some ⟨w.heap.size, 0, none⟩) 0 0) 0 [] := ⟨rfl, .inr ⟨w.heap.size, 0, #[], rfl, Nat.le_refl _, heap_alloc_new w _, Nat.le_refl _, by unfold maxLen; omega, rfl, rfl⟩⟩
    go_wp2_with (at_builtin; refine wpList_append_rd _ rfl _ _ 54 rfl w.heap.size 99 i0 _ 7 72 Try.underlying54 hi hz0 hz1 hz2 rfl (by omega) (.slice (some ⟨w.heap.size, 0, none⟩) 0 0) 0 [] rfl hown0 w.heap.size (some ad) n c xs rfl (HR.out.alloc (Nat.le_refl _) _) HO.out (by unfold maxLen; omega) (by omega) (by simp) ?_; intro A' c' w' hown hgrow _)
    go_ret
    rw [Nat.zero_add, List.nil_append] at hown
    exact ⟨A', c', rfl, hown, (al _).grown hgrow (by simp) fun q hq => by injection hq with hq; show w.heap.size ≤ q; rw [← hq]; exact Nat.le_refl _⟩
end Go.Proofs.Ytapofohbngkekaa
