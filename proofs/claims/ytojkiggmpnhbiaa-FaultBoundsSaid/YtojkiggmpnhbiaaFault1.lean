/- 'fault.Index', 'fault.Bounds', 'fault.Long' and the document's: what they answer; and that the law over each is true. Conditions: none. -/
import Derived.Test.YtojkiggmpnhbiaaBase
namespace Go.Proofs.Ytojkiggmpnhbiaa
open Go.ChangeShapes Go.WideShapes Go.ChangeAt Go.RowKit

/-- A Fault. -/
def f4 (k a b c : Int) : Value := .agg #[.int .i64 k, .int .i64 a, .int .i64 b, .int .i64 c]
theorem eqF (w : World) (k a b c k' a' b' c' : Int) : (binOp .eql 35 (f4 k a b c) (f4 k' a' b' c')).run Try.prog w = .ok (.bool (k == k' && a == a' && b == b' && c == c')) w := by
  unfold f4
  rw [run_eql_struct]
  simp [go_sem]
  by_cases h1 : k = k' <;> by_cases h2 : a = a' <;> by_cases h3 : b = b' <;> by_cases h4 : c = c' <;> simp [h1, h2, h3, h4]
theorem eqG (w : World) (x y : Operand) (k a b c k' a' b' c' : Int) : (eqGuard .eql 35 x y (f4 k a b c) (f4 k' a' b' c')).run Try.prog w = .ok () w := by
  unfold f4
  simp [eqGuard, go_sem]
attribute [local go_sem] eqF eqG

theorem faultIndex_yes (i n : Int) (w : World) (h : 0 ≤ i) (h2 : i < n) : Calls Try.prog 21 #[.int .i64 i, .int .i64 n] w fun e w' => e = .returned (f4 0 0 0 0) ∧ Below w.heap.size w w' := by
  go_enter Try.func21, Try.ntmps21
  go_wp2
  exact bodyPost_ret (v := f4 0 0 0 0) (by simp [results, Try.results21, go_sem, f4]) rfl ⟨rfl, al _⟩
theorem faultIndex_no (i n : Int) (w : World) (h : i < 0 ∨ n ≤ i) : Calls Try.prog 21 #[.int .i64 i, .int .i64 n] w fun e w' => e = .returned (f4 1 i n 0) ∧ Below w.heap.size w w' := by
  by_cases h0 : i < 0
  all_goals
    rcases h with h | h
    all_goals
      go_enter Try.func21, Try.ntmps21
      go_wp2
      try exact bodyPost_ret (v := f4 1 i n 0) (by simp [results, Try.results21, go_sem, f4]) rfl ⟨rfl, al _⟩
theorem refIndex_yes (i n : Int) (w : World) (h : 0 ≤ i) (h2 : i < n) : Calls Try.prog 22 #[.int .i64 i, .int .i64 n] w fun e w' => e = .returned (f4 0 0 0 0) ∧ Below w.heap.size w w' := by
  go_enter Try.func22, Try.ntmps22
  go_wp2
  exact bodyPost_ret (v := f4 0 0 0 0) (by simp [results, Try.results22, go_sem, f4]) rfl ⟨rfl, al _⟩
theorem refIndex_no (i n : Int) (w : World) (h : i < 0 ∨ n ≤ i) : Calls Try.prog 22 #[.int .i64 i, .int .i64 n] w fun e w' => e = .returned (f4 1 i n 0) ∧ Below w.heap.size w w' := by
  by_cases h0 : i < 0
  all_goals
    rcases h with h | h
    all_goals
      go_enter Try.func22, Try.ntmps22
      go_wp2
      try exact bodyPost_ret (v := f4 1 i n 0) (by simp [results, Try.results22, go_sem, f4]) rfl ⟨rfl, al _⟩
theorem walkFaultIndexes (v0 v1 : Value) (w : World) (w0 : IsInt v0) (w1 : IsInt v1) : Calls Try.prog 6 #[v0, v1] w fun e w' => e = .returned (.bool true) ∧ Below w.heap.size w w' := by
  obtain ⟨i, rfl, _⟩ := w0
  obtain ⟨n, rfl, _⟩ := w1
  by_cases h : 0 ≤ i ∧ i < n
  · obtain ⟨h1, h2⟩ := h
    go_enter Try.func6, Try.ntmps6
    go_wp2_with fail
    refine (faultIndex_yes _ _ _ h1 h2).mono ?_
    rintro e w1 ⟨rfl, b1⟩
    go_wp2_with fail
    refine (refIndex_yes _ _ _ h1 h2).mono ?_
    rintro e w2 ⟨rfl, b2⟩
    go_wp2_with fail
    refine (faultIndex_no _ _ _ (by omega)).mono ?_
    rintro e w3 ⟨rfl, b3⟩
    go_wp2_with fail
    refine (refIndex_no _ _ _ (by omega)).mono ?_
    rintro e w4 ⟨rfl, b4⟩
    go_wp2_with fail
    go_ret
    exact ⟨rfl, sq (sq (sq b1 b2) b3) b4⟩
  · go_enter Try.func6, Try.ntmps6
    go_wp2_with fail
    refine (faultIndex_no _ _ _ (by omega)).mono ?_
    rintro e w1 ⟨rfl, b1⟩
    go_wp2_with fail
    refine (refIndex_no _ _ _ (by omega)).mono ?_
    rintro e w2 ⟨rfl, b2⟩
    go_wp2_with fail
    refine (faultIndex_no _ _ _ (by omega)).mono ?_
    rintro e w3 ⟨rfl, b3⟩
    go_wp2_with fail
    refine (refIndex_no _ _ _ (by omega)).mono ?_
    rintro e w4 ⟨rfl, b4⟩
    go_wp2_with fail
    go_ret
    exact ⟨rfl, sq (sq (sq b1 b2) b3) b4⟩
end Go.Proofs.Ytojkiggmpnhbiaa
