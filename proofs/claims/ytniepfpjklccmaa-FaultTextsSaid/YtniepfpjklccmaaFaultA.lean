/- 'fault.Index', 'fault.Bounds', 'fault.Long' and the document's: what they answer. Conditions: none. -/
import Derived.Test.YtniepfpjklccmaaBase
namespace Go.Proofs.Ytniepfpjklccmaa
open Go.ChangeShapes Go.WideShapes Go.ChangeAt Go.RowKit

/-- A Fault. -/
def f4 (k a b c : Int) : Value := .agg #[.int .i64 k, .int .i64 a, .int .i64 b, .int .i64 c]
theorem eqF (w : World) (k a b c k' a' b' c' : Int) : (binOp .eql 38 (f4 k a b c) (f4 k' a' b' c')).run Try.prog w = .ok (.bool (k == k' && a == a' && b == b' && c == c')) w := by
  unfold f4
  rw [run_eql_struct]
  simp [go_sem]
  by_cases h1 : k = k' <;> by_cases h2 : a = a' <;> by_cases h3 : b = b' <;> by_cases h4 : c = c' <;> simp [h1, h2, h3, h4]
theorem eqG (w : World) (x y : Operand) (k a b c k' a' b' c' : Int) : (eqGuard .eql 38 x y (f4 k a b c) (f4 k' a' b' c')).run Try.prog w = .ok () w := by
  unfold f4
  simp [eqGuard, go_sem]
attribute [local go_sem] eqF eqG

theorem faultIndex_yes (i n : Int) (w : World) (h : 0 ≤ i) (h2 : i < n) : Calls Try.prog 58 #[.int .i64 i, .int .i64 n] w fun e w' => e = .returned (f4 0 0 0 0) ∧ Below w.heap.size w w' := by
  go_enter Try.func58, Try.ntmps58
  go_wp2
  exact bodyPost_ret (v := f4 0 0 0 0) (by simp [results, Try.results58, go_sem, f4]) rfl ⟨rfl, al _⟩
theorem faultIndex_no (i n : Int) (w : World) (h : i < 0 ∨ n ≤ i) : Calls Try.prog 58 #[.int .i64 i, .int .i64 n] w fun e w' => e = .returned (f4 1 i n 0) ∧ Below w.heap.size w w' := by
  by_cases h0 : i < 0
  all_goals
    rcases h with h | h
    all_goals
      go_enter Try.func58, Try.ntmps58
      go_wp2
      try exact bodyPost_ret (v := f4 1 i n 0) (by simp [results, Try.results58, go_sem, f4]) rfl ⟨rfl, al _⟩
theorem refIndex_yes (i n : Int) (w : World) (h : 0 ≤ i) (h2 : i < n) : Calls Try.prog 61 #[.int .i64 i, .int .i64 n] w fun e w' => e = .returned (f4 0 0 0 0) ∧ Below w.heap.size w w' := by
  go_enter Try.func61, Try.ntmps61
  go_wp2
  exact bodyPost_ret (v := f4 0 0 0 0) (by simp [results, Try.results61, go_sem, f4]) rfl ⟨rfl, al _⟩
theorem refIndex_no (i n : Int) (w : World) (h : i < 0 ∨ n ≤ i) : Calls Try.prog 61 #[.int .i64 i, .int .i64 n] w fun e w' => e = .returned (f4 1 i n 0) ∧ Below w.heap.size w w' := by
  by_cases h0 : i < 0
  all_goals
    rcases h with h | h
    all_goals
      go_enter Try.func61, Try.ntmps61
      go_wp2
      try exact bodyPost_ret (v := f4 1 i n 0) (by simp [results, Try.results61, go_sem, f4]) rfl ⟨rfl, al _⟩

theorem faultLong_yes (n m : Int) (w : World) (h : n ≤ m) : Calls Try.prog 60 #[.int .i64 n, .int .i64 m] w fun e w' => e = .returned (f4 0 0 0 0) ∧ Below w.heap.size w w' := by
  go_enter Try.func60, Try.ntmps60
  go_wp2
  exact bodyPost_ret (v := f4 0 0 0 0) (by simp [results, Try.results60, go_sem, f4]) rfl ⟨rfl, al _⟩
theorem faultLong_no (n m : Int) (w : World) (h : m < n) : Calls Try.prog 60 #[.int .i64 n, .int .i64 m] w fun e w' => e = .returned (f4 7 n m 0) ∧ Below w.heap.size w w' := by
  go_enter Try.func60, Try.ntmps60
  go_wp2
  exact bodyPost_ret (v := f4 7 n m 0) (by simp [results, Try.results60, go_sem, f4]) rfl ⟨rfl, al _⟩

theorem refLong_yes (n m : Int) (w : World) (h : n ≤ m) : Calls Try.prog 37 #[.int .i64 n, .int .i64 m] w fun e w' => e = .returned (f4 0 0 0 0) ∧ Below w.heap.size w w' := by
  go_enter Try.func37, Try.ntmps37
  go_wp2
  exact bodyPost_ret (v := f4 0 0 0 0) (by simp [results, Try.results37, go_sem, f4]) rfl ⟨rfl, al _⟩
theorem refLong_no (n m : Int) (w : World) (h : m < n) : Calls Try.prog 37 #[.int .i64 n, .int .i64 m] w fun e w' => e = .returned (f4 7 n m 0) ∧ Below w.heap.size w w' := by
  go_enter Try.func37, Try.ntmps37
  go_wp2
  exact bodyPost_ret (v := f4 7 n m 0) (by simp [results, Try.results37, go_sem, f4]) rfl ⟨rfl, al _⟩


theorem faultBounds_yes (l h n : Int) (w : World) (h1 : 0 ≤ l) (h2 : l ≤ h) (h3 : h ≤ n) : Calls Try.prog 59 #[.int .i64 l, .int .i64 h, .int .i64 n] w fun e w' => e = .returned (f4 0 0 0 0) ∧ Below w.heap.size w w' := by
  go_enter Try.func59, Try.ntmps59
  go_wp2
  exact bodyPost_ret (v := f4 0 0 0 0) (by simp [results, Try.results59, go_sem, f4]) rfl ⟨rfl, al _⟩
theorem faultBounds_no (l h n : Int) (w : World) (hh : l < 0 ∨ h < l ∨ n < h) : Calls Try.prog 59 #[.int .i64 l, .int .i64 h, .int .i64 n] w fun e w' => e = .returned (f4 5 l h n) ∧ Below w.heap.size w w' := by
  by_cases h0 : l < 0
  · clear hh
    go_enter Try.func59, Try.ntmps59
    go_wp2
    exact bodyPost_ret (v := f4 5 l h n) (by simp [results, Try.results59, go_sem, f4]) rfl ⟨rfl, al _⟩
  · by_cases h1 : h < l
    · clear hh
      go_enter Try.func59, Try.ntmps59
      go_wp2
      exact bodyPost_ret (v := f4 5 l h n) (by simp [results, Try.results59, go_sem, f4]) rfl ⟨rfl, al _⟩
    · have h2 : n < h := by omega
      clear hh
      go_enter Try.func59, Try.ntmps59
      go_wp2
      exact bodyPost_ret (v := f4 5 l h n) (by simp [results, Try.results59, go_sem, f4]) rfl ⟨rfl, al _⟩

theorem refBounds_yes (l h n : Int) (w : World) (h1 : 0 ≤ l) (h2 : l ≤ h) (h3 : h ≤ n) : Calls Try.prog 62 #[.int .i64 l, .int .i64 h, .int .i64 n] w fun e w' => e = .returned (f4 0 0 0 0) ∧ Below w.heap.size w w' := by
  go_enter Try.func62, Try.ntmps62
  go_wp2
  exact bodyPost_ret (v := f4 0 0 0 0) (by simp [results, Try.results62, go_sem, f4]) rfl ⟨rfl, al _⟩
theorem refBounds_no (l h n : Int) (w : World) (hh : l < 0 ∨ h < l ∨ n < h) : Calls Try.prog 62 #[.int .i64 l, .int .i64 h, .int .i64 n] w fun e w' => e = .returned (f4 5 l h n) ∧ Below w.heap.size w w' := by
  by_cases h0 : l < 0
  · clear hh
    go_enter Try.func62, Try.ntmps62
    go_wp2
    exact bodyPost_ret (v := f4 5 l h n) (by simp [results, Try.results62, go_sem, f4]) rfl ⟨rfl, al _⟩
  · by_cases h1 : h < l
    · clear hh
      go_enter Try.func62, Try.ntmps62
      go_wp2
      exact bodyPost_ret (v := f4 5 l h n) (by simp [results, Try.results62, go_sem, f4]) rfl ⟨rfl, al _⟩
    · have h2 : n < h := by omega
      clear hh
      go_enter Try.func62, Try.ntmps62
      go_wp2
      exact bodyPost_ret (v := f4 5 l h n) (by simp [results, Try.results62, go_sem, f4]) rfl ⟨rfl, al _⟩

end Go.Proofs.Ytniepfpjklccmaa
