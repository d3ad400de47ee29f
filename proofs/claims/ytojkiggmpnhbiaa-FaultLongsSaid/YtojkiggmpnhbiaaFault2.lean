/- 'fault.Long' and the document's: what they answer; and that the law over them is true. Conditions: none. -/
import Derived.Test.YtojkiggmpnhbiaaFault1
namespace Go.Proofs.Ytojkiggmpnhbiaa
open Go.ChangeShapes Go.WideShapes Go.ChangeAt Go.RowKit
attribute [local go_sem] eqF eqG

theorem faultLong_yes (n m : Int) (w : World) (h : n ≤ m) : Calls Try.prog 25 #[.int .i64 n, .int .i64 m] w fun e w' => e = .returned (f4 0 0 0 0) ∧ Below w.heap.size w w' := by
  go_enter Try.func25, Try.ntmps25
  go_wp2
  exact bodyPost_ret (v := f4 0 0 0 0) (by simp [results, Try.results25, go_sem, f4]) rfl ⟨rfl, al _⟩
theorem faultLong_no (n m : Int) (w : World) (h : m < n) : Calls Try.prog 25 #[.int .i64 n, .int .i64 m] w fun e w' => e = .returned (f4 7 n m 0) ∧ Below w.heap.size w w' := by
  go_enter Try.func25, Try.ntmps25
  go_wp2
  exact bodyPost_ret (v := f4 7 n m 0) (by simp [results, Try.results25, go_sem, f4]) rfl ⟨rfl, al _⟩

theorem refLong_yes (n m : Int) (w : World) (h : n ≤ m) : Calls Try.prog 26 #[.int .i64 n, .int .i64 m] w fun e w' => e = .returned (f4 0 0 0 0) ∧ Below w.heap.size w w' := by
  go_enter Try.func26, Try.ntmps26
  go_wp2
  exact bodyPost_ret (v := f4 0 0 0 0) (by simp [results, Try.results26, go_sem, f4]) rfl ⟨rfl, al _⟩
theorem refLong_no (n m : Int) (w : World) (h : m < n) : Calls Try.prog 26 #[.int .i64 n, .int .i64 m] w fun e w' => e = .returned (f4 7 n m 0) ∧ Below w.heap.size w w' := by
  go_enter Try.func26, Try.ntmps26
  go_wp2
  exact bodyPost_ret (v := f4 7 n m 0) (by simp [results, Try.results26, go_sem, f4]) rfl ⟨rfl, al _⟩

theorem walkFaultLongs (v0 v1 : Value) (w : World) (w0 : IsInt v0) (w1 : IsInt v1) : Calls Try.prog 8 #[v0, v1] w fun e w' => e = .returned (.bool true) ∧ Below w.heap.size w w' := by
  obtain ⟨i, rfl, _⟩ := w0
  obtain ⟨n, rfl, _⟩ := w1
  by_cases h : i ≤ n
  · go_enter Try.func8, Try.ntmps8
    go_wp2_with fail
    refine (faultLong_yes _ _ _ h).mono ?_
    rintro e w1 ⟨rfl, b1⟩
    go_wp2_with fail
    refine (refLong_yes _ _ _ h).mono ?_
    rintro e w2 ⟨rfl, b2⟩
    go_wp2_with fail
    refine (faultLong_no _ _ _ (by omega)).mono ?_
    rintro e w3 ⟨rfl, b3⟩
    go_wp2_with fail
    refine (refLong_no _ _ _ (by omega)).mono ?_
    rintro e w4 ⟨rfl, b4⟩
    go_wp2_with fail
    go_ret
    exact ⟨rfl, sq (sq (sq b1 b2) b3) b4⟩
  · go_enter Try.func8, Try.ntmps8
    go_wp2_with fail
    refine (faultLong_no _ _ _ (by omega)).mono ?_
    rintro e w1 ⟨rfl, b1⟩
    go_wp2_with fail
    refine (refLong_no _ _ _ (by omega)).mono ?_
    rintro e w2 ⟨rfl, b2⟩
    go_wp2_with fail
    refine (faultLong_no _ _ _ (by omega)).mono ?_
    rintro e w3 ⟨rfl, b3⟩
    go_wp2_with fail
    refine (refLong_no _ _ _ (by omega)).mono ?_
    rintro e w4 ⟨rfl, b4⟩
    go_wp2_with fail
    go_ret
    exact ⟨rfl, sq (sq (sq b1 b2) b3) b4⟩
end Go.Proofs.Ytojkiggmpnhbiaa
