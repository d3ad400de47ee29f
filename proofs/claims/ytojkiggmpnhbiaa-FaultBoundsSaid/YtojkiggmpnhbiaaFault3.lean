/- 'fault.Bounds' and the document's: what they answer; and that the law over them is true. Conditions: none. -/
import Derived.Test.YtojkiggmpnhbiaaFault1
namespace Go.Proofs.Ytojkiggmpnhbiaa
open Go.ChangeShapes Go.WideShapes Go.ChangeAt Go.RowKit
attribute [local go_sem] eqF eqG

theorem faultBounds_yes (l h n : Int) (w : World) (h1 : 0 ≤ l) (h2 : l ≤ h) (h3 : h ≤ n) : Calls Try.prog 23 #[.int .i64 l, .int .i64 h, .int .i64 n] w fun e w' => e = .returned (f4 0 0 0 0) ∧ Below w.heap.size w w' := by
  go_enter Try.func23, Try.ntmps23
  go_wp2
  exact bodyPost_ret (v := f4 0 0 0 0) (by simp [results, Try.results23, go_sem, f4]) rfl ⟨rfl, al _⟩
theorem faultBounds_no (l h n : Int) (w : World) (hh : l < 0 ∨ h < l ∨ n < h) : Calls Try.prog 23 #[.int .i64 l, .int .i64 h, .int .i64 n] w fun e w' => e = .returned (f4 5 l h n) ∧ Below w.heap.size w w' := by
  by_cases h0 : l < 0
  · clear hh
    go_enter Try.func23, Try.ntmps23
    go_wp2
    exact bodyPost_ret (v := f4 5 l h n) (by simp [results, Try.results23, go_sem, f4]) rfl ⟨rfl, al _⟩
  · by_cases h1 : h < l
    · clear hh
      go_enter Try.func23, Try.ntmps23
      go_wp2
      exact bodyPost_ret (v := f4 5 l h n) (by simp [results, Try.results23, go_sem, f4]) rfl ⟨rfl, al _⟩
    · have h2 : n < h := by omega
      clear hh
      go_enter Try.func23, Try.ntmps23
      go_wp2
      exact bodyPost_ret (v := f4 5 l h n) (by simp [results, Try.results23, go_sem, f4]) rfl ⟨rfl, al _⟩

theorem refBounds_yes (l h n : Int) (w : World) (h1 : 0 ≤ l) (h2 : l ≤ h) (h3 : h ≤ n) : Calls Try.prog 24 #[.int .i64 l, .int .i64 h, .int .i64 n] w fun e w' => e = .returned (f4 0 0 0 0) ∧ Below w.heap.size w w' := by
  go_enter Try.func24, Try.ntmps24
  go_wp2
  exact bodyPost_ret (v := f4 0 0 0 0) (by simp [results, Try.results24, go_sem, f4]) rfl ⟨rfl, al _⟩
theorem refBounds_no (l h n : Int) (w : World) (hh : l < 0 ∨ h < l ∨ n < h) : Calls Try.prog 24 #[.int .i64 l, .int .i64 h, .int .i64 n] w fun e w' => e = .returned (f4 5 l h n) ∧ Below w.heap.size w w' := by
  by_cases h0 : l < 0
  · clear hh
    go_enter Try.func24, Try.ntmps24
    go_wp2
    exact bodyPost_ret (v := f4 5 l h n) (by simp [results, Try.results24, go_sem, f4]) rfl ⟨rfl, al _⟩
  · by_cases h1 : h < l
    · clear hh
      go_enter Try.func24, Try.ntmps24
      go_wp2
      exact bodyPost_ret (v := f4 5 l h n) (by simp [results, Try.results24, go_sem, f4]) rfl ⟨rfl, al _⟩
    · have h2 : n < h := by omega
      clear hh
      go_enter Try.func24, Try.ntmps24
      go_wp2
      exact bodyPost_ret (v := f4 5 l h n) (by simp [results, Try.results24, go_sem, f4]) rfl ⟨rfl, al _⟩

theorem walkFaultBounds (v0 v1 v2 : Value) (w : World) (w0 : IsInt v0) (w1 : IsInt v1) (w2 : IsInt v2) : Calls Try.prog 7 #[v0, v1, v2] w fun e w' => e = .returned (.bool true) ∧ Below w.heap.size w w' := by
  obtain ⟨l, rfl, _⟩ := w0
  obtain ⟨h, rfl, _⟩ := w1
  obtain ⟨n, rfl, _⟩ := w2
  by_cases hh : 0 ≤ l ∧ l ≤ h ∧ h ≤ n
  · obtain ⟨h1, h2, h3⟩ := hh
    go_enter Try.func7, Try.ntmps7
    go_wp2_with fail
    refine (faultBounds_yes _ _ _ _ h1 h2 h3).mono ?_
    rintro e w1 ⟨rfl, b1⟩
    go_wp2_with fail
    refine (refBounds_yes _ _ _ _ h1 h2 h3).mono ?_
    rintro e w2 ⟨rfl, b2⟩
    go_wp2_with fail
    refine (faultBounds_no _ _ _ _ (by omega)).mono ?_
    rintro e w3 ⟨rfl, b3⟩
    go_wp2_with fail
    refine (refBounds_no _ _ _ _ (by omega)).mono ?_
    rintro e w4 ⟨rfl, b4⟩
    go_wp2_with fail
    go_ret
    exact ⟨rfl, sq (sq (sq b1 b2) b3) b4⟩
  · go_enter Try.func7, Try.ntmps7
    go_wp2_with fail
    refine (faultBounds_no _ _ _ _ (by omega)).mono ?_
    rintro e w1 ⟨rfl, b1⟩
    go_wp2_with fail
    refine (refBounds_no _ _ _ _ (by omega)).mono ?_
    rintro e w2 ⟨rfl, b2⟩
    go_wp2_with fail
    refine (faultBounds_no _ _ _ _ (by omega)).mono ?_
    rintro e w3 ⟨rfl, b3⟩
    go_wp2_with fail
    refine (refBounds_no _ _ _ _ (by omega)).mono ?_
    rintro e w4 ⟨rfl, b4⟩
    go_wp2_with fail
    go_ret
    exact ⟨rfl, sq (sq (sq b1 b2) b3) b4⟩
end Go.Proofs.Ytojkiggmpnhbiaa
