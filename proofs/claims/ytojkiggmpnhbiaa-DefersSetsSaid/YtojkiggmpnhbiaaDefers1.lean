/- 'defers.Set' and the document's SetBit answer alike; so the law over them is true. Conditions: none. -/
import Derived.Test.YtojkiggmpnhbiaaBase
namespace Go.Proofs.Ytojkiggmpnhbiaa
open Go.ChangeShapes Go.WideShapes Go.ChangeAt Go.RowKit

def orB (m k : Int) : Int := bits BinOp.or IntKind.i64 m (wrap64 (2 ^ k.toNat))
theorem orB_8 : orB 0 3 = 8 := by decide +kernel

theorem defersSet_yes (m k : Int) (w : World) (h1 : 0 ≤ m) (h2 : m < 256) (h3 : 0 ≤ k) (h4 : k < 8) : Calls Try.prog 29 #[.int .i64 m, .int .i64 k] w fun e w' => e = .returned (.tuple #[.int .i64 (orB m k), .int .i64 0]) ∧ w' = w := by
  go_enter Try.func29, Try.ntmps29
  go_wp2
  go_ret2
  exact ⟨rfl, rfl⟩
theorem refSetBit_yes (m k : Int) (w : World) (h1 : 0 ≤ m) (h2 : m < 256) (h3 : 0 ≤ k) (h4 : k < 8) : Calls Try.prog 30 #[.int .i64 m, .int .i64 k] w fun e w' => e = .returned (.tuple #[.int .i64 (orB m k), .int .i64 0]) ∧ w' = w := by
  go_enter Try.func30, Try.ntmps30
  go_wp2
  go_ret2
  exact ⟨rfl, rfl⟩
theorem defersSet_no (m k : Int) (w : World) (h : m < 0 ∨ 256 ≤ m ∨ k < 0 ∨ 8 ≤ k) : Calls Try.prog 29 #[.int .i64 m, .int .i64 k] w fun e w' => e = .returned (.tuple #[.int .i64 0, .int .i64 14]) ∧ w' = w := by
  by_cases h1 : m < 0
  · clear h
    go_enter Try.func29, Try.ntmps29
    go_wp2
    go_ret2
    exact ⟨rfl, rfl⟩
  · by_cases h2 : 256 ≤ m
    · clear h
      go_enter Try.func29, Try.ntmps29
      go_wp2
      go_ret2
      exact ⟨rfl, rfl⟩
    · by_cases h3 : k < 0
      · clear h
        go_enter Try.func29, Try.ntmps29
        go_wp2
        go_ret2
        exact ⟨rfl, rfl⟩
      · have h4 : 8 ≤ k := by omega
        clear h
        go_enter Try.func29, Try.ntmps29
        go_wp2
        go_ret2
        exact ⟨rfl, rfl⟩
theorem refSetBit_no (m k : Int) (w : World) (h : m < 0 ∨ 256 ≤ m ∨ k < 0 ∨ 8 ≤ k) : Calls Try.prog 30 #[.int .i64 m, .int .i64 k] w fun e w' => e = .returned (.tuple #[.int .i64 0, .int .i64 14]) ∧ w' = w := by
  by_cases h1 : m < 0
  · clear h
    go_enter Try.func30, Try.ntmps30
    go_wp2
    go_ret2
    exact ⟨rfl, rfl⟩
  · by_cases h2 : 256 ≤ m
    · clear h
      go_enter Try.func30, Try.ntmps30
      go_wp2
      go_ret2
      exact ⟨rfl, rfl⟩
    · by_cases h3 : k < 0
      · clear h
        go_enter Try.func30, Try.ntmps30
        go_wp2
        go_ret2
        exact ⟨rfl, rfl⟩
      · have h4 : 8 ≤ k := by omega
        clear h
        go_enter Try.func30, Try.ntmps30
        go_wp2
        go_ret2
        exact ⟨rfl, rfl⟩

theorem walkDefersSets (v0 v1 : Value) (w : World) (w0 : IsInt v0) (w1 : IsInt v1) : Calls Try.prog 10 #[v0, v1] w fun e w' => e = .returned (.bool true) ∧ Below w.heap.size w w' := by
  obtain ⟨m, rfl, _⟩ := w0
  obtain ⟨k, rfl, _⟩ := w1
  by_cases h : 0 ≤ m ∧ m < 256 ∧ 0 ≤ k ∧ k < 8
  · obtain ⟨h1, h2, h3, h4⟩ := h
    go_enter Try.func10, Try.ntmps10
    go_wp2_with fail
    refine (defersSet_yes _ _ _ h1 h2 h3 h4).mono ?_
    rintro e w1 ⟨rfl, rfl⟩
    go_wp2_with fail
    refine (refSetBit_yes _ _ _ h1 h2 h3 h4).mono ?_
    rintro e w1 ⟨rfl, rfl⟩
    go_wp2_with fail
    refine (defersSet_yes _ _ _ (by omega) (by omega) (by omega) (by omega)).mono ?_
    rintro e w1 ⟨rfl, rfl⟩
    rw [orB_8]
    go_wp2_with fail
    go_ret
    exact ⟨rfl, Below.refl _ _⟩
  · go_enter Try.func10, Try.ntmps10
    go_wp2_with fail
    refine (defersSet_no _ _ _ (by omega)).mono ?_
    rintro e w1 ⟨rfl, rfl⟩
    go_wp2_with fail
    refine (refSetBit_no _ _ _ (by omega)).mono ?_
    rintro e w1 ⟨rfl, rfl⟩
    go_wp2_with fail
    refine (defersSet_yes _ _ _ (by omega) (by omega) (by omega) (by omega)).mono ?_
    rintro e w1 ⟨rfl, rfl⟩
    rw [orB_8]
    go_wp2_with fail
    go_ret
    exact ⟨rfl, Below.refl _ _⟩
end Go.Proofs.Ytojkiggmpnhbiaa
