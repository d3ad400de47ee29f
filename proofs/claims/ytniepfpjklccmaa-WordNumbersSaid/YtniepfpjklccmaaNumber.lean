/- 'word.Number' and the document's Number answer alike; so the law over them is true. Conditions: none. -/
import Derived.Test.YtniepfpjklccmaaSgTab
namespace Go.Proofs.Ytniepfpjklccmaa
open Go.ChangeShapes Go.WideShapes Go.ChangeAt Go.RowKit

theorem wordNumber_yes (s : ByteArray) (j : Nat) (h1 : 1 ≤ j) (h2 : j ≤ 16) (hs : Hid (s.toList = (sgAt j).toList)) (w : World) : Calls Try.prog 14 #[.string s] w fun e w' => e = .returned (.tuple #[.int .i64 (j : Int), .int .i64 0]) ∧ Below w.heap.size w w' := by
  go_enter Try.func14, Try.ntmps14
  go_wp2_with (go_at_call 38; refine (wordSigns_any _).mono ?_; rintro e w1 ⟨rfl, b1⟩)
  go_loop [7] (fun i => ∃ k : Nat, k ≤ j ∧ i = .int .i64 k) (fun i => 17 - (intOf i).toNat)
  case atStart => exact ⟨0, by omega, rfl⟩
  case round =>
    obtain ⟨k, hk, rfl⟩ := hrel
    have hi := run_sgAt k (by omega)
    by_cases e : k = j
    · subst e
      have HT : ((sgAt k).toList == s.toList) = true := by rw [hs.out]; simp
      go_wp2
      go_ret2
      exact ⟨rfl, b1⟩
    · have HT : ((sgAt k).toList == s.toList) = false := by rw [hs.out]; simpa using sg_ne k (by omega) j (by omega) e
      have hkj : k < j := by omega
      clear e
      go_wp2
      all_goals
        go_round
        case rel => exact ⟨k + 1, by omega, by go_num⟩
        case measure => simp [intOf]; omega
theorem wordNumber_no (s : ByteArray) (hs : Hid (∀ k, 1 ≤ k → k ≤ 16 → (sgAt k).toList ≠ s.toList)) (w : World) : Calls Try.prog 14 #[.string s] w fun e w' => e = .returned (.tuple #[.int .i64 0, .int .i64 16]) ∧ Below w.heap.size w w' := by
  go_enter Try.func14, Try.ntmps14
  go_wp2_with (go_at_call 38; refine (wordSigns_any _).mono ?_; rintro e w1 ⟨rfl, b1⟩)
  go_loop [7] (fun i => ∃ k : Nat, k ≤ 17 ∧ i = .int .i64 k) (fun i => 17 - (intOf i).toNat)
  case atStart => exact ⟨0, by omega, rfl⟩
  case round =>
    obtain ⟨k, hk, rfl⟩ := hrel
    by_cases h17 : k < 17
    · have hi := run_sgAt k h17
      by_cases h0 : 0 < k
      · have HT : ((sgAt k).toList == s.toList) = false := by simpa using hs.out k h0 (by omega)
        go_wp2
        all_goals
          go_round
          case rel => exact ⟨k + 1, by omega, by go_num⟩
          case measure => simp [intOf]; omega
      · go_wp2
        all_goals
          go_round
          case rel => exact ⟨k + 1, by omega, by go_num⟩
          case measure => simp [intOf]; omega
    · go_wp2
      go_ret2
      exact ⟨rfl, b1⟩
theorem refNumber_yes (s : ByteArray) (j : Nat) (h1 : 1 ≤ j) (h2 : j ≤ 16) (hs : Hid (s.toList = (sgAt j).toList)) (w : World) : Calls Try.prog 15 #[.string s] w fun e w' => e = .returned (.tuple #[.int .i64 (j : Int), .int .i64 0]) ∧ Below w.heap.size w w' := by
  go_enter Try.func15, Try.ntmps15
  go_wp2_with (go_at_call 39; refine (cutAt_signs _).mono ?_; rintro e w1 ⟨g, c, rfl, hr, b1⟩)
  go_loop [8] (fun i => ∃ k : Nat, k ≤ j ∧ i = .int .i64 k) (fun i => 17 - (intOf i).toNat)
  case atStart => exact ⟨0, by omega, rfl⟩
  case round =>
    obtain ⟨k, hk, rfl⟩ := hrel
    have hi := cell_sg hr (show k < 17 by omega)
    by_cases e : k = j
    · subst e
      have HT : ((sgAt k).toList == s.toList) = true := by rw [hs.out]; simp
      go_wp2
      go_ret2
      exact ⟨rfl, b1⟩
    · have HT : ((sgAt k).toList == s.toList) = false := by rw [hs.out]; simpa using sg_ne k (by omega) j (by omega) e
      have hkj : k < j := by omega
      clear e
      go_wp2
      all_goals
        go_round
        case rel => exact ⟨k + 1, by omega, by go_num⟩
        case measure => simp [intOf]; omega
theorem refNumber_no (s : ByteArray) (hs : Hid (∀ k, 1 ≤ k → k ≤ 16 → (sgAt k).toList ≠ s.toList)) (w : World) : Calls Try.prog 15 #[.string s] w fun e w' => e = .returned (.tuple #[.int .i64 0, .int .i64 16]) ∧ Below w.heap.size w w' := by
  go_enter Try.func15, Try.ntmps15
  go_wp2_with (go_at_call 39; refine (cutAt_signs _).mono ?_; rintro e w1 ⟨g, c, rfl, hr, b1⟩)
  go_loop [8] (fun i => ∃ k : Nat, k ≤ 17 ∧ i = .int .i64 k) (fun i => 17 - (intOf i).toNat)
  case atStart => exact ⟨0, by omega, rfl⟩
  case round =>
    obtain ⟨k, hk, rfl⟩ := hrel
    by_cases h17 : k < 17
    · have hi := cell_sg hr h17
      by_cases h0 : 0 < k
      · have HT : ((sgAt k).toList == s.toList) = false := by simpa using hs.out k h0 (by omega)
        go_wp2
        all_goals
          go_round
          case rel => exact ⟨k + 1, by omega, by go_num⟩
          case measure => simp [intOf]; omega
      · go_wp2
        all_goals
          go_round
          case rel => exact ⟨k + 1, by omega, by go_num⟩
          case measure => simp [intOf]; omega
    · go_wp2
      go_ret2
      exact ⟨rfl, b1⟩
theorem sg_lt : Hid ((ByteArray.mk #[60, 60]).toList = (sgAt 6).toList) := show _ = _ by decide +kernel
theorem walkWordNumbers (v0 : Value) (w : World) (w0 : IsStr v0) : Calls Try.prog 3 #[v0] w fun e w' => e = .returned (.bool true) ∧ Below w.heap.size w w' := by
  obtain ⟨s, rfl, _⟩ := w0
  by_cases h : ∃ j : Nat, (1 ≤ j ∧ j ≤ 16) ∧ Hid (s.toList = (sgAt j).toList)
  · obtain ⟨j, ⟨h1, h2⟩, hs⟩ := h
    go_enter Try.func3, Try.ntmps3
    go_wp2_with fail
    refine (wordNumber_yes s j h1 h2 hs _).mono ?_
    rintro e w1 ⟨rfl, b1⟩
    go_wp2_with fail
    refine (refNumber_yes s j h1 h2 hs _).mono ?_
    rintro e w2 ⟨rfl, b2⟩
    go_wp2_with fail
    refine (wordNumber_yes _ 6 (by omega) (by omega) sg_lt _).mono ?_
    rintro e w3 ⟨rfl, b3⟩
    go_wp2_with fail
    go_ret
    exact ⟨rfl, sq (sq b1 b2) b3⟩
  · have hs : Hid (∀ k, 1 ≤ k → k ≤ 16 → (sgAt k).toList ≠ s.toList) := fun k hk1 hk2 he => h ⟨k, ⟨hk1, hk2⟩, he.symm⟩
    clear h
    go_enter Try.func3, Try.ntmps3
    go_wp2_with fail
    refine (wordNumber_no s hs _).mono ?_
    rintro e w1 ⟨rfl, b1⟩
    go_wp2_with fail
    refine (refNumber_no s hs _).mono ?_
    rintro e w2 ⟨rfl, b2⟩
    go_wp2_with fail
    refine (wordNumber_yes _ 6 (by omega) (by omega) sg_lt _).mono ?_
    rintro e w3 ⟨rfl, b3⟩
    go_wp2_with fail
    go_ret
    exact ⟨rfl, sq (sq b1 b2) b3⟩
end Go.Proofs.Ytniepfpjklccmaa
