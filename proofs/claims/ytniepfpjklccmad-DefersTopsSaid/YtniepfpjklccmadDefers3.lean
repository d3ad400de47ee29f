/- 'defers.Top' and the document's TopBit answer alike; so the law over them is true. Conditions: none. -/
import Derived.Test.YtniepfpjklccmadBase
import Derived.Test.YtniepfpjklccmadShelf
import Derived.Handy
namespace Go.Proofs.Ytniepfpjklccmad
open Go.ChangeShapes Go.WideShapes Go.ChangeAt Go.RowKit

def topK (m : Nat) : Nat := Lib.bitLen m - 1
theorem top_tab : ∀ m : Nat, m < 256 → 0 < m → (0 < Lib.bitLen m ∧ topK m ≤ 7 ∧ (((m : Int) / 2 ^ ((topK m : Nat) : Int).toNat).tmod 2 == 1) = true) ∧ ∀ k : Nat, k < 8 → topK m < k → (((m : Int) / 2 ^ (k : Int).toNat).tmod 2 == 1) = false := by decide +kernel
theorem defersTop_yes (m : Int) (h1 : 0 < m) (h2 : m < 256) (w : World) : Calls Try.prog 17 #[.int .i64 m] w fun e w' => e = .returned (.tuple #[.int .i64 ((topK m.toNat : Nat) : Int), .bool true]) ∧ w' = w := by
  obtain ⟨⟨t1, t2, _⟩, _⟩ := top_tab m.toNat (by omega) (by omega)
  have hE : Hid ((Lib.bitLen m.toNat : Int) - 1 = ((topK m.toNat : Nat) : Int)) := by show _ = _; unfold topK; omega
  have hl : Lib.bitLen m.toNat ≤ 64 := by unfold topK at t2; omega
  have hz : (m == 0) = false := by simp; omega
  generalize hB : Lib.bitLen m.toNat = B at *
  have HB := Lib.hid hB
  clear hB t2
  go_enter Try.func17, Try.ntmps17
  go_wp2_with (first
    | (go_at_call 40; refine (Try.bits_Len _ _ (by omega) (by omega)).mono ?_; rintro e w' ⟨rfl, rfl⟩; rw [HB.out])
    | go_in)
  go_ret2
  exact ⟨by rw [← hE.out]; rfl, rfl⟩
theorem defersTop_no (m : Int) (h : m ≤ 0 ∨ 256 ≤ m) (w : World) : Calls Try.prog 17 #[.int .i64 m] w fun e w' => e = .returned (.tuple #[.int .i64 0, .bool false]) ∧ w' = w := by
  by_cases h1 : m < 0
  · clear h
    go_enter Try.func17, Try.ntmps17
    go_wp2
    go_ret2
    exact ⟨rfl, rfl⟩
  · by_cases h2 : 256 ≤ m
    · clear h
      go_enter Try.func17, Try.ntmps17
      go_wp2
      go_ret2
      exact ⟨rfl, rfl⟩
    · obtain rfl : m = 0 := by omega
      clear h
      go_enter Try.func17, Try.ntmps17
      go_wp2
      go_ret2
      exact ⟨rfl, rfl⟩
theorem refTopBit_yes (m : Int) (h1 : 0 < m) (h2 : m < 256) (w : World) : Calls Try.prog 18 #[.int .i64 m] w fun e w' => e = .returned (.tuple #[.int .i64 ((topK m.toNat : Nat) : Int), .bool true]) ∧ w' = w := by
  have hmt : (m.toNat : Int) = m := by omega
  obtain ⟨⟨_, t2, t3⟩, t4⟩ := top_tab m.toNat (by omega) (by omega)
  rw [hmt] at t3 t4
  generalize topK m.toNat = T at *
  clear hmt
  have T3 := Lib.hid t3
  have T4 := Lib.hid t4
  clear t3 t4
  go_enter Try.func18, Try.ntmps18
  go_wp2
  go_loop [4] (fun k => ∃ j : Int, (T : Int) ≤ j ∧ j ≤ 7 ∧ k = .int .i64 j) (fun k => (intOf k).toNat)
  case atStart => exact ⟨7, by omega, by omega, rfl⟩
  case round =>
    obtain ⟨j, hj1, hj2, rfl⟩ := hrel
    by_cases e : j = T
    · subst e
      have HT := T3.out
      simp only [Int.toNat_natCast] at HT
      go_wp2
      go_ret2
      exact ⟨rfl, rfl⟩
    · have HT : ((m / 2 ^ j.toNat).tmod 2 == 1) = false := by
        have := T4.out j.toNat (by omega) (by omega)
        rw [show ((j.toNat : Nat) : Int) = j by omega] at this
        exact this
      have hlt : (T : Int) < j := by omega
      clear e
      go_wp2
      go_round
      case rel => exact ⟨j - 1, by omega, by omega, rfl⟩
      case measure => simp [intOf]; omega
theorem refTopBit_no (m : Int) (h : m ≤ 0 ∨ 256 ≤ m) (w : World) : Calls Try.prog 18 #[.int .i64 m] w fun e w' => e = .returned (.tuple #[.int .i64 0, .bool false]) ∧ w' = w := by
  by_cases h1 : m < 0
  · clear h
    go_enter Try.func18, Try.ntmps18
    go_wp2
    go_rounds 1
    go_ret2
    exact ⟨rfl, rfl⟩
  · by_cases h2 : 256 ≤ m
    · clear h
      go_enter Try.func18, Try.ntmps18
      go_wp2
      go_rounds 1
      go_ret2
      exact ⟨rfl, rfl⟩
    · obtain rfl : m = 0 := by omega
      clear h
      go_enter Try.func18, Try.ntmps18
      go_wp2
      go_rounds 9
      go_ret2
      exact ⟨rfl, rfl⟩
theorem topK_12 : topK (12 : Int).toNat = 3 := by decide +kernel
theorem walkDefersTops (v0 : Value) (w : World) (w0 : IsInt v0) : Calls Try.prog 5 #[v0] w fun e w' => e = .returned (.bool true) ∧ Below w.heap.size w w' := by
  obtain ⟨m, rfl, _⟩ := w0
  by_cases h : m ≤ 0 ∨ 256 ≤ m
  · go_enter Try.func5, Try.ntmps5
    go_wp2_with fail
    refine (defersTop_no m h _).mono ?_
    rintro e w1 ⟨rfl, rfl⟩
    go_wp2_with fail
    refine (refTopBit_no m h _).mono ?_
    rintro e w1 ⟨rfl, rfl⟩
    go_wp2_with fail
    refine (defersTop_yes 12 (by omega) (by omega) _).mono ?_
    rintro e w1 ⟨rfl, rfl⟩
    rw [topK_12]
    go_wp2_with fail
    go_ret
    exact ⟨by simp, Below.refl _ _⟩
  · have h1 : 0 < m := by omega
    have h2 : m < 256 := by omega
    clear h
    go_enter Try.func5, Try.ntmps5
    go_wp2_with fail
    refine (defersTop_yes m h1 h2 _).mono ?_
    rintro e w1 ⟨rfl, rfl⟩
    go_wp2_with fail
    refine (refTopBit_yes m h1 h2 _).mono ?_
    rintro e w1 ⟨rfl, rfl⟩
    go_wp2_with fail
    refine (defersTop_yes 12 (by omega) (by omega) _).mono ?_
    rintro e w1 ⟨rfl, rfl⟩
    rw [topK_12]
    go_wp2_with fail
    go_ret
    exact ⟨by simp, Below.refl _ _⟩
end Go.Proofs.Ytniepfpjklccmad
