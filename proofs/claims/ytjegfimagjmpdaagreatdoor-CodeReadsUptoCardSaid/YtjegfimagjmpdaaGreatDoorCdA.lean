/- 'code.within', 'code.fields', 'code.checks'. Printed by gen_cda.py. Conditions: none. -/
import Derived.Test.YtjegfimagjmpdaaGreatDoorBase
import Derived.Handy
set_option maxRecDepth 20000
namespace Go.Proofs.YtjegfimagjmpdaaGreatDoor
open Go.ChangeShapes Go.WideShapes Go.ChangeAt Go.RowKit
def fieldsT : List (List UInt8) := [[], [115, 110, 45, 45, 45], [115, 98, 45, 45, 45], [115, 120, 45, 45, 45], [115, 45, 45, 45, 45], [115, 102, 45, 45, 45], [115, 115, 45, 45, 45], [115, 115, 115, 111, 45], [115, 115, 115, 99, 45], [115, 115, 45, 45, 45], [115, 115, 45, 45, 45], [115, 115, 115, 45, 45], [115, 115, 45, 45, 45], [115, 115, 115, 45, 45], [115, 115, 115, 45, 45], [115, 115, 115, 115, 45], [115, 115, 115, 45, 45], [115, 91, 93, 45, 45], [115, 115, 45, 45, 45], [115, 115, 45, 45, 45], [115, 115, 45, 45, 45], [115, 103, 40, 41, 45], [115, 115, 45, 45, 45], [115, 115, 45, 45, 45], [], [116, 45, 45, 45, 45], [116, 45, 45, 45, 45], [115, 116, 45, 45, 45], [115, 115, 91, 112, 45], [114, 45, 45, 45, 45], [45, 45, 45, 45, 45], [115, 45, 45, 45, 45], [115, 45, 45, 45, 45], [115, 45, 45, 45, 45], [45, 91, 93, 45, 45], [97, 115, 91, 112, 45], [116, 45, 45, 45, 45], [107, 45, 45, 45, 45], [107, 116, 45, 45, 45], [107, 115, 91, 112, 97], [116, 45, 45, 45, 45], [115, 119, 45, 45, 45]]
def checksT : List (List UInt8) := [[], [115, 115, 45], [115, 115, 45], [115, 115, 115], [115, 45, 45], [115, 45, 45], [115, 45, 45], [115, 80, 45], [115, 115, 45], [115, 45, 45], [97, 45, 45], [115, 45, 45], [115, 45, 45]]
def fieldsL (op : Int) : List UInt8 := if 0 ≤ op ∧ op ≤ 41 then fieldsT.getD op.toNat [] else []
def checksL (d : Int) : List UInt8 := if 0 ≤ d ∧ d ≤ 12 then checksT.getD d.toNat [] else []
def withinB (n lo hi : Int) : Bool := decide (lo ≤ n) && decide (n ≤ hi)
theorem within_any (n lo hi : Int) (w : World) : Calls Tryz.prog 56 #[.int .i64 n, .int .i64 lo, .int .i64 hi] w fun e w' => e = .returned (.bool (withinB n lo hi)) ∧ w' = w := by
  by_cases h1 : lo ≤ n
  · by_cases h2 : n ≤ hi
    · have HE := Lib.hid (show withinB n lo hi = true by simp [withinB, h1, h2])
      go_enter Tryz.func56, Tryz.ntmps56
      go_wp2_with fail
      go_ret
      exact ⟨by rw [HE.out]; rfl, rfl⟩
    · have HE := Lib.hid (show withinB n lo hi = false by simp [withinB, h2])
      go_enter Tryz.func56, Tryz.ntmps56
      go_wp2_with fail
      go_ret
      exact ⟨by rw [HE.out]; rfl, rfl⟩
  · have HE := Lib.hid (show withinB n lo hi = false by simp [withinB, h1])
    go_enter Tryz.func56, Tryz.ntmps56
    go_wp2_with fail
    go_ret
    exact ⟨by rw [HE.out]; rfl, rfl⟩
set_option maxHeartbeats 4000000 in
theorem fields_any (op : Int) (w : World) : Calls Tryz.prog 57 #[.int .i64 op] w fun e w' => e = .returned (.string ⟨(fieldsL op).toArray⟩) ∧ w' = w := by
  by_cases h : op = 1 ∨ op = 2 ∨ op = 3 ∨ op = 4 ∨ op = 5 ∨ op = 6 ∨ op = 7 ∨ op = 8 ∨ op = 9 ∨ op = 10 ∨ op = 11 ∨ op = 12 ∨ op = 13 ∨ op = 14 ∨ op = 15 ∨ op = 16 ∨ op = 17 ∨ op = 18 ∨ op = 19 ∨ op = 20 ∨ op = 21 ∨ op = 22 ∨ op = 23 ∨ op = 25 ∨ op = 26 ∨ op = 27 ∨ op = 28 ∨ op = 29 ∨ op = 30 ∨ op = 31 ∨ op = 32 ∨ op = 33 ∨ op = 34 ∨ op = 35 ∨ op = 36 ∨ op = 37 ∨ op = 38 ∨ op = 39 ∨ op = 40 ∨ op = 41
  · rcases h with rfl | rfl | rfl | rfl | rfl | rfl | rfl | rfl | rfl | rfl | rfl | rfl | rfl | rfl | rfl | rfl | rfl | rfl | rfl | rfl | rfl | rfl | rfl | rfl | rfl | rfl | rfl | rfl | rfl | rfl | rfl | rfl | rfl | rfl | rfl | rfl | rfl | rfl | rfl | rfl
    all_goals
      go_enter Tryz.func57, Tryz.ntmps57
      go_wp2_with fail
      go_ret
      exact ⟨rfl, rfl⟩
  · have HE := Lib.hid (show fieldsL op = [] by
      unfold fieldsL
      split
      · have h2 : op = 0 ∨ op = 24 := by omega
        rcases h2 with rfl | rfl <;> rfl
      · rfl)
    have g1 : (op == 1) = false := by simp; omega
    have g2 : (op == 2) = false := by simp; omega
    have g3 : (op == 3) = false := by simp; omega
    have g4 : (op == 4) = false := by simp; omega
    have g5 : (op == 5) = false := by simp; omega
    have g6 : (op == 6) = false := by simp; omega
    have g7 : (op == 7) = false := by simp; omega
    have g8 : (op == 8) = false := by simp; omega
    have g9 : (op == 9) = false := by simp; omega
    have g10 : (op == 10) = false := by simp; omega
    have g11 : (op == 11) = false := by simp; omega
    have g12 : (op == 12) = false := by simp; omega
    have g13 : (op == 13) = false := by simp; omega
    have g14 : (op == 14) = false := by simp; omega
    have g15 : (op == 15) = false := by simp; omega
    have g16 : (op == 16) = false := by simp; omega
    have g17 : (op == 17) = false := by simp; omega
    have g18 : (op == 18) = false := by simp; omega
    have g19 : (op == 19) = false := by simp; omega
    have g20 : (op == 20) = false := by simp; omega
    have g21 : (op == 21) = false := by simp; omega
    have g22 : (op == 22) = false := by simp; omega
    have g23 : (op == 23) = false := by simp; omega
    have g25 : (op == 25) = false := by simp; omega
    have g26 : (op == 26) = false := by simp; omega
    have g27 : (op == 27) = false := by simp; omega
    have g28 : (op == 28) = false := by simp; omega
    have g29 : (op == 29) = false := by simp; omega
    have g30 : (op == 30) = false := by simp; omega
    have g31 : (op == 31) = false := by simp; omega
    have g32 : (op == 32) = false := by simp; omega
    have g33 : (op == 33) = false := by simp; omega
    have g34 : (op == 34) = false := by simp; omega
    have g35 : (op == 35) = false := by simp; omega
    have g36 : (op == 36) = false := by simp; omega
    have g37 : (op == 37) = false := by simp; omega
    have g38 : (op == 38) = false := by simp; omega
    have g39 : (op == 39) = false := by simp; omega
    have g40 : (op == 40) = false := by simp; omega
    have g41 : (op == 41) = false := by simp; omega
    clear h
    go_enter Tryz.func57, Tryz.ntmps57
    go_wp2_with fail
    go_ret
    exact ⟨by rw [HE.out]; rfl, rfl⟩
set_option maxHeartbeats 4000000 in
theorem checks_any (op : Int) (w : World) : Calls Tryz.prog 58 #[.int .i64 op] w fun e w' => e = .returned (.string ⟨(checksL op).toArray⟩) ∧ w' = w := by
  by_cases h : op = 1 ∨ op = 2 ∨ op = 3 ∨ op = 4 ∨ op = 5 ∨ op = 6 ∨ op = 7 ∨ op = 8 ∨ op = 9 ∨ op = 10 ∨ op = 11 ∨ op = 12
  · rcases h with rfl | rfl | rfl | rfl | rfl | rfl | rfl | rfl | rfl | rfl | rfl | rfl
    all_goals
      go_enter Tryz.func58, Tryz.ntmps58
      go_wp2_with fail
      go_ret
      exact ⟨rfl, rfl⟩
  · have HE := Lib.hid (show checksL op = [] by
      unfold checksL
      split
      · have h2 : op = 0 := by omega
        rcases h2 with rfl
        rfl
      · rfl)
    have g1 : (op == 1) = false := by simp; omega
    have g2 : (op == 2) = false := by simp; omega
    have g3 : (op == 3) = false := by simp; omega
    have g4 : (op == 4) = false := by simp; omega
    have g5 : (op == 5) = false := by simp; omega
    have g6 : (op == 6) = false := by simp; omega
    have g7 : (op == 7) = false := by simp; omega
    have g8 : (op == 8) = false := by simp; omega
    have g9 : (op == 9) = false := by simp; omega
    have g10 : (op == 10) = false := by simp; omega
    have g11 : (op == 11) = false := by simp; omega
    have g12 : (op == 12) = false := by simp; omega
    clear h
    go_enter Tryz.func58, Tryz.ntmps58
    go_wp2_with fail
    go_ret
    exact ⟨by rw [HE.out]; rfl, rfl⟩
end Go.Proofs.YtjegfimagjmpdaaGreatDoor
