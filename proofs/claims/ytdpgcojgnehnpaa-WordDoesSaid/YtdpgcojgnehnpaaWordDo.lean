/- 'word.Do': what it answers, operation by operation. Conditions: the numbers are of 64 bits. -/
import Derived.Test.YtdpgcojgnehnpaaBase
import Derived.Handy
namespace Go.Proofs.Ytdpgcojgnehnpaa
open Go.ChangeShapes Go.WideShapes Go.ChangeAt Go.RowKit

def shlV (a b : Int) : Int := if 64 ≤ b then 0 else wrap64 (a * 2 ^ b.toNat)
def shrV (a b : Int) : Int := if 64 ≤ b then (if a < 0 then -1 else 0) else a / 2 ^ b.toNat
theorem wordShift_l (a b : Int) (hb : 0 ≤ b) (w : World) : Calls Try.prog 41 #[.int .i64 6, .int .i64 a, .int .i64 b] w fun e w' => e = .returned (.int .i64 (shlV a b)) ∧ w' = w := by
  unfold shlV
  by_cases h : 64 ≤ b
  · rw [if_pos h]
    go_enter Try.func41, Try.ntmps41
    go_wp2
    go_ret
    exact ⟨rfl, rfl⟩
  · rw [if_neg h]
    have h' : b < 64 := by omega
    clear h
    go_enter Try.func41, Try.ntmps41
    go_wp2
    go_ret
    exact ⟨rfl, rfl⟩
theorem wordShift_r (a b : Int) (hb : 0 ≤ b) (w : World) : Calls Try.prog 41 #[.int .i64 7, .int .i64 a, .int .i64 b] w fun e w' => e = .returned (.int .i64 (shrV a b)) ∧ w' = w := by
  unfold shrV
  by_cases h : 64 ≤ b
  · rw [if_pos h]
    by_cases ha : a < 0
    · rw [if_pos ha]
      go_enter Try.func41, Try.ntmps41
      go_wp2
      go_ret
      exact ⟨rfl, rfl⟩
    · rw [if_neg ha]
      go_enter Try.func41, Try.ntmps41
      go_wp2
      go_ret
      exact ⟨rfl, rfl⟩
  · rw [if_neg h]
    have h' : b < 64 := by omega
    clear h
    go_enter Try.func41, Try.ntmps41
    go_wp2
    go_ret
    exact ⟨rfl, rfl⟩
def tup (x e : Int) : Ending := .returned (.tuple #[.int .i64 x, .int .i64 e])
theorem wordDo_add (a b : Int) (w : World) : Calls Try.prog 11 #[.int .i64 1, .int .i64 a, .int .i64 b] w fun e w' => e = tup (wrap64 (a + b)) 0 ∧ w' = w := by
  go_enter Try.func11, Try.ntmps11
  go_wp2
  go_ret2
  exact ⟨rfl, rfl⟩
theorem wordDo_sub (a b : Int) (w : World) : Calls Try.prog 11 #[.int .i64 2, .int .i64 a, .int .i64 b] w fun e w' => e = tup (wrap64 (a - b)) 0 ∧ w' = w := by
  go_enter Try.func11, Try.ntmps11
  go_wp2
  go_ret2
  exact ⟨rfl, rfl⟩
theorem wordDo_mul (a b : Int) (w : World) : Calls Try.prog 11 #[.int .i64 3, .int .i64 a, .int .i64 b] w fun e w' => e = tup (wrap64 (a * b)) 0 ∧ w' = w := by
  go_enter Try.func11, Try.ntmps11
  go_wp2
  go_ret2
  exact ⟨rfl, rfl⟩
theorem wordDo_div (a b : Int) (hb : (b == 0) = false) (hb0 : ¬ b = 0) (w : World) : Calls Try.prog 11 #[.int .i64 4, .int .i64 a, .int .i64 b] w fun e w' => e = tup (wrap64 (a.tdiv b)) 0 ∧ w' = w := by
  go_enter Try.func11, Try.ntmps11
  go_wp2
  go_ret2
  exact ⟨rfl, rfl⟩
theorem wordDo_rem (a b : Int) (hb : (b == 0) = false) (hb0 : ¬ b = 0) (w : World) : Calls Try.prog 11 #[.int .i64 5, .int .i64 a, .int .i64 b] w fun e w' => e = tup (a.tmod b) 0 ∧ w' = w := by
  go_enter Try.func11, Try.ntmps11
  go_wp2
  go_ret2
  exact ⟨rfl, rfl⟩
theorem wordDo_div0 (op a : Int) (ho : op = 4 ∨ op = 5) (w : World) : Calls Try.prog 11 #[.int .i64 op, .int .i64 a, .int .i64 0] w fun e w' => e = tup 0 20 ∧ w' = w := by
  rcases ho with rfl | rfl
  all_goals
    go_enter Try.func11, Try.ntmps11
    go_wp2
    go_ret2
    exact ⟨rfl, rfl⟩
theorem wordDo_shl (a b : Int) (hb : 0 ≤ b) (w : World) : Calls Try.prog 11 #[.int .i64 6, .int .i64 a, .int .i64 b] w fun e w' => e = tup (shlV a b) 0 ∧ w' = w := by
  go_enter Try.func11, Try.ntmps11
  go_wp2_with (go_at_call 41; refine (wordShift_l _ _ hb _).mono ?_; rintro e w1 ⟨rfl, rfl⟩)
  go_ret2
  exact ⟨rfl, rfl⟩
theorem wordDo_shr (a b : Int) (hb : 0 ≤ b) (w : World) : Calls Try.prog 11 #[.int .i64 7, .int .i64 a, .int .i64 b] w fun e w' => e = tup (shrV a b) 0 ∧ w' = w := by
  go_enter Try.func11, Try.ntmps11
  go_wp2_with (go_at_call 41; refine (wordShift_r _ _ hb _).mono ?_; rintro e w1 ⟨rfl, rfl⟩)
  go_ret2
  exact ⟨rfl, rfl⟩
theorem wordDo_neg (op a b : Int) (ho : op = 6 ∨ op = 7) (hb : b < 0) (w : World) : Calls Try.prog 11 #[.int .i64 op, .int .i64 a, .int .i64 b] w fun e w' => e = tup 0 21 ∧ w' = w := by
  rcases ho with rfl | rfl
  all_goals
    go_enter Try.func11, Try.ntmps11
    go_wp2
    go_ret2
    exact ⟨rfl, rfl⟩
theorem wordDo_and (a b : Int) (w : World) : Calls Try.prog 11 #[.int .i64 8, .int .i64 a, .int .i64 b] w fun e w' => e = tup (bits .and .i64 a b) 0 ∧ w' = w := by
  go_enter Try.func11, Try.ntmps11
  go_wp2
  go_ret2
  exact ⟨rfl, rfl⟩
theorem wordDo_or (a b : Int) (w : World) : Calls Try.prog 11 #[.int .i64 9, .int .i64 a, .int .i64 b] w fun e w' => e = tup (bits .or .i64 a b) 0 ∧ w' = w := by
  go_enter Try.func11, Try.ntmps11
  go_wp2
  go_ret2
  exact ⟨rfl, rfl⟩
theorem wordDo_xor (a b : Int) (w : World) : Calls Try.prog 11 #[.int .i64 10, .int .i64 a, .int .i64 b] w fun e w' => e = tup (bits .xor .i64 a b) 0 ∧ w' = w := by
  go_enter Try.func11, Try.ntmps11
  go_wp2
  go_ret2
  exact ⟨rfl, rfl⟩
theorem wordDo_kind (op a b : Int) (h : op < 1 ∨ 10 < op) (w : World) : Calls Try.prog 11 #[.int .i64 op, .int .i64 a, .int .i64 b] w fun e w' => e = tup 0 13 ∧ w' = w := by
  have e1 : (op == 1) = false := by simp; omega
  have e2 : (op == 2) = false := by simp; omega
  have e3 : (op == 3) = false := by simp; omega
  have e4 : (op == 4) = false := by simp; omega
  have e5 : (op == 5) = false := by simp; omega
  have e6 : (op == 6) = false := by simp; omega
  have e7 : (op == 7) = false := by simp; omega
  have e8 : (op == 8) = false := by simp; omega
  have e9 : (op == 9) = false := by simp; omega
  have e10 : (op == 10) = false := by simp; omega
  clear h
  go_enter Try.func11, Try.ntmps11
  go_wp2
  go_ret2
  exact ⟨rfl, rfl⟩
end Go.Proofs.Ytdpgcojgnehnpaa
