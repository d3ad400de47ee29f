/- Plain: lengths in bits. Conditions: none. -/
import Derived.Test.YtgjhjojbaieeaaaDoorWds
namespace Go.Proofs.YtgjhjojbaieeaaaDoor
/-- The length in bits. -/
def bl (n : Nat) : Nat := if h : n = 0 then 0 else bl (n / 2) + 1
decreasing_by omega
theorem bl_zero : bl 0 = 0 := by rw [bl]; simp
theorem bl_pos {n : Nat} (h : n ≠ 0) : bl n = bl (n / 2) + 1 := by rw [bl]; simp [h]
theorem bl_lt : ∀ (n k : Nat), bl n ≤ k ↔ n < 2 ^ k := by
  intro n
  induction n using Nat.strongRecOn with
  | _ n ih =>
    intro k
    by_cases h : n = 0
    · subst h; rw [bl_zero]; simp [Nat.two_pow_pos]
    · rw [bl_pos h]
      cases k with
      | zero => simp; omega
      | succ k =>
        have := ih (n / 2) (by omega) k
        rw [Nat.add_le_add_iff_right, this, Nat.pow_succ]
        omega
theorem bl_le32 {n : Nat} (h : n < 4294967296) : bl n ≤ 32 := (bl_lt n 32).2 h
/-- The length in bits, by words. -/
def wl (N : Nat) : Nat := ((wds N).length - 1) * 32 + bl ((wds N).getD ((wds N).length - 1) 0)
theorem wl_zero : wl 0 = 0 := by unfold wl; rw [wds_zero]; simp [bl_zero]
theorem wl_one {N : Nat} (h0 : N ≠ 0) (h : N < 4294967296) : wl N = bl N := by
  unfold wl; rw [wds_one h h0]; simp
theorem wl_two {N : Nat} (h0 : 4294967296 ≤ N) (h : N < 18446744073709551616) : wl N = 32 + bl (N / 4294967296) := by
  unfold wl
  rw [wds_pos (by omega), wds_one (by omega) (by omega)]
  simp
theorem wl_more {N : Nat} (h : 18446744073709551616 ≤ N) : 64 < wl N := by
  have h3 : 3 ≤ (wds N).length := by
    rw [wds_pos (by omega), wds_pos (by omega)]
    have := List.length_pos_iff.2 (show wds (N / 4294967296 / 4294967296) ≠ [] by rw [ne_eq, wds_nil]; omega)
    simp; omega
  unfold wl
  have hp : 0 < bl ((wds N).getD ((wds N).length - 1) 0) := by
    rcases Nat.eq_zero_or_pos (bl ((wds N).getD ((wds N).length - 1) 0)) with h0 | h0
    · exfalso
      have hz : (wds N).getD ((wds N).length - 1) 0 < 2 ^ 0 := (bl_lt _ 0).1 (by omega)
      have hz' : (wds N).getD ((wds N).length - 1) 0 = 0 := by omega
      have h5 := wds_take (l := wds N) (n := (wds N).length - 1) (wds_lt N) (by omega)
      have hd : (wds N).drop ((wds N).length - 1) = [(wds N).getD ((wds N).length - 1) 0] := by
        rw [List.drop_eq_getElem_cons (show (wds N).length - 1 < (wds N).length by omega), List.drop_eq_nil_of_le (by omega)]
        simp [List.getD, List.getElem?_eq_getElem (show (wds N).length - 1 < (wds N).length by omega)]
      have e1 : wv (wds N) = wv ((wds N).take ((wds N).length - 1)) := by
        rw [wv_split (l := wds N) (i := (wds N).length - 1) (by omega), hd, hz']; simp [wv]
      have hall : ∀ d ∈ (wds N).take ((wds N).length - 1), d < 4294967296 := fun d hd => wds_lt N d (List.mem_of_mem_take hd)
      have h6 := wv_lt hall
      rw [← e1, wv_wds] at h6
      have h7 := wds_len h6
      rw [List.length_take] at h7
      omega
    · exact h0
  omega
theorem wl_iff (N : Nat) : (wl N < 64 ↔ N < 9223372036854775808) ∧ (wl N = 64 ↔ 9223372036854775808 ≤ N ∧ N < 18446744073709551616) := by
  rcases Nat.lt_or_ge N 4294967296 with h | h
  · by_cases h0 : N = 0
    · subst h0; rw [wl_zero]; omega
    · have := bl_le32 h
      rw [wl_one h0 h]; omega
  · rcases Nat.lt_or_ge N 18446744073709551616 with h2 | h2
    · have e := wl_two h h2
      have b1 := bl_lt (N / 4294967296) 31
      have b2 := bl_le32 (n := N / 4294967296) (by omega)
      have : (2 : Nat) ^ 31 = 2147483648 := by decide
      rw [this] at b1
      omega
    · have := wl_more h2
      omega
/-- Word i of a number. -/
theorem wds_get : ∀ (i N : Nat), (wds N).getD i 0 = N / 4294967296 ^ i % 4294967296 := by
  intro i
  induction i with
  | zero =>
    intro N
    by_cases h : N = 0
    · subst h; rw [wds_zero]; simp
    · rw [wds_pos h]; simp
  | succ i ih =>
    intro N
    by_cases h : N = 0
    · subst h; rw [wds_zero]; simp
    · rw [wds_pos h, List.getD_cons_succ, ih, Nat.div_div_eq_div_mul, Nat.pow_succ, Nat.mul_comm]
end Go.Proofs.YtgjhjojbaieeaaaDoor
