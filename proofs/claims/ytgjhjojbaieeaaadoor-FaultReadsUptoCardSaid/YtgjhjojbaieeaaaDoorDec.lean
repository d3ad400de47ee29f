/- Plain: the decimal digits of a number. Conditions: none. -/
namespace Go.Proofs.YtgjhjojbaieeaaaDoor
/-- The decimal digits of a number, the greatest first. -/
def dd (u : Nat) : List Nat := if h : u < 10 then [48 + u] else dd (u / 10) ++ [48 + u % 10]
decreasing_by omega
theorem dd_lt {u : Nat} (h : u < 10) : dd u = [48 + u] := by rw [dd]; simp [h]
theorem dd_ge {u : Nat} (h : ¬ u < 10) : dd u = dd (u / 10) ++ [48 + u % 10] := by rw [dd]; simp [h]
theorem dd_byte (u : Nat) : ∀ d ∈ dd u, 48 ≤ d ∧ d ≤ 57 := by
  induction u using Nat.strongRecOn with
  | _ u ih =>
    by_cases h : u < 10
    · rw [dd_lt h]; simp; omega
    · rw [dd_ge h]
      intro d hd
      rcases List.mem_append.1 hd with hd | hd
      · exact ih _ (by omega) d hd
      · simp at hd; omega
theorem dd_pos (u : Nat) : 0 < (dd u).length := by
  by_cases h : u < 10
  · rw [dd_lt h]; simp
  · rw [dd_ge h]; simp
theorem dd_len (k : Nat) : ∀ u, u < 10 ^ (k + 1) → (dd u).length ≤ k + 1 := by
  induction k with
  | zero => intro u h; rw [dd_lt (by omega)]; simp
  | succ k ih =>
    intro u h
    by_cases h1 : u < 10
    · rw [dd_lt h1]; simp
    · rw [dd_ge h1]
      have := ih (u / 10) (by rw [Nat.div_lt_iff_lt_mul (by omega)]; rw [Nat.pow_succ] at h; exact h)
      simp; omega
theorem dd_len19 {u : Nat} (h : u ≤ 9223372036854775808) : (dd u).length ≤ 19 := dd_len 18 u (Nat.lt_of_le_of_lt h (by decide))
/-- What a loop that makes the digits from the last on keeps: q is still to be told, l is told. -/
def Tells (U : Nat) (q : Nat) (l : List Nat) : Prop := dd q ++ l = dd U
theorem Tells.start (U : Nat) : Tells U U [] := by simp [Tells]
theorem Tells.step {U q : Nat} {l : List Nat} (h : Tells U q l) (hq : ¬ q < 10) : Tells U (q / 10) ((48 + q % 10) :: l) := by
  unfold Tells at *; rw [dd_ge hq] at h; simpa using h
theorem Tells.done {U q : Nat} {l : List Nat} (h : Tells U q l) (hq : q < 10) : (48 + q % 10) :: l = dd U := by
  unfold Tells at *; rw [dd_lt hq] at h; rw [Nat.mod_eq_of_lt hq]; simpa using h
theorem Tells.len {U q : Nat} {l : List Nat} (h : Tells U q l) : (dd q).length + l.length = (dd U).length := by rw [← h]; simp
/-- The decimal text of a whole number, as bytes. -/
def decL (n : Int) : List Nat := if n < 0 then 45 :: dd n.natAbs else dd n.natAbs
theorem decL_byte (n : Int) : ∀ d ∈ decL n, d = 45 ∨ (48 ≤ d ∧ d ≤ 57) := by
  intro d hd
  unfold decL at hd
  split at hd
  · rcases List.mem_cons.1 hd with h | h
    · exact .inl h
    · exact .inr (dd_byte _ d h)
  · exact .inr (dd_byte _ d hd)
theorem decL_len {n : Int} (h : -9223372036854775808 ≤ n ∧ n ≤ 9223372036854775807) : (decL n).length ≤ 20 := by
  have := dd_len19 (u := n.natAbs) (by omega)
  unfold decL
  split <;> simp <;> omega
/-- The number that digits tell. -/
def dval (l : List Nat) : Nat := l.foldl (fun a d => a * 10 + (d - 48)) 0
theorem dval_snoc (l : List Nat) (d : Nat) : dval (l ++ [d]) = dval l * 10 + (d - 48) := by simp [dval]
theorem dval_dd (u : Nat) : dval (dd u) = u := by
  induction u using Nat.strongRecOn with
  | _ u ih =>
    by_cases h : u < 10
    · rw [dd_lt h]; simp [dval]
    · rw [dd_ge h, dval_snoc, ih _ (by omega)]; omega
theorem dd_inj {a b : Nat} (h : dd a = dd b) : a = b := by rw [← dval_dd a, h, dval_dd]
theorem dd_head (u : Nat) : ∀ r, dd u ≠ 45 :: r := by
  intro r h
  have := dd_byte u 45 (by rw [h]; simp)
  omega
theorem decL_inj {a b : Int} (h : decL a = decL b) : a = b := by
  unfold decL at h
  split at h <;> split at h
  · have := dd_inj (List.cons.inj h).2; omega
  · exact absurd h.symm (dd_head _ _)
  · exact absurd h (dd_head _ _)
  · have := dd_inj h; omega
end Go.Proofs.YtgjhjojbaieeaaaDoor
