/- Plain: numbers read. Conditions: none. -/
import Derived.Test.YtgjhjojbaieeaaaDoorDec
namespace Go.Proofs.YtgjhjojbaieeaaaDoor
/-- The digits' part of a number's text: is there a minus; what stands behind the sign. -/
def sgn (l : List Nat) : Bool × List Nat := match l with
  | [] => (false, [])
  | c :: r => if c = 45 then (true, r) else if c = 43 then (false, r) else (false, c :: r)
def digs (l : List Nat) : Bool := l.all fun d => decide (48 ≤ d) && decide (d ≤ 57)
/-- The number that a text tells. -/
def parse (l : List Nat) : Option Int := if (sgn l).2 ≠ [] ∧ digs (sgn l).2 = true then some (if (sgn l).1 = true then -(dval (sgn l).2 : Int) else (dval (sgn l).2 : Int)) else none
def inI (z : Int) : Prop := -9223372036854775808 ≤ z ∧ z ≤ 9223372036854775807
instance (z : Int) : Decidable (inI z) := by unfold inI; infer_instance
/-- The number whose text it is. -/
def rd (l : List Nat) : Option Int := match parse l with
  | some z => if decL z = l ∧ inI z then some z else none
  | none => none
theorem digs_dd (u : Nat) : digs (dd u) = true := by
  unfold digs
  rw [List.all_eq_true]
  intro d hd
  have := dd_byte u d hd
  simp; omega
theorem sgn_dd (u : Nat) : sgn (dd u) = (false, dd u) := by
  cases h : dd u with
  | nil => have := dd_pos u; rw [h] at this; simp at this
  | cons c r =>
    have := dd_byte u c (by rw [h]; simp)
    simp only [sgn]
    rw [if_neg (by omega), if_neg (by omega)]
theorem sgn_decL (n : Int) : sgn (decL n) = (decide (n < 0), dd n.natAbs) := by
  unfold decL
  split
  · rename_i h; simp [sgn, h]
  · rename_i h; rw [sgn_dd]; simp; omega
theorem parse_decL (n : Int) : parse (decL n) = some n := by
  unfold parse
  rw [sgn_decL]
  have hp := dd_pos n.natAbs
  rw [if_pos ⟨by intro e; simp only at e; rw [e] at hp; simp at hp, digs_dd _⟩]
  simp only [dval_dd]
  by_cases h : n < 0
  · rw [if_pos (by simp [h])]; congr 1; omega
  · rw [if_neg (by simp [h])]; congr 1; omega
theorem rd_some {l : List Nat} {z : Int} : rd l = some z ↔ decL z = l ∧ inI z := by
  unfold rd
  constructor
  · intro h
    cases hp : parse l with
    | none => rw [hp] at h; cases h
    | some y =>
      rw [hp] at h
      simp only at h
      split at h
      · injection h with h; subst h; assumption
      · cases h
  · rintro ⟨rfl, h⟩
    rw [parse_decL]
    simp [h]
theorem rd_none {l : List Nat} : rd l = none ↔ ∀ z, inI z → decL z ≠ l := by
  constructor
  · intro h z hz e
    rw [rd_some.2 ⟨e, hz⟩] at h; cases h
  · intro h
    cases hr : rd l with
    | none => rfl
    | some z => exact absurd (rd_some.1 hr).1 (h z (rd_some.1 hr).2)
/-- The program's own reading: the 64 bits of the digits' number. -/
def readN (neg : Bool) (t : List Nat) : Int :=
  if neg = true then (-((dval t : Nat) : Int) + 9223372036854775808) % 18446744073709551616 - 9223372036854775808 else (((dval t : Nat) : Int) + 9223372036854775808) % 18446744073709551616 - 9223372036854775808
theorem readN_in (neg : Bool) (t : List Nat) : inI (readN neg t) := by
  unfold readN inI
  split <;> omega
/-- A minus, and what stands behind it. -/
def mns (l : List Nat) : Bool × List Nat := match l with
  | [] => (false, [])
  | c :: r => if c = 45 then (true, r) else (false, c :: r)
theorem mns_decL (n : Int) : mns (decL n) = (decide (n < 0), dd n.natAbs) := by
  unfold decL
  split
  · rename_i h; simp [mns, h]
  · rename_i h
    cases he : dd n.natAbs with
    | nil => have := dd_pos n.natAbs; rw [he] at this; simp at this
    | cons c r =>
      have := dd_byte n.natAbs c (by rw [he]; simp)
      simp only [mns]
      rw [if_neg (by omega)]
      simp; omega
/-- What is read is the number, if it is a number's text. -/
theorem rd_readN {l : List Nat} {z : Int} (h : rd l = some z) : digs (mns l).2 = true ∧ readN (mns l).1 (mns l).2 = z := by
  obtain ⟨rfl, hz⟩ := rd_some.1 h
  rw [mns_decL]
  refine ⟨digs_dd _, ?_⟩
  unfold readN inI at *
  simp only [dval_dd]
  by_cases hn : z < 0
  · rw [if_pos (by simp [hn])]; omega
  · rw [if_neg (by simp [hn])]; omega
theorem digs_take {l : List Nat} {k : Nat} {d : Nat} (hk : l[k]? = some d) (h : digs l = true) : 48 ≤ d ∧ d ≤ 57 := by
  unfold digs at h
  rw [List.all_eq_true] at h
  have := h d (List.mem_of_getElem? hk)
  simpa using this
theorem digs_snoc {l : List Nat} {d : Nat} (h : digs l = true) (hd : 48 ≤ d ∧ d ≤ 57) : digs (l ++ [d]) = true := by
  unfold digs at *
  rw [List.all_append, h]
  simp [hd]
end Go.Proofs.YtgjhjojbaieeaaaDoor
