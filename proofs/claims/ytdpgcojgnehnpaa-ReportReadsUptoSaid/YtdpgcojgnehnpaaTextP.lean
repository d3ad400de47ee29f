/- Plain: how a panic's value is told. Conditions: none. -/
import Derived.Test.YtdpgcojgnehnpaaShowP
import Derived.Test.YtdpgcojgnehnpaaQuoA
set_option maxRecDepth 20000
namespace Go.Proofs.Ytdpgcojgnehnpaa
open Go
/-- A byte that may be written, or a question mark. -/
def mendC (also : List UInt8) (c : UInt8) : UInt8 := if okB c = true ∨ c ∈ also then c else 63
/-- A byte in quotes; what can't be written is a question mark. -/
def qT (c : UInt8) : List UInt8 := if c = 34 ∨ c = 92 then [92, c] else if c = 10 then [92, 110] else if c = 9 then [92, 116] else if okB c = true then [c] else [63]
theorem qT_q {c : UInt8} (h : c = 34 ∨ c = 92) : qT c = [92, c] := by unfold qT; rw [if_pos h]
theorem qT_n : qT 10 = [92, 110] := by decide
theorem qT_t : qT 9 = [92, 116] := by decide
theorem qT_ok {c : UInt8} (h1 : c ≠ 34) (h2 : c ≠ 92) (h : 32 ≤ c.toNat) (h' : c.toNat ≤ 126) : qT c = [c] := by
  unfold qT
  rw [if_neg (by simp [h1, h2]), if_neg (by rintro rfl; simp at h), if_neg (by rintro rfl; simp at h), if_pos (by simp [okB, h, h'])]
theorem qT_no {c : UInt8} (h1 : c ≠ 34) (h2 : c ≠ 92) (h3 : c ≠ 10) (h4 : c ≠ 9) (h : ¬ (32 ≤ c.toNat ∧ c.toNat ≤ 126)) : qT c = [63] := by
  unfold qT
  rw [if_neg (by simp [h1, h2]), if_neg h3, if_neg h4, if_neg (by simpa [okB] using h)]
theorem qT_len (c : UInt8) : (qT c).length ≤ 2 := by
  unfold qT
  repeat' split
  all_goals simp
theorem mend_ok {a : List UInt8} {c : UInt8} (h : 32 ≤ c.toNat) (h' : c.toNat ≤ 126) : mendC a c = c := by
  unfold mendC; rw [if_pos (.inl (by simp [okB, h, h']))]
theorem mend_in {a : List UInt8} {c : UInt8} (h : c ∈ a) : mendC a c = c := by
  unfold mendC; rw [if_pos (.inr h)]
theorem mend_no {a : List UInt8} {c : UInt8} (h : ¬ (32 ≤ c.toNat ∧ c.toNat ≤ 126)) (h' : c ∉ a) : mendC a c = 63 := by
  unfold mendC; rw [if_neg (by simp [okB, h']; simpa using h)]
theorem quoC_mend (c : UInt8) : quoC (mendC [10, 9] c) = some (qT c) := by
  rcases byte_cases c with rfl | rfl | rfl | rfl | ⟨h1, h2, h3, h4, h5, h6⟩ | ⟨h1, h2, h3, h4, h5⟩ | ⟨h1, h2, h3, h4, h5⟩
  · decide
  · decide
  · decide
  · decide
  · rw [mend_ok h5 h6, quoC_ok h1 h2 h5 h6, qT_ok h1 h2 h5 h6]
  · rw [mend_no (by omega) (by simp [h3, h4]), qT_no h1 h2 h3 h4 (by omega)]; decide
  · rw [mend_no (by omega) (by simp [h3, h4]), qT_no h1 h2 h3 h4 (by omega)]; decide
theorem quoL_mend (l : List UInt8) : quoL (l.map (mendC [10, 9])) = some (l.flatMap qT) := by
  induction l with
  | nil => rfl
  | cons c r ih => simp [quoL, quoC_mend, ih]
theorem qT_all_len (l : List UInt8) : (l.flatMap qT).length ≤ 2 * l.length := by
  induction l with
  | nil => simp
  | cons c r ih =>
    have := qT_len c
    simp only [List.flatMap_cons, List.length_append, List.length_cons]
    omega
/-- A text in quotes, whatever its length. -/
def inQ (l : List UInt8) : ByteArray := ⟨(34 :: l.flatMap qT ++ [34]).toArray⟩
/-- How a panic's value is told. -/
def textS (x : VV) : ByteArray :=
  if x.k = 1 then decS x.n else if x.k = 3 then inQ x.s.data.toList else if x.k = 5 then ⟨(x.s.data.toList.map (mendC [])).toArray⟩ else ⟨#[63]⟩
theorem textS_len (x : VV) (hn : -9223372036854775808 ≤ x.n ∧ x.n ≤ 9223372036854775807) : (textS x).size ≤ 22 * x.bulk := by
  unfold VV.bulk textS
  have h1 : (⟨#[63]⟩ : ByteArray).size = 1 := rfl
  have h2 : (inQ x.s.data.toList).size = (x.s.data.toList.flatMap qT).length + 2 := by unfold inQ; show (34 :: (x.s.data.toList.flatMap qT) ++ [34]).toArray.size = _; simp
  have h3 : (⟨(x.s.data.toList.map (mendC [])).toArray⟩ : ByteArray).size = x.s.size := by show (x.s.data.toList.map (mendC [])).toArray.size = _; simp
  have h4 := qT_all_len x.s.data.toList
  have h5 : x.s.data.toList.length = x.s.size := by simp
  have h8 := dB_size x.n hn
  repeat' split
  all_goals omega
end Go.Proofs.Ytdpgcojgnehnpaa
