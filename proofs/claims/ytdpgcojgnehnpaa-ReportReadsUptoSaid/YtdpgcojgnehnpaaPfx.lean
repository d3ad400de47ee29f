/- strings.HasPrefix, CutPrefix, CutSuffix: what they answer. Conditions: none. -/
import Derived.Test.YtdpgcojgnehnpaaCut
import Derived.Handy
set_option maxRecDepth 20000
namespace Go.Proofs.Ytdpgcojgnehnpaa
open Go.ChangeShapes Go.WideShapes Go.ChangeAt Go.RowKit
/-- Does a text begin so? -/
def pfxB (s p : ByteArray) : Bool := decide (p.size ≤ s.size) && decide (s.extract 0 p.size = p)
def sfxB (s p : ByteArray) : Bool := decide (p.size ≤ s.size) && decide (s.extract (s.size - p.size) s.size = p)
theorem ba_eq (a b : ByteArray) : (a.toList == b.toList) = decide (a = b) := by
  rw [ByteArray.toList_eq, ByteArray.toList_eq]
  by_cases h : a = b
  · subst h; simp
  · rw [decide_eq_false h]
    simp only [beq_eq_false_iff_ne, ne_eq]
    exact fun e => h (ByteArray.ext (Array.ext' e))
theorem hasPrefix_lite (s p : ByteArray) (w : World) : Calls Try.prog 186 #[.string s, .string p] w fun e w' => e = .returned (.bool (pfxB s p)) ∧ w' = w := by
  by_cases h : p.size ≤ s.size
  · have HE := Lib.hid (show pfxB s p = ((s.extract 0 p.size).toList == p.toList) by unfold pfxB; rw [decide_eq_true h, Bool.true_and, ba_eq])
    have h1 : decide (p.size ≤ s.size) = true := decide_eq_true h
    go_enter Try.func186, Try.ntmps186
    go_wp2_with fail
    go_ret
    exact ⟨by rw [HE.out]; rfl, rfl⟩
  · have HE := Lib.hid (show pfxB s p = false by unfold pfxB; rw [decide_eq_false h, Bool.false_and])
    have h1 : decide (p.size ≤ s.size) = false := decide_eq_false h
    go_enter Try.func186, Try.ntmps186
    go_wp2_with fail
    go_ret
    exact ⟨by rw [HE.out]; rfl, rfl⟩
theorem hasSuffix_lite (s p : ByteArray) (hs : s.size ≤ 140737488351232) (w : World) : Calls Try.prog 187 #[.string s, .string p] w fun e w' => e = .returned (.bool (sfxB s p)) ∧ w' = w := by
  by_cases h : p.size ≤ s.size
  · obtain ⟨d, hd⟩ : ∃ d : Nat, d + p.size = s.size := ⟨s.size - p.size, by omega⟩
    have HE := Lib.hid (show sfxB s p = ((s.extract d s.size).toList == p.toList) by unfold sfxB; rw [decide_eq_true h, Bool.true_and, ba_eq, show s.size - p.size = d by omega])
    have h1 : decide (p.size ≤ s.size) = true := decide_eq_true h
    have hdi : (s.size : Int) - (p.size : Int) = (d : Int) := by omega
    have hdl : d ≤ s.size := by omega
    clear hd h
    go_enter Try.func187, Try.ntmps187
    go_wp2_with fail
    go_ret
    exact ⟨by rw [HE.out]; rfl, rfl⟩
  · have HE := Lib.hid (show sfxB s p = false by unfold sfxB; rw [decide_eq_false h, Bool.false_and])
    have h1 : decide (p.size ≤ s.size) = false := decide_eq_false h
    go_enter Try.func187, Try.ntmps187
    go_wp2_with fail
    go_ret
    exact ⟨by rw [HE.out]; rfl, rfl⟩
theorem hasPrefix_any (s p : ByteArray) (w : World) : Calls Try.prog 141 #[.string s, .string p] w fun e w' => e = .returned (.bool (pfxB s p)) ∧ w' = w := by
  go_enter Try.func141, Try.ntmps141
  go_wp2_with fail
  refine (hasPrefix_lite s p _).mono ?_
  rintro e w1 ⟨rfl, rfl⟩
  go_wp2_with fail
  go_ret
  exact ⟨rfl, rfl⟩
theorem pfx_le {s p : ByteArray} (h : pfxB s p = true) : p.size ≤ s.size := by
  unfold pfxB at h
  rw [Bool.and_eq_true, decide_eq_true_eq] at h
  exact h.1
theorem sfx_le {s p : ByteArray} (h : sfxB s p = true) : p.size ≤ s.size := by
  unfold sfxB at h
  rw [Bool.and_eq_true, decide_eq_true_eq] at h
  exact h.1
/-- What CutPrefix leaves. -/
def cutP (s p : ByteArray) : ByteArray := if pfxB s p = true then s.extract p.size s.size else s
def cutS (s p : ByteArray) : ByteArray := if sfxB s p = true then s.extract 0 (s.size - p.size) else s
theorem cutPrefix_lite (s p : ByteArray) (w : World) : Calls Try.prog 137 #[.string s, .string p] w fun e w' => e = .returned (.tuple #[.string (cutP s p), .bool (pfxB s p)]) ∧ w' = w := by
  cases h : pfxB s p
  · have HE := Lib.hid (show cutP s p = s by unfold cutP; rw [h]; rfl)
    have HH := Lib.hid h
    clear h
    go_enter Try.func137, Try.ntmps137
    go_wp2_with fail
    refine (hasPrefix_lite s p _).mono ?_
    rintro e w1 ⟨rfl, rfl⟩
    rw [HH.out]
    go_wp2_with fail
    go_returns
    exact ⟨by rw [HE.out]; rfl, rfl⟩
  · have HE := Lib.hid (show cutP s p = s.extract p.size s.size by unfold cutP; rw [h]; rfl)
    have hle := pfx_le h
    have HH := Lib.hid h
    clear h
    go_enter Try.func137, Try.ntmps137
    go_wp2_with fail
    refine (hasPrefix_lite s p _).mono ?_
    rintro e w1 ⟨rfl, rfl⟩
    rw [HH.out]
    go_wp2_with fail
    go_returns
    exact ⟨by rw [HE.out]; rfl, rfl⟩
theorem cutPrefix_any (s p : ByteArray) (w : World) : Calls Try.prog 77 #[.string s, .string p] w fun e w' => e = .returned (.tuple #[.string (cutP s p), .bool (pfxB s p)]) ∧ w' = w := by
  go_enter Try.func77, Try.ntmps77
  go_wp2_with fail
  refine (cutPrefix_lite s p _).mono ?_
  rintro e w1 ⟨rfl, rfl⟩
  go_wp2_with fail
  go_returns
  exact ⟨rfl, rfl⟩
theorem cutSuffix_lite (s p : ByteArray) (hs : s.size ≤ 140737488351232) (w : World) : Calls Try.prog 138 #[.string s, .string p] w fun e w' => e = .returned (.tuple #[.string (cutS s p), .bool (sfxB s p)]) ∧ w' = w := by
  cases h : sfxB s p
  · have HE := Lib.hid (show cutS s p = s by unfold cutS; rw [h]; rfl)
    have HH := Lib.hid h
    clear h
    go_enter Try.func138, Try.ntmps138
    go_wp2_with fail
    refine (hasSuffix_lite s p hs _).mono ?_
    rintro e w1 ⟨rfl, rfl⟩
    rw [HH.out]
    go_wp2_with fail
    go_returns
    exact ⟨by rw [HE.out]; rfl, rfl⟩
  · have hle := sfx_le h
    obtain ⟨d, hd⟩ : ∃ d : Nat, d + p.size = s.size := ⟨s.size - p.size, by omega⟩
    have HE := Lib.hid (show cutS s p = s.extract 0 d by unfold cutS; rw [h, show s.size - p.size = d by omega]; rfl)
    have hdi : (s.size : Int) - (p.size : Int) = (d : Int) := by omega
    have hdl : d ≤ s.size := by omega
    have HH := Lib.hid h
    clear h hd hle
    go_enter Try.func138, Try.ntmps138
    go_wp2_with fail
    refine (hasSuffix_lite s p hs _).mono ?_
    rintro e w1 ⟨rfl, rfl⟩
    rw [HH.out]
    go_wp2_with fail
    go_returns
    exact ⟨by rw [HE.out]; rfl, rfl⟩
theorem cutSuffix_any (s p : ByteArray) (hs : s.size ≤ 140737488351232) (w : World) : Calls Try.prog 78 #[.string s, .string p] w fun e w' => e = .returned (.tuple #[.string (cutS s p), .bool (sfxB s p)]) ∧ w' = w := by
  go_enter Try.func78, Try.ntmps78
  go_wp2_with fail
  refine (cutSuffix_lite s p hs _).mono ?_
  rintro e w1 ⟨rfl, rfl⟩
  go_wp2_with fail
  go_returns
  exact ⟨rfl, rfl⟩
end Go.Proofs.Ytdpgcojgnehnpaa
