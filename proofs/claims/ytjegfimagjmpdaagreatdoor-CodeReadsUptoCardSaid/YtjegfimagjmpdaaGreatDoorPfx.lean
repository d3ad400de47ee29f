/- strings.CutSuffix: what it answers. Conditions: none. -/
import Derived.Test.YtjegfimagjmpdaaGreatDoorPfxC
import Derived.Test.YtjegfimagjmpdaaGreatDoorScP
set_option maxRecDepth 20000
namespace Go.Proofs.YtjegfimagjmpdaaGreatDoor
open Go.ChangeShapes Go.WideShapes Go.ChangeAt Go.RowKit
def sfxB (s p : ByteArray) : Bool := decide (p.size ≤ s.size) && decide (s.extract (s.size - p.size) s.size = p)
theorem sfx_le {s p : ByteArray} (h : sfxB s p = true) : p.size ≤ s.size := by
  unfold sfxB at h
  rw [Bool.and_eq_true, decide_eq_true_eq] at h
  exact h.1
def cutS (s p : ByteArray) : ByteArray := if sfxB s p = true then s.extract 0 (s.size - p.size) else s
end Go.Proofs.YtjegfimagjmpdaaGreatDoor
