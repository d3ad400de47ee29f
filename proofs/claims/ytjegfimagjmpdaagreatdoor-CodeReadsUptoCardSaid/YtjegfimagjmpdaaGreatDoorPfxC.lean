/- strings.CutPrefix: what it answers. Conditions: none. -/
import Derived.Test.YtjegfimagjmpdaaGreatDoorScP
set_option maxRecDepth 20000
namespace Go.Proofs.YtjegfimagjmpdaaGreatDoor
open Go.ChangeShapes Go.WideShapes Go.ChangeAt Go.RowKit
/-- What CutPrefix leaves. -/
def cutP (s p : ByteArray) : ByteArray := if pfxB s p = true then s.extract p.size s.size else s
theorem cutPrefix_lite (s p : ByteArray) (w : World) : Calls Tryz.prog 34 #[.string s, .string p] w fun e w' => e = .returned (.tuple #[.string (cutP s p), .bool (pfxB s p)]) ∧ w' = w := by
  cases h : pfxB s p
  · have HE := Lib.hid (show cutP s p = s by unfold cutP; rw [h]; rfl)
    have HH := Lib.hid h
    clear h
    go_enter Tryz.func34, Tryz.ntmps34
    go_wp2_with fail
    refine (hasPrefix_lite s p _).mono ?_
    rintro e w1 ⟨rfl, rfl⟩
    rw [HH.out]
    go_wp2_with fail
    go_returns
    exact ⟨by rw [HE.out]; rfl, rfl⟩
  · have HE := Lib.hid (show cutP s p = s.extract p.size s.size by unfold cutP; rw [h]; rfl)
    have hle := pfx_le h
    have HH := Lib.hid h
    clear h
    go_enter Tryz.func34, Tryz.ntmps34
    go_wp2_with fail
    refine (hasPrefix_lite s p _).mono ?_
    rintro e w1 ⟨rfl, rfl⟩
    rw [HH.out]
    go_wp2_with fail
    go_returns
    exact ⟨by rw [HE.out]; rfl, rfl⟩
theorem cutPrefix_any (s p : ByteArray) (w : World) : Calls Tryz.prog 15 #[.string s, .string p] w fun e w' => e = .returned (.tuple #[.string (cutP s p), .bool (pfxB s p)]) ∧ w' = w := by
  go_enter Tryz.func15, Tryz.ntmps15
  go_wp2_with fail
  refine (cutPrefix_lite s p _).mono ?_
  rintro e w1 ⟨rfl, rfl⟩
  go_wp2_with fail
  go_returns
  exact ⟨rfl, rfl⟩
end Go.Proofs.YtjegfimagjmpdaaGreatDoor
