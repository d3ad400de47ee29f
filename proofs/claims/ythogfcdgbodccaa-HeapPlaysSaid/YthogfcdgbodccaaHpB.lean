/- A heap in memory stays below. Conditions: none. -/
import Derived.Test.YthogfcdgbodccaaHpA
set_option maxRecDepth 100000
namespace Go.Proofs.Ythogfcdgbodccaa
open Go.ChangeShapes Go.WideShapes Go.ChangeAt Go.RowKit
theorem HPc.below {w w' : World} {base P room : Nat} {bs : List BK} {cells : List (Int × Int)} {shapes : List Int} {cv zv sv : Value} (h : HPc w base P room bs cells shapes cv zv sv) (hb : Below w.heap.size w w') : HPc w' base P room bs cells shapes cv zv sv :=
  ⟨h.hP, (hb.block P (Array.getElem?_eq_some_iff.1 h.box).1).trans h.box, own_below h.cel hb, own_below h.siz hb, own_below h.sha hb, h.dis, h.lc, h.ls, h.fit, h.row⟩
end Go.Proofs.Ythogfcdgbodccaa
