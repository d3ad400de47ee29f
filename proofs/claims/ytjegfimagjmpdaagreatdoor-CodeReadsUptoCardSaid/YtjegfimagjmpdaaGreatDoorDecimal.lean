/- The document's 'Decimal'. Conditions: what comes in fits. -/
import Derived.Test.YtjegfimagjmpdaaGreatDoorBigW
import Derived.Test.YtjegfimagjmpdaaGreatDoorBigA
set_option maxRecDepth 20000
namespace Go.Proofs.YtjegfimagjmpdaaGreatDoor
open Go.ChangeShapes Go.WideShapes Go.ChangeAt Go.RowKit
theorem refDecimal_any (n : Int) (hn : -9223372036854775808 ≤ n ∧ n ≤ 9223372036854775807) (w : World) : Calls Tryz.prog 31 #[.int .i64 n] w fun e w' => e = .returned (.string (decS n)) ∧ Below w.heap.size w w' := by
  have h1 := dd_len19 (u := n.natAbs) (by omega)
  have h2 := wds_len (n := n.natAbs) (k := 2) (by omega)
  go_enter Tryz.func31, Tryz.ntmps31
  go_wp2_with fail
  refine (wholeBig_any n hn _).mono ?_
  rintro e w1 ⟨g, rfl, hg, hB, hb⟩
  have HB := Lib.hid hB
  clear hB
  go_wp2_with fail
  refine (intString_any g n w1 HB.out (by omega) (by omega)).mono ?_
  rintro e w2 ⟨rfl, hb2⟩
  go_wp2_with fail
  go_ret
  exact ⟨rfl, sq hb hb2⟩
end Go.Proofs.YtjegfimagjmpdaaGreatDoor
