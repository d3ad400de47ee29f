/- What the program asks of a node by itself: levels, places. Conditions: none. -/
import Derived.Test.YtkpejdkffkhekaaGreatDoorPgT
import Derived.Test.YtkpejdkffkhekaaGreatDoorPgC
set_option maxRecDepth 100000
namespace Go.Proofs.YtkpejdkffkhekaaGreatDoor
open Go.ChangeShapes Go.WideShapes Go.ChangeAt Go.RowKit
def lvN (s : List UInt8) : Nat :=
  if s == [124, 124] then 1
  else if s == [38, 38] then 2
  else if s == [61, 61] || s == [33, 61] || s == [60] || s == [60, 61] || s == [62] || s == [62, 61] then 3
  else if s == [43] || s == [45] || s == [124] || s == [94] then 4
  else if s == [42] || s == [47] || s == [37] || s == [60, 60] || s == [62, 62] || s == [38] then 5
  else 0
set_option maxHeartbeats 4000000 in
theorem level_any (s : ByteArray) (w : World) : Calls Tryz.prog 42 #[.string s] w fun e w' => e = .returned (.int .i64 (lvN s.toList : Int)) ∧ w' = w := by
  go_enter Tryz.func42, Tryz.ntmps42
  go_wp2_with fail
  all_goals (
    go_ret
    refine ⟨?_, rfl⟩
    unfold lvN)
  all_goals first
    | (simp [*]; done)
    | (exfalso; simp_all; done)
def placeN (n : ND) : Bool := decide (n.kind = 25) || (decide (n.kind = 29) || (decide (n.kind = 26) && n.text.toList == [42]))
theorem pplace_any (x : ND) (v : Value) (w : World) : Calls Tryz.prog 43 #[.agg #[.int .i64 x.kind, .string x.text, .string x.typ, .int .i64 x.num, v]] w fun e w' => e = .returned (.bool (placeN x)) ∧ Below w.heap.size w w' := by
  go_enter Tryz.func43, Tryz.ntmps43
  go_wp2_with fail
  all_goals (
    go_ret
    refine ⟨?_, al _⟩
    unfold placeN
    simp [*])
end Go.Proofs.YtkpejdkffkhekaaGreatDoor
