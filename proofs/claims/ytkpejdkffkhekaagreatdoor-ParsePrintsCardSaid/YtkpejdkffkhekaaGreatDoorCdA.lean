/- 'code.within', 'code.fields', 'code.checks'. Printed by gen_cda.py. Conditions: none. -/
import Derived.Test.YtkpejdkffkhekaaGreatDoorBase
import Derived.Handy
set_option maxRecDepth 20000
namespace Go.Proofs.YtkpejdkffkhekaaGreatDoor
open Go.ChangeShapes Go.WideShapes Go.ChangeAt Go.RowKit
def fieldsT : List (List UInt8) := [[], [115, 110, 45, 45, 45], [115, 98, 45, 45, 45], [115, 120, 45, 45, 45], [115, 45, 45, 45, 45], [115, 102, 45, 45, 45], [115, 115, 45, 45, 45], [115, 115, 115, 111, 45], [115, 115, 115, 99, 45], [115, 115, 45, 45, 45], [115, 115, 45, 45, 45], [115, 115, 115, 45, 45], [115, 115, 45, 45, 45], [115, 115, 115, 45, 45], [115, 115, 115, 45, 45], [115, 115, 115, 115, 45], [115, 115, 115, 45, 45], [115, 91, 93, 45, 45], [115, 115, 45, 45, 45], [115, 115, 45, 45, 45], [115, 115, 45, 45, 45], [115, 103, 40, 41, 45], [115, 115, 45, 45, 45], [115, 115, 45, 45, 45], [], [116, 45, 45, 45, 45], [116, 45, 45, 45, 45], [115, 116, 45, 45, 45], [115, 115, 91, 112, 45], [114, 45, 45, 45, 45], [45, 45, 45, 45, 45], [115, 45, 45, 45, 45], [115, 45, 45, 45, 45], [115, 45, 45, 45, 45], [45, 91, 93, 45, 45], [97, 115, 91, 112, 45], [116, 45, 45, 45, 45], [107, 45, 45, 45, 45], [107, 116, 45, 45, 45], [107, 115, 91, 112, 97], [116, 45, 45, 45, 45], [115, 119, 45, 45, 45]]
def checksT : List (List UInt8) := [[], [115, 115, 45], [115, 115, 45], [115, 115, 115], [115, 45, 45], [115, 45, 45], [115, 45, 45], [115, 80, 45], [115, 115, 45], [115, 45, 45], [97, 45, 45], [115, 45, 45], [115, 45, 45]]
def fieldsL (op : Int) : List UInt8 := if 0 ≤ op ∧ op ≤ 41 then fieldsT.getD op.toNat [] else []
def checksL (d : Int) : List UInt8 := if 0 ≤ d ∧ d ≤ 12 then checksT.getD d.toNat [] else []
def withinB (n lo hi : Int) : Bool := decide (lo ≤ n) && decide (n ≤ hi)
end Go.Proofs.YtkpejdkffkhekaaGreatDoor
