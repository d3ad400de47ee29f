/- What the program asks of a node by itself: right. Conditions: the node is in a tree of the right shape. -/
import Derived.Test.YtkpejdkffkhekaaGreatDoorPgM
import Derived.Test.YtkpejdkffkhekaaGreatDoorPgL
import Derived.Test.YtkpejdkffkhekaaGreatDoorTyValid
import Derived.Test.YtkpejdkffkhekaaGreatDoorTx
set_option maxRecDepth 100000
namespace Go.Proofs.YtkpejdkffkhekaaGreatDoor
open Go.ChangeShapes Go.WideShapes Go.ChangeAt Go.RowKit
def emB (s : ByteArray) : Bool := s.toList.isEmpty
/-- May a text be quoted? -/
def quoB (s : ByteArray) : Bool := decide (s.size ≤ 200) && (quoL s.data.toList).isSome
/-- The first kid of a node. -/
def kid0 (T : List ND) (x : ND) : ND := ((x.kids[0]?).bind fun k => T[k.toNat]?).getD ⟨0, ⟨#[]⟩, ⟨#[]⟩, 0, []⟩
def rgP (T : List ND) (x : ND) : Bool :=
  if x.kind = 2 then oneB 1 x.text.data.toList && emB x.typ
  else if x.kind = 33 then emB x.text && emB x.typ
  else if x.kind = 3 ∨ x.kind = 6 then oneB 1 x.text.data.toList && tyOk x.typ && decide (x.num = 0)
  else if x.kind = 4 then (if emB x.typ = true then emB x.text && decide (x.num = 0) else (emB x.text || oneB 1 x.text.data.toList) && tyOk x.typ && decide (x.num = 0))
  else if x.kind = 7 ∨ x.kind = 25 then oneB 1 x.text.data.toList && emB x.typ && decide (x.num = 0)
  else if x.kind = 21 then emB x.text && emB x.typ && decide (0 ≤ x.num)
  else if x.kind = 23 then emB x.text && emB x.typ
  else if x.kind = 22 then quoB x.text && emB x.typ && decide (x.num = 0)
  else if x.kind = 26 then (x.text.toList == [45] || (x.text.toList == [33] || (x.text.toList == [42] || (x.text.toList == [38] && decide ((kid0 T x).kind = 25))))) && emB x.typ && decide (x.num = 0)
  else if x.kind = 27 then decide (0 < lvN x.text.toList) && emB x.typ && decide (x.num = 0)
  else if x.kind = 8 then placeN (kid0 T x) && emB x.text && emB x.typ && decide (x.num = 0)
  else emB x.text && emB x.typ && decide (x.num = 0)
theorem quoV_ok (s : ByteArray) : ∃ a e, quoV s = .tuple #[.string a, .int .i64 e] ∧ quoB s = decide (e = 0) := by
  unfold quoV quoB
  by_cases h : 200 < s.size
  · rw [if_pos h]
    exact ⟨_, _, rfl, by rw [decide_eq_false (by omega)]; rfl⟩
  · rw [if_neg h, decide_eq_true (by omega)]
    cases quoL s.data.toList with
    | none => exact ⟨_, _, rfl, rfl⟩
    | some q => exact ⟨_, _, rfl, rfl⟩
/-- What 'right' is to answer. -/
def RgC (T : List ND) (A : Option Addr) (c : Nat) (x : ND) (v : Value) (w : World) : Prop :=
  Calls Tryz.prog 23 #[.slice A T.length c, .agg #[.int .i64 x.kind, .string x.text, .string x.typ, .int .i64 x.num, v]] w fun e w' => e = .returned (.bool (rgP T x)) ∧ Below w.heap.size w w'
end Go.Proofs.YtkpejdkffkhekaaGreatDoor
