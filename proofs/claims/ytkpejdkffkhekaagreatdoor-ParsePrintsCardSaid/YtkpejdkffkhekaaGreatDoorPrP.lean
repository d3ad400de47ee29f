/- What a tree is printed as, plain. Conditions: none. -/
import Derived.Test.YtkpejdkffkhekaaGreatDoorPgR
import Derived.Test.YtkpejdkffkhekaaGreatDoorPgB
import Derived.Test.YtkpejdkffkhekaaGreatDoorTx
set_option maxRecDepth 20000
namespace Go.Proofs.YtkpejdkffkhekaaGreatDoor
/-- The node k. -/
def ndT (T : List ND) (k : Nat) : ND := (T[k]?).getD ⟨0, ⟨#[]⟩, ⟨#[]⟩, 0, []⟩
/-- A type as it is printed. -/
def wideL : List UInt8 → List UInt8
  | [] => []
  | c :: r => (if c = 44 then [44, 32] else [c]) ++ wideL r
def txB (s : ByteArray) : List UInt8 := s.data.toList
def tabL (i : Nat) : List UInt8 := 10 :: List.replicate i 9
/-- The texts with commas between. -/
def comL : List (List UInt8) → List UInt8
  | [] => []
  | [a] => a
  | a :: b :: r => a ++ [44, 32] ++ comL (b :: r)
def brL (b : Bool) (l : List UInt8) : List UInt8 := if b then [40] ++ l ++ [41] else l
/-- A parameter. -/
def parL (n : ND) : List UInt8 := txB n.text ++ [32] ++ wideL (txB n.typ)
/-- A result. -/
def resL (n : ND) : List UInt8 :=
  if emB n.text = false then [40] ++ txB n.text ++ [32] ++ wideL (txB n.typ) ++ [41, 32]
  else if emB n.typ = false then wideL (txB n.typ) ++ [32]
  else []
/-- The kid j of a node. -/
def kidT (n : ND) (j : Nat) : Nat := ((n.kids[j]?).getD 0).toNat
/-- The head of a function, with its block. -/
def hdS (T : List ND) (p : Nat → Nat → List UInt8) (n : ND) (i : Nat) : List UInt8 :=
  [40] ++ comL (((n.kids.take n.num.toNat).map Int.toNat).map fun k => parL (ndT T k)) ++ [41, 32] ++ resL (ndT T (kidT n n.num.toNat)) ++ p (kidT n (n.num.toNat + 1)) i
/-- What stands ahead of calls and indices. -/
def bsS (T : List ND) (p : Nat → Nat → List UInt8) (n : ND) (i : Nat) : List UInt8 := brL (decide ((ndT T (kidT n 0)).kind = 27 ∨ (ndT T (kidT n 0)).kind = 26)) (p (kidT n 0) i)
/-- What a node is printed as, by the texts p of the nodes ahead (a node and how far lines stand in). -/
def prS (T : List ND) (p : Nat → Nat → List UInt8) (n : ND) (i : Nat) : List UInt8 :=
  if n.kind = 5 then (if n.kids = [] then [123, 125] else [123] ++ ((n.kids.map Int.toNat).map fun k => tabL (i + 1) ++ p k (i + 1)).flatten ++ tabL i ++ [125])
  else if n.kind = 6 then [118, 97, 114, 32] ++ txB n.text ++ [32] ++ wideL (txB n.typ)
  else if n.kind = 7 then txB n.text ++ [32, 58, 61, 32] ++ p (kidT n 0) i
  else if n.kind = 8 then p (kidT n 0) i ++ [32, 61, 32] ++ p (kidT n 1) i
  else if n.kind = 9 then p (kidT n 0) i
  else if n.kind = 10 then [105, 102, 32] ++ p (kidT n 0) i ++ [32] ++ p (kidT n 1) i ++ (if n.kids.length = 3 then [32, 101, 108, 115, 101, 32] ++ p (kidT n 2) i else [])
  else if n.kind = 11 then [102, 111, 114, 32] ++ (if n.kids.length = 2 then p (kidT n 0) i ++ [32] else []) ++ p (kidT n (n.kids.length - 1)) i
  else if n.kind = 12 then [98, 114, 101, 97, 107]
  else if n.kind = 13 then [99, 111, 110, 116, 105, 110, 117, 101]
  else if n.kind = 14 then [114, 101, 116, 117, 114, 110] ++ (if n.kids.length = 1 then [32] ++ p (kidT n 0) i else [])
  else if n.kind = 15 then [100, 101, 102, 101, 114, 32] ++ p (kidT n 0) i
  else if n.kind = 21 then txB (decS n.num)
  else if n.kind = 22 then 34 :: ((quoL (txB n.text)).getD []) ++ [34]
  else if n.kind = 23 then (if n.num = 1 then [116, 114, 117, 101] else [102, 97, 108, 115, 101])
  else if n.kind = 24 then [110, 105, 108]
  else if n.kind = 25 then txB n.text
  else if n.kind = 26 then txB n.text ++ brL (decide ((ndT T (kidT n 0)).kind = 27)) (p (kidT n 0) i)
  else if n.kind = 27 then brL (decide ((ndT T (kidT n 0)).kind = 27 ∧ lvN (ndT T (kidT n 0)).text.toList < lvN n.text.toList)) (p (kidT n 0) i) ++ [32] ++ txB n.text ++ [32] ++ brL (decide ((ndT T (kidT n 1)).kind = 27 ∧ lvN (ndT T (kidT n 1)).text.toList ≤ lvN n.text.toList)) (p (kidT n 1) i)
  else if n.kind = 28 then bsS T p n i ++ [40] ++ comL ((n.kids.map Int.toNat).tail.map fun k => p k i) ++ [41]
  else if n.kind = 29 then bsS T p n i ++ [91] ++ p (kidT n 1) i ++ [93]
  else if n.kind = 30 then bsS T p n i ++ [91] ++ p (kidT n 1) i ++ [58] ++ p (kidT n 2) i ++ [93]
  else if n.kind = 32 then [91, 93, 105, 110, 116, 123] ++ comL ((n.kids.map Int.toNat).map fun k => p k i) ++ [125]
  else if n.kind = 33 then [102, 117, 110, 99] ++ hdS T p n i
  else []
/-- The texts of all nodes ahead of m. -/
def prT (T : List ND) : Nat → Nat → Nat → List UInt8
  | 0, _, _ => []
  | m + 1, k, i => if k < m then prT T m k i else prS T (prT T m) (ndT T k) i
theorem prT_eq (T : List ND) : ∀ (m k i : Nat), k < m → prT T m k i = prS T (prT T k) (ndT T k) i
  | 0, k, i, h => by omega
  | m + 1, k, i, h => by
    unfold prT
    by_cases hk : k < m
    · rw [if_pos hk]
      exact prT_eq T m k i hk
    · rw [if_neg hk]
      obtain rfl : k = m := by omega
      rfl
/-- What the node k is printed as. -/
def prN (T : List ND) (k i : Nat) : List UInt8 := prS T (prT T k) (ndT T k) i
/-- What a tree is printed as. -/
def fnL (T : List ND) (k : Nat) : List UInt8 := [102, 117, 110, 99, 32] ++ txB (ndT T k).text ++ hdS T (prT T k) (ndT T k) 0 ++ [10]
def srcL (T : List ND) : List UInt8 := (((ndT T (T.length - 1)).kids.map Int.toNat).map (fnL T)).flatten
end Go.Proofs.YtkpejdkffkhekaaGreatDoor
