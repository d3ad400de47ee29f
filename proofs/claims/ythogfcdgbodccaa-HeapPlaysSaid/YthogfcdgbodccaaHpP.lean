/- The plain side of a heap: blocks by where they begin, and the row of sizes that tells of them. Conditions: none. -/
import Derived.Test.YthogfcdgbodccaaBase
namespace Go.Proofs.Ythogfcdgbodccaa
/-- A block: where it begins, its shape, its cells. -/
structure BK where
  at_ : Nat
  shape : Int
  cells : List (Int × Int)
def BK.fin (b : BK) : Nat := b.at_ + 1 + b.cells.length
/-- Blocks lie apart, in order, from a place on, within the room. -/
def FitB : Nat → List BK → Nat → Prop
  | lo, [], room => lo ≤ room
  | lo, b :: bs, room => lo ≤ b.at_ ∧ FitB b.fin bs room
/-- The row of sizes from a place on. -/
def szL : Nat → List BK → Nat → List Int
  | lo, [], room => List.replicate (room - lo) 0
  | lo, b :: bs, room => List.replicate (b.at_ - lo) 0 ++ (((b.cells.length + 1 : Nat) : Int) :: (List.replicate b.cells.length 0 ++ szL b.fin bs room))
theorem FitB.le {lo : Nat} {bs : List BK} {room : Nat} (h : FitB lo bs room) : lo ≤ room := by
  induction bs generalizing lo with
  | nil => exact h
  | cons b bs ih =>
    have h1 := ih h.2
    have h2 := h.1
    have h3 : b.fin = b.at_ + 1 + b.cells.length := rfl
    omega
theorem szL_len {lo : Nat} {bs : List BK} {room : Nat} (h : FitB lo bs room) : (szL lo bs room).length = room - lo := by
  induction bs generalizing lo with
  | nil => simp [szL]
  | cons b bs ih =>
    have h1 := ih h.2
    have h2 := h.1
    have h4 := h.2.le
    have h3 : b.fin = b.at_ + 1 + b.cells.length := rfl
    simp only [szL, List.length_append, List.length_cons, List.length_replicate, h1]
    omega
/-- The first place at which n cells stand free. -/
def fndB : Nat → List BK → Nat → Nat → Option Nat
  | lo, [], room, n => if n ≤ room - lo then some lo else none
  | lo, b :: bs, room, n => if n ≤ b.at_ - lo then some lo else fndB b.fin bs room n
/-- The block that begins at a place. -/
def blkAt (bs : List BK) (a : Nat) : Option BK := bs.find? fun b => b.at_ == a
theorem szL_free {lo : Nat} {bs : List BK} {room k : Nat} (hk : lo + k < room) (hb : ∀ b ∈ bs.head?, lo + k < b.at_) : (szL lo bs room)[k]? = some 0 := by
  cases bs with
  | nil =>
    simp only [szL]
    rw [List.getElem?_replicate, if_pos (by omega)]
  | cons b bs =>
    have := hb b (by simp)
    simp only [szL]
    rw [List.getElem?_append_left (by simp; omega), List.getElem?_replicate, if_pos (by omega)]
theorem szL_head {lo : Nat} {b : BK} {bs : List BK} {room : Nat} : (szL lo (b :: bs) room)[b.at_ - lo]? = some ((b.cells.length + 1 : Nat) : Int) := by
  simp only [szL]
  rw [List.getElem?_append_right (by simp)]
  simp
theorem szL_drop {lo : Nat} {b : BK} {bs : List BK} {room k : Nat} (h : FitB lo (b :: bs) room) : (szL lo (b :: bs) room)[b.fin - lo + k]? = (szL b.fin bs room)[k]? := by
  have h1 := h.1
  have h3 : b.fin = b.at_ + 1 + b.cells.length := rfl
  simp only [szL]
  rw [List.getElem?_append_right (by simp; omega), List.length_replicate]
  have e : b.fin - lo + k - (b.at_ - lo) = (b.cells.length + k) + 1 := by omega
  rw [e, List.getElem?_cons_succ, List.getElem?_append_right (by simp)]
  simp
end Go.Proofs.Ythogfcdgbodccaa
