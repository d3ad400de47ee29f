/- Plain: texts as lists of bytes. Conditions: none. -/
import Derived.WalkKit
import Derived.Laws.BytesArg
import Derived.Laws.StructEq
namespace Go.Proofs.YtgjhjojbaieeaaaDoor
open Go
/-- The bytes of a text, as numbers. -/
def byt (s : ByteArray) : List Nat := s.data.toList.map UInt8.toNat
/-- The text of these bytes. -/
def strOf (l : List Nat) : ByteArray := strOfNums (l.map Int.ofNat)
theorem strOf_eq (l : List Nat) : strOf l = ⟨(l.map UInt8.ofNat).toArray⟩ := by
  unfold strOf strOfNums
  rw [List.map_map]; rfl
theorem strOf_byt (s : ByteArray) : strOf (byt s) = s := by
  rw [strOf_eq]
  unfold byt
  rw [List.map_map]
  have : (UInt8.ofNat ∘ UInt8.toNat) = id := by funext c; simp
  rw [this, List.map_id]
theorem byt_strOf {l : List Nat} (h : ∀ d ∈ l, d < 256) : byt (strOf l) = l := by
  rw [strOf_eq]
  unfold byt
  simp only [List.map_map]
  conv => rhs; rw [← List.map_id l]
  apply List.map_congr_left
  intro d hd
  simp only [Function.comp, id]
  rw [UInt8.toNat_ofNat']
  exact Nat.mod_eq_of_lt (h d hd)
theorem byt_inj {s t : ByteArray} (h : byt s = byt t) : s = t := by rw [← strOf_byt s, h, strOf_byt]
theorem byt_len (s : ByteArray) : (byt s).length = s.size := by unfold byt; rw [List.length_map]; rfl
theorem byt_lt (s : ByteArray) : ∀ d ∈ byt s, d < 256 := by
  intro d hd
  obtain ⟨c, _, rfl⟩ := List.mem_map.1 hd
  exact c.toNat_lt
theorem byt_get (s : ByteArray) (k : Nat) (h : k < s.size) : (byt s)[k]? = some s[k].toNat := by
  have : k < s.data.toList.length := h
  unfold byt
  rw [List.getElem?_map, List.getElem?_eq_getElem this]
  rfl
theorem byt_getD (s : ByteArray) (k : Nat) (h : k < s.size) : (byt s).getD k 0 = s[k].toNat := by
  rw [List.getD, byt_get s k h]; rfl
theorem byt_toList (s : ByteArray) : byt s = s.toList.map UInt8.toNat := by rw [ByteArray.toList_eq]; rfl
theorem byt_extract (s : ByteArray) (a b : Nat) : byt (s.extract a b) = ((byt s).take b).drop a := by
  unfold byt
  rw [ByteArray.data_extract]
  simp [List.extract, List.map_drop, List.map_take]
  rw [List.drop_take]
theorem byt_append (s t : ByteArray) : byt (s ++ t) = byt s ++ byt t := by
  unfold byt
  simp
theorem strOf_app (a b : List Nat) : strOf (a ++ b) = strOf a ++ strOf b := by
  rw [strOf_eq, strOf_eq, strOf_eq]
  apply ByteArray.ext
  simp
theorem byt_drop (s : ByteArray) (k : Nat) (h : k < s.size) : (byt s).drop k = s[k].toNat :: (byt s).drop (k + 1) := by
  have hl : k < (byt s).length := by rw [byt_len]; exact h
  rw [List.drop_eq_getElem_cons hl]
  congr 1
  have := byt_get s k h
  rw [List.getElem?_eq_getElem hl] at this
  injection this
theorem beq_byt (s t : ByteArray) : (s.toList == t.toList) = (byt s == byt t) := by
  rw [Bool.eq_iff_iff, beq_iff_eq, beq_iff_eq]
  constructor
  · intro h; rw [byt_toList, byt_toList, h]
  · intro h; rw [byt_inj h]
theorem strOf_len (l : List Nat) : (strOf l).size = l.length := by rw [strOf_eq]; simp [ByteArray.size]
end Go.Proofs.YtgjhjojbaieeaaaDoor
