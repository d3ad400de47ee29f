/- Texts as lists of bytes, in memory. Conditions: none. -/
import Derived.Test.YtgjhjojbaieeaaaDoorRow
set_option maxRecDepth 20000
namespace Go.Proofs.YtgjhjojbaieeaaaDoor
open Go.ChangeShapes Go.WideShapes Go.ChangeAt Go.RowKit
def n8 (l : List UInt8) : List Int := l.map fun c => (c.toNat : Int)
/-- Bytes, as values. -/
def b8 (l : List UInt8) : List Value := l.map fun c => Value.int .u8 (c.toNat : Int)
theorem b8_eq (l : List UInt8) : b8 l = (n8 l).map (Value.int .u8) := by simp [b8, n8]
theorem b8_one (l : List UInt8) : ∀ u ∈ b8 l, u.oneCell' = true := by
  intro u hu
  obtain ⟨_, _, rfl⟩ := List.mem_map.1 hu
  rfl
@[simp] theorem b8_len (l : List UInt8) : (b8 l).length = l.length := by simp [b8]
@[simp] theorem b8_app (l m : List UInt8) : b8 (l ++ m) = b8 l ++ b8 m := by simp [b8]
@[simp] theorem b8_cons (a : UInt8) (m : List UInt8) : b8 (a :: m) = .int .u8 (a.toNat : Int) :: b8 m := by simp [b8]
theorem b8_nil : b8 [] = [] := rfl
theorem b8_get {l : List UInt8} {k : Nat} (h : k < l.length) : (b8 l)[k]? = some (.int .u8 (l[k].toNat : Int)) := by simp [b8, h]
theorem strOf_n8 (l : List UInt8) : strOfNums (n8 l) = ⟨l.toArray⟩ := by
  unfold strOfNums n8
  simp [Function.comp_def]
/-- 'string(b)' of bytes. -/
theorem run_str_b8 {P : Program} {w : World} {B n c : Nat} {A : Option Addr} {l : List UInt8} (h : Rd w B 1 A n (b8 l)) (src e dst : TypeId) (hs : P.underlying src = some (.slice e)) (he : P.underlying e = some (.int .u8)) (hd : P.underlying dst = some .string) :
    (convert src dst (.slice A n c)).run P w = .ok (.string ⟨l.toArray⟩) w := by
  rw [← strOf_n8]
  exact run_str_rd (b8_eq l ▸ h) src e dst hs he hd
/-- A text's bytes. -/
theorem byl_get (s : ByteArray) (k : Nat) (h : k < s.size) : s.data.toList[k]? = some s[k] := by
  rw [List.getElem?_eq_getElem (show k < s.data.toList.length from h)]; rfl
theorem byl_take (s : ByteArray) (k : Nat) (h : k < s.size) : s.data.toList.take (k + 1) = s.data.toList.take k ++ [s[k]] := by
  rw [List.take_succ_eq_append_getElem (show k < s.data.toList.length from h)]; rfl
theorem byl_drop (s : ByteArray) (k : Nat) (h : k < s.size) : s.data.toList.drop k = s[k] :: s.data.toList.drop (k + 1) := by
  rw [List.drop_eq_getElem_cons (show k < s.data.toList.length from h)]; rfl
theorem ext_one (s : ByteArray) (k : Nat) (h : k < s.size) : s.extract k (k + 1) = ⟨#[s[k]]⟩ := by
  apply ByteArray.ext
  apply Array.ext'
  rw [ByteArray.data_extract, Array.toList_extract]
  simp only [List.extract, Nat.add_sub_cancel_left]
  rw [List.take_one, List.head?_drop, byl_get s k h]
  rfl
theorem ext_list (s : ByteArray) (a b : Nat) : (s.extract a b).data.toList = (s.data.toList.take b).drop a := by
  rw [ByteArray.data_extract, Array.toList_extract]
  simp [List.drop_take]
theorem u8_ne {a b : UInt8} (h : a ≠ b) : a.toNat ≠ b.toNat := fun e => h (UInt8.toNat_inj.1 e)
end Go.Proofs.YtgjhjojbaieeaaaDoor
