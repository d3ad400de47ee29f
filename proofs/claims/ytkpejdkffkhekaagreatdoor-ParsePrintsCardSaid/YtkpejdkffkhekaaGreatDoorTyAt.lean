/- Plain: types within a text, by places. Conditions: none. -/
import Derived.Test.YtkpejdkffkhekaaGreatDoorTyHas
set_option maxRecDepth 20000
namespace Go.Proofs.YtkpejdkffkhekaaGreatDoor
open Go.ChangeShapes Go.WideShapes Go.ChangeAt Go.RowKit
/-- Where the type ends that stands at k. -/
def tyAt (f : Nat) (S : ByteArray) (k : Nat) : Option Nat := (ty f (S.data.toList.drop k)).map (· + k)
def parsAt (f : Nat) (S : ByteArray) (m k : Nat) : Option Nat := (tyPars (ty f) (4 - m) (decide (m = 0)) (S.data.toList.drop k)).map (· + k)
def resAt (f : Nat) (S : ByteArray) (k : Nat) : Option Nat := (tyRes (ty f) (S.data.toList.drop k)).map (· + k)
def fnAt (f : Nat) (S : ByteArray) (k : Nat) : Option Nat := if hasB S k ⟨#[102, 117, 110, 99, 40]⟩ then parsAt f S 0 (k + 5) else none
theorem opt_map {o : Option Nat} {a b : Nat} : (o.map (· + a)).map (· + b) = o.map (· + (a + b)) := by cases o <;> simp [Nat.add_assoc]
theorem tyAt_word {f : Nat} {S : ByteArray} {k n : Nat} (h : tyWord (S.data.toList.drop k) = some n) : tyAt (f + 1) S k = some (k + n) := by
  unfold tyAt ty
  rw [h]
  simp [Nat.add_comm]
theorem tyAt_fn {f : Nat} {S : ByteArray} {k : Nat} (h : tyWord (S.data.toList.drop k) = none) : tyAt (f + 1) S k = fnAt f S k := by
  unfold tyAt ty
  rw [h]
  unfold fnAt hasB parsAt
  change Option.map (· + k) (if tyF.isPrefixOf (S.data.toList.drop k) = true then _ else none) = if tyF.isPrefixOf (S.data.toList.drop k) = true then _ else none
  by_cases hp : tyF.isPrefixOf (S.data.toList.drop k) = true
  · rw [if_pos hp, if_pos hp, List.drop_drop, opt_map, Nat.add_comm 5 k]; rfl
  · rw [if_neg hp, if_neg hp]; rfl
theorem tyAt_le {f : Nat} {S : ByteArray} {k n : Nat} (hk : k ≤ S.size) (h : tyAt f S k = some n) : k < n ∧ n ≤ S.size := by
  unfold tyAt at h
  rw [Option.map_eq_some_iff] at h
  obtain ⟨m, hm, rfl⟩ := h
  have := ty_le f _ _ hm
  rw [List.length_drop] at this
  have e1 : S.data.toList.length = S.size := rfl
  omega
theorem parsAt_close {f : Nat} {S : ByteArray} {m k : Nat} (h : hasB S k ⟨#[41]⟩ = true) : parsAt f S m k = resAt f S (k + 1) := by
  unfold hasB at h
  unfold parsAt resAt
  generalize 4 - m = j
  cases j <;> (rw [tyPars, if_pos h, List.drop_drop, opt_map, Nat.add_comm 1 k])
theorem parsAt_full {f : Nat} {S : ByteArray} {m k : Nat} (h : hasB S k ⟨#[41]⟩ = false) (hm : 4 ≤ m) : parsAt f S m k = none := by
  unfold hasB at h
  unfold parsAt
  rw [show 4 - m = 0 by omega, tyPars, if_neg (by rw [h]; simp)]
  rfl
theorem bind_map {o : Option Nat} {g : Nat → Option Nat} {a : Nat} {h : Nat → Option Nat} (e : ∀ n, (g n).map (· + a) = h (n + a)) : (o.bind g).map (· + a) = (o.map (· + a)).bind h := by
  cases o with
  | none => rfl
  | some n => exact e n
theorem parsAt_first {f : Nat} {S : ByteArray} {k : Nat} (h : hasB S k ⟨#[41]⟩ = false) : parsAt f S 0 k = (tyAt f S k).bind (parsAt f S 1) := by
  unfold hasB at h
  have e : parsAt f S 0 k = ((ty f (S.data.toList.drop k)).bind fun n => (tyPars (ty f) 3 false ((S.data.toList.drop k).drop n)).map (· + n)).map (· + k) := by
    unfold parsAt
    rw [show 4 - 0 = 3 + 1 by omega, tyPars, if_neg (by rw [h]; simp), if_pos (by simp)]
  rw [e]
  unfold tyAt
  refine bind_map fun n => ?_
  unfold parsAt
  rw [List.drop_drop, opt_map, Nat.add_comm k n]; rfl
theorem parsAt_no {f : Nat} {S : ByteArray} {m k : Nat} (h : hasB S k ⟨#[41]⟩ = false) (hm : 0 < m) (hm4 : m < 4) (hc : hasB S k ⟨#[44]⟩ = false) : parsAt f S m k = none := by
  unfold hasB at h hc
  unfold parsAt
  obtain ⟨j, hj⟩ : ∃ j, 4 - m = j + 1 := ⟨3 - m, by omega⟩
  rw [hj, tyPars, if_neg (by rw [h]; simp), if_neg (by simp; omega), if_neg (by rw [hc]; simp)]
  rfl
theorem parsAt_more {f : Nat} {S : ByteArray} {m k : Nat} (h : hasB S k ⟨#[41]⟩ = false) (hm : 0 < m) (hm4 : m < 4) (hc : hasB S k ⟨#[44]⟩ = true) : parsAt f S m k = (tyAt f S (k + 1)).bind (parsAt f S (m + 1)) := by
  unfold hasB at h hc
  obtain ⟨j, hj⟩ : ∃ j, 4 - m = j + 1 := ⟨3 - m, by omega⟩
  have e : parsAt f S m k = ((ty f ((S.data.toList.drop k).drop 1)).bind fun n => (tyPars (ty f) j false ((S.data.toList.drop k).drop (1 + n))).map (· + (1 + n))).map (· + k) := by
    unfold parsAt
    rw [hj, tyPars, if_neg (by rw [h]; simp), if_neg (by simp; omega), if_pos hc]
  rw [e]
  unfold tyAt
  rw [List.drop_drop]
  cases ty f (S.data.toList.drop (k + 1)) with
  | none => rfl
  | some n =>
    simp only [Option.bind_some, Option.map_some]
    unfold parsAt
    rw [List.drop_drop, opt_map, show 4 - (m + 1) = j by omega, show decide (m + 1 = 0) = false by simp, show k + (1 + n) = n + (k + 1) by omega, show 1 + n + k = n + (k + 1) by omega]
theorem drop_end {S : ByteArray} {k : Nat} (h : S.size ≤ k) : S.data.toList.drop k = [] := List.drop_eq_nil_of_le h
theorem resAt_end {f : Nat} {S : ByteArray} {k : Nat} (h : S.size ≤ k) : resAt f S k = some k := by
  unfold resAt; rw [drop_end h]; simp [tyRes]
theorem resAt_sep {f : Nat} {S : ByteArray} {k : Nat} (h : k < S.size) (hc : S[k] = 44 ∨ S[k] = 41) : resAt f S k = some k := by
  unfold resAt; rw [byl_drop S k h]; simp [tyRes, hc]
theorem resAt_ty {f : Nat} {S : ByteArray} {k : Nat} (h : k < S.size) (hc : ¬ (S[k] = 44 ∨ S[k] = 41)) : resAt f S k = tyAt f S k := by
  unfold resAt tyAt; rw [byl_drop S k h, tyRes, if_neg hc]
theorem tw_hit {L : List UInt8} {j : Nat} (hj : j < tyW.length) (h0 : (tyW.take j).find? (fun w => w.isPrefixOf L) = none) (h : tyW[j].isPrefixOf L = true) : tyWord L = some tyW[j].length := by
  unfold tyWord
  have e : tyW = tyW.take j ++ tyW[j] :: tyW.drop (j + 1) := by
    rw [← List.drop_eq_getElem_cons hj, List.take_append_drop]
  have : tyW.find? (fun w => w.isPrefixOf L) = some tyW[j] := by
    conv => lhs; rw [e]
    rw [List.find?_append, h0, Option.none_or, List.find?_cons, h]
  rw [this]; rfl
theorem tw_miss {L : List UInt8} {j : Nat} (hj : j < tyW.length) (h0 : (tyW.take j).find? (fun w => w.isPrefixOf L) = none) (h : tyW[j].isPrefixOf L = false) : (tyW.take (j + 1)).find? (fun w => w.isPrefixOf L) = none := by
  rw [List.take_succ_eq_append_getElem hj, List.find?_append, h0, Option.none_or, List.find?_cons, h]
  rfl
theorem tw_none {L : List UInt8} (h0 : (tyW.take 6).find? (fun w => w.isPrefixOf L) = none) : tyWord L = none := by
  unfold tyWord
  rw [show tyW.take 6 = tyW from rfl] at h0
  rw [h0]; rfl
theorem hasB_one {S : ByteArray} {k : Nat} (h : k < S.size) (c : UInt8) : hasB S k ⟨#[c]⟩ = decide (S[k] = c) := by
  unfold hasB
  rw [byl_drop S k h, Bool.eq_iff_iff]
  show (c == S[k] && List.isPrefixOf [] _) = true ↔ _
  rw [List.isPrefixOf_nil_left, Bool.and_true, beq_iff_eq, decide_eq_true_iff, eq_comm]
theorem hasB_out {S : ByteArray} {k : Nat} (h : S.size ≤ k) (c : UInt8) : hasB S k ⟨#[c]⟩ = false := by
  unfold hasB
  rw [drop_end h]
  rfl
end Go.Proofs.YtkpejdkffkhekaaGreatDoor
