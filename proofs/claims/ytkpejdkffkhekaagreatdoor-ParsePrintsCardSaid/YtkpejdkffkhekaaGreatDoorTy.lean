/- Plain: the types of the language, as lists of bytes. Conditions: none. -/
import Derived.WalkKit
namespace Go.Proofs.YtkpejdkffkhekaaGreatDoor
open Go
/-- The words that are types. -/
def tyW : List (List UInt8) := [[105, 110, 116], [98, 111, 111, 108], [115, 116, 114, 105, 110, 103], [97, 110, 121], [91, 93, 105, 110, 116], [42, 105, 110, 116]]
def tyF : List UInt8 := [102, 117, 110, 99, 40]
/-- How many bytes the type's word has that a list begins with. -/
def tyWord (L : List UInt8) : Option Nat := (tyW.find? fun w => w.isPrefixOf L).map List.length
/-- A function's result, from here on. -/
def tyRes (T : List UInt8 → Option Nat) (L : List UInt8) : Option Nat := match L with
  | [] => some 0
  | c :: r => if c = 44 ∨ c = 41 then some 0 else T (c :: r)
/-- A function's parameters, k of them at most, and its result; 'b': none is read yet. -/
def tyPars (T : List UInt8 → Option Nat) : Nat → Bool → List UInt8 → Option Nat
  | 0, _, L => if [41].isPrefixOf L then (tyRes T (L.drop 1)).map (· + 1) else none
  | k + 1, b, L => if [41].isPrefixOf L then (tyRes T (L.drop 1)).map (· + 1)
      else if b then (T L).bind fun n => (tyPars T k false (L.drop n)).map (· + n)
      else if [44].isPrefixOf L then (T (L.drop 1)).bind fun n => (tyPars T k false (L.drop (1 + n))).map (· + (1 + n)) else none
/-- How many bytes the type has that a list begins with. -/
def ty : Nat → List UInt8 → Option Nat
  | 0, _ => none
  | f + 1, L => match tyWord L with
    | some n => some n
    | none => if tyF.isPrefixOf L then (tyPars (ty f) 4 true (L.drop 5)).map (· + 5) else none
theorem pre_len {w L : List UInt8} (h : w.isPrefixOf L = true) : w.length ≤ L.length := by
  rw [List.isPrefixOf_iff_prefix] at h
  exact h.length_le
theorem tyWord_le {L : List UInt8} {n : Nat} (h : tyWord L = some n) : 0 < n ∧ n ≤ L.length := by
  unfold tyWord at h
  rw [Option.map_eq_some_iff] at h
  obtain ⟨w, hw, rfl⟩ := h
  have h1 := List.mem_of_find?_eq_some hw
  have h2 := List.find?_some hw
  refine ⟨?_, pre_len h2⟩
  simp [tyW] at h1
  rcases h1 with rfl | rfl | rfl | rfl | rfl | rfl <;> simp
theorem tyRes_le {T : List UInt8 → Option Nat} (hT : ∀ L n, T L = some n → 0 < n ∧ n ≤ L.length) {L : List UInt8} {n : Nat} (h : tyRes T L = some n) : n ≤ L.length := by
  unfold tyRes at h
  split at h
  · simp at h; omega
  · split at h
    · simp at h; omega
    · exact (hT _ _ h).2
theorem tyPars_le {T : List UInt8 → Option Nat} (hT : ∀ L n, T L = some n → 0 < n ∧ n ≤ L.length) : ∀ (k : Nat) (b : Bool) (L : List UInt8) (n : Nat), tyPars T k b L = some n → 0 < n ∧ n ≤ L.length := by
  have close : ∀ {L : List UInt8} {n : Nat}, [41].isPrefixOf L = true → (tyRes T (L.drop 1)).map (· + 1) = some n → 0 < n ∧ n ≤ L.length := by
    intro L n hp h
    have := pre_len hp
    rw [Option.map_eq_some_iff] at h
    obtain ⟨m, hm, rfl⟩ := h
    have := tyRes_le hT hm
    simp at *; omega
  intro k
  induction k with
  | zero =>
    intro b L n h
    rw [tyPars] at h
    by_cases hp : [41].isPrefixOf L = true
    · rw [if_pos hp] at h; exact close hp h
    · rw [if_neg hp] at h; cases h
  | succ k ih =>
    intro b L n h
    rw [tyPars] at h
    by_cases hp : [41].isPrefixOf L = true
    · rw [if_pos hp] at h; exact close hp h
    · rw [if_neg hp] at h
      by_cases hb : b = true
      · rw [if_pos hb, Option.bind_eq_some_iff] at h
        obtain ⟨a, ha, h⟩ := h
        rw [Option.map_eq_some_iff] at h
        obtain ⟨m, hm, rfl⟩ := h
        have h1 := hT _ _ ha
        have h2 := ih _ _ _ hm
        simp at *; omega
      · rw [if_neg hb] at h
        by_cases hq : [44].isPrefixOf L = true
        · rw [if_pos hq, Option.bind_eq_some_iff] at h
          have := pre_len hq
          obtain ⟨a, ha, h⟩ := h
          rw [Option.map_eq_some_iff] at h
          obtain ⟨m, hm, rfl⟩ := h
          have h1 := hT _ _ ha
          have h2 := ih _ _ _ hm
          simp at *; omega
        · rw [if_neg hq] at h; cases h
theorem ty_le : ∀ (f : Nat) (L : List UInt8) (n : Nat), ty f L = some n → 0 < n ∧ n ≤ L.length
  | 0, _, _, h => by cases h
  | f + 1, L, n, h => by
    unfold ty at h
    split at h
    · rename_i m hm
      injection h with h
      subst h
      exact tyWord_le hm
    · split at h
      · rename_i hp
        have := pre_len hp
        rw [Option.map_eq_some_iff] at h
        obtain ⟨m, hm, rfl⟩ := h
        have := tyPars_le (ty_le f) _ _ _ _ hm
        simp [tyF] at *; omega
      · cases h
/-- A text's bytes. -/
def byl (s : ByteArray) : List UInt8 := s.data.toList
/-- Is a text a type? -/
def tyValid (s : ByteArray) : Bool := decide (s.size ≤ 100) && decide (ty (s.size + 1) (byl s) = some s.size)
end Go.Proofs.YtkpejdkffkhekaaGreatDoor
