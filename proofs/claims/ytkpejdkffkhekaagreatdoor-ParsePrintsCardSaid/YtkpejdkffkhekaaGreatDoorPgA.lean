/- Trees of nodes, plain: where the nodes beneath a node begin. Conditions: none. -/
import Derived.Test.YtkpejdkffkhekaaGreatDoorBase
namespace Go.Proofs.YtkpejdkffkhekaaGreatDoor
structure ND where
  kind : Int
  text : ByteArray
  typ : ByteArray
  num : Int
  kids : List Int
/-- How many kids a node may have. -/
def cntN (n : ND) : Bool :=
  if n.kind = 1 ∨ n.kind = 5 ∨ n.kind = 32 then true
  else if n.kind = 2 ∨ n.kind = 33 then decide (0 ≤ n.num ∧ n.num ≤ 4 ∧ (n.kids.length : Int) = n.num + 2)
  else if n.kind = 7 ∨ n.kind = 26 ∨ n.kind = 9 ∨ n.kind = 15 then decide (n.kids.length = 1)
  else if n.kind = 8 ∨ n.kind = 27 ∨ n.kind = 29 then decide (n.kids.length = 2)
  else if n.kind = 10 then decide (n.kids.length = 2 ∨ n.kids.length = 3)
  else if n.kind = 11 then decide (n.kids.length = 1 ∨ n.kids.length = 2)
  else if n.kind = 14 then decide (n.kids.length < 2)
  else if n.kind = 28 then decide (0 < n.kids.length)
  else if n.kind = 30 then decide (n.kids.length = 3)
  else if n.kind = 23 then decide (n.kids.length = 0 ∧ (n.num = 0 ∨ n.num = 1))
  else if n.kind = 3 ∨ n.kind = 4 ∨ n.kind = 6 ∨ n.kind = 12 ∨ n.kind = 13 ∨ n.kind = 21 ∨ n.kind = 22 ∨ n.kind = 24 ∨ n.kind = 25 ∨ n.kind = 31 then decide (n.kids.length = 0)
  else false
/-- Is it an expression? -/
def isE (k : Int) : Bool := decide (21 ≤ k ∧ k ≤ 33 ∧ k ≠ 31)
/-- May the kid i of a node be of a kind? -/
def kidN (n : ND) (i : Nat) (k : Int) : Bool :=
  if n.kind = 1 then decide (k = 2)
  else if n.kind = 2 ∨ n.kind = 33 then (if (i : Int) = n.num then decide (k = 4) else if (i : Int) = n.num + 1 then decide (k = 5) else decide (k = 3))
  else if n.kind = 5 then decide (5 ≤ k ∧ k ≤ 15)
  else if n.kind = 9 ∨ n.kind = 15 then decide (k = 28)
  else if n.kind = 10 then (if i = 0 then isE k else if i = 1 then decide (k = 5) else decide (k = 5 ∨ k = 10))
  else if n.kind = 11 then (if i + 1 = n.kids.length then decide (k = 5) else isE k)
  else if n.kind = 30 then (if i = 0 then isE k else isE k || decide (k = 31))
  else isE k
/-- The kids from the last one on: each stands right ahead of what is beneath the one behind it. -/
def backK (T : List ND) (st : Nat → Option Nat) (n : ND) : Nat → Nat → Option Nat
  | 0, next => some next
  | i + 1, next => match n.kids[i]? with
    | none => none
    | some k => if k + 1 = (next : Int) ∧ 0 ≤ k then (match T[k.toNat]? with
        | none => none
        | some m => if kidN n i m.kind then (match st k.toNat with
            | some s => backK T st n i s
            | none => none) else none) else none
def stepNd (T : List ND) (st : Nat → Option Nat) (k : Nat) : Option Nat := match T[k]? with
  | none => none
  | some n => if cntN n then backK T st n n.kids.length k else none
def stsL (T : List ND) : Nat → List (Option Nat)
  | 0 => []
  | m + 1 => stsL T m ++ [stepNd T (fun j => ((stsL T m)[j]?).join) m]
def startOf (T : List ND) (k : Nat) : Option Nat := stepNd T (fun j => ((stsL T k)[j]?).join) k
theorem stsL_len (T : List ND) (m : Nat) : (stsL T m).length = m := by
  induction m with
  | zero => rfl
  | succ m ih => simp [stsL, ih]
theorem stsL_get (T : List ND) (m j : Nat) (h : j < m) : (stsL T m)[j]? = some (startOf T j) := by
  induction m with
  | zero => omega
  | succ m ih =>
    unfold stsL
    by_cases hj : j < m
    · rw [List.getElem?_append_left (by rw [stsL_len]; exact hj), ih hj]
    · obtain rfl : j = m := by omega
      rw [List.getElem?_append_right (by rw [stsL_len]; exact Nat.le_refl _), stsL_len, Nat.sub_self]
      rfl
theorem backK_congr {T : List ND} {st st' : Nat → Option Nat} {n : ND} : ∀ (i next : Nat), (∀ j, j < next → st j = st' j) → (∀ j s, j < next → st j = some s → s ≤ j) → backK T st n i next = backK T st' n i next
  | 0, _, _, _ => rfl
  | i + 1, next, h, hs => by
    simp only [backK]
    cases n.kids[i]? with
    | none => rfl
    | some k =>
      simp only
      by_cases hk : k + 1 = (next : Int) ∧ 0 ≤ k
      · rw [if_pos hk, if_pos hk]
        cases T[k.toNat]? with
        | none => rfl
        | some m =>
          simp only
          by_cases hm : kidN n i m.kind
          · rw [if_pos hm, if_pos hm, ← h k.toNat (by omega)]
            cases hq : st k.toNat with
            | none => rfl
            | some s =>
              simp only
              have := hs k.toNat s (by omega) hq
              exact backK_congr i s (fun j hj => h j (by omega)) (fun j t hj ht => hs j t (by omega) ht)
          · rw [if_neg hm, if_neg hm]
      · rw [if_neg hk, if_neg hk]
theorem backK_le {T : List ND} {st : Nat → Option Nat} {n : ND} : ∀ (i next a : Nat), (∀ j s, j < next → st j = some s → s ≤ j) → backK T st n i next = some a → a ≤ next
  | 0, next, a, _, h => by
    simp only [backK] at h
    injection h with h
    omega
  | i + 1, next, a, hs, h => by
    simp only [backK] at h
    cases hk : n.kids[i]? with
    | none => rw [hk] at h; cases h
    | some k =>
      rw [hk] at h
      simp only at h
      split at h
      · rename_i hkk
        cases hT : T[k.toNat]? with
        | none => rw [hT] at h; cases h
        | some m =>
          rw [hT] at h
          simp only at h
          split at h
          · cases hq : st k.toNat with
            | none => rw [hq] at h; cases h
            | some s =>
              rw [hq] at h
              simp only at h
              have h1 := hs k.toNat s (by omega) hq
              have := backK_le i s a (fun j t hj ht => hs j t (by omega) ht) h
              omega
          · cases h
      · cases h
theorem startOf_le {T : List ND} : ∀ (k a : Nat), startOf T k = some a → a ≤ k := by
  intro k
  induction k using Nat.strongRecOn with
  | _ k ih =>
    intro a h
    unfold startOf stepNd at h
    cases hT : T[k]? with
    | none => rw [hT] at h; cases h
    | some n =>
      rw [hT] at h
      simp only at h
      split at h
      · refine backK_le _ _ _ (fun j s hj hs => ?_) h
        rw [stsL_get T k j hj] at hs
        exact ih j hj s hs
      · cases h
/-- The start, by the starts of the nodes ahead. -/
theorem startOf_eq (T : List ND) (k : Nat) : startOf T k = stepNd T (startOf T) k := by
  unfold startOf
  show stepNd T _ k = stepNd T (startOf T) k
  unfold stepNd
  cases T[k]? with
  | none => rfl
  | some n =>
    simp only
    split
    · refine backK_congr _ _ (fun j hj => ?_) fun j s hj hs => ?_
      · rw [stsL_get T k j hj]; rfl
      · rw [stsL_get T k j hj] at hs
        exact startOf_le j s hs
    · rfl
end Go.Proofs.YtkpejdkffkhekaaGreatDoor
