/- What the program wants of a node's kids, against the document's word (plain). Conditions: none. -/
import Derived.Test.YtkpejdkffkhekaaGreatDoorPgB
namespace Go.Proofs.YtkpejdkffkhekaaGreatDoor
inductive FV where
  | only (k : Int)
  | expr
  | orNone
  | stated
  | blIf
def fvP : FV → Int → Bool
  | .only k, x => decide (x = k)
  | .expr, x => isE x
  | .orNone, x => isE x || decide (x = 31)
  | .stated, x => decide (5 ≤ x ∧ x ≤ 15)
  | .blIf, x => decide (x = 5 ∨ x = 10)
/-- Is it a kind at all? -/
def known (k : Int) : Bool := decide (1 ≤ k ∧ k ≤ 15 ∨ 21 ≤ k ∧ k ≤ 33)
def wnL (n : ND) : List FV :=
  if n.kind = 1 then List.replicate n.kids.length (.only 2)
  else if n.kind = 2 ∨ n.kind = 33 then List.replicate (min (max n.num 0) 4).toNat (.only 3) ++ [.only 4, .only 5]
  else if n.kind = 5 then List.replicate n.kids.length .stated
  else if n.kind = 7 ∨ n.kind = 26 then [.expr]
  else if n.kind = 8 ∨ n.kind = 27 ∨ n.kind = 29 then [.expr, .expr]
  else if n.kind = 9 ∨ n.kind = 15 then [.only 28]
  else if n.kind = 10 then [.expr, .only 5] ++ (if n.kids.length = 3 then [.blIf] else [])
  else if n.kind = 11 then (if n.kids.length = 2 then [.expr] else []) ++ [.only 5]
  else if n.kind = 14 then (if n.kids.length = 1 then [.expr] else [])
  else if n.kind = 28 then .expr :: List.replicate (n.kids.length - 1) .expr
  else if n.kind = 30 then [.expr, .orNone, .orNone]
  else if n.kind = 32 then List.replicate n.kids.length .expr
  else []
def okW (n : ND) : Bool := known n.kind && decide ((wnL n).length = n.kids.length)
def prgN (n : ND) : Bool := okW n && !(decide (n.kind = 23) && decide (n.num < 0 ∨ 1 < n.num)) && !(decide (n.kind = 2 ∨ n.kind = 33) && decide (n.num ≠ (n.kids.length : Int) - 2))
theorem kind_cases (k : Int) (h : known k = true) : k = 1 ∨ k = 2 ∨ k = 3 ∨ k = 4 ∨ k = 5 ∨ k = 6 ∨ k = 7 ∨ k = 8 ∨ k = 9 ∨ k = 10 ∨ k = 11 ∨ k = 12 ∨ k = 13 ∨ k = 14 ∨ k = 15 ∨ k = 21 ∨ k = 22 ∨ k = 23 ∨ k = 24 ∨ k = 25 ∨ k = 26 ∨ k = 27 ∨ k = 28 ∨ k = 29 ∨ k = 30 ∨ k = 31 ∨ k = 32 ∨ k = 33 := by
  unfold known at h
  simp only [decide_eq_true_eq] at h
  omega
theorem cntN_known {n : ND} (h : known n.kind = false) : cntN n = false := by
  unfold known at h
  simp only [decide_eq_false_iff_not] at h
  unfold cntN
  repeat rw [if_neg (by omega)]
theorem prgN_eq (n : ND) : prgN n = cntN n := by
  cases hk : known n.kind with
  | false =>
    rw [cntN_known hk]
    unfold prgN okW
    rw [hk]
    rfl
  | true =>
    obtain ⟨kd, tx, ty, nm, ks⟩ := n
    simp only at hk
    rcases kind_cases kd hk with rfl | rfl | rfl | rfl | rfl | rfl | rfl | rfl | rfl | rfl | rfl | rfl | rfl | rfl | rfl | rfl | rfl | rfl | rfl | rfl | rfl | rfl | rfl | rfl | rfl | rfl | rfl | rfl
    all_goals (
      unfold prgN okW cntN wnL
      rw [hk]
      clear hk
      simp only [Bool.true_and, Int.reduceEq, if_true, if_false, or_true, or_false, decide_true, decide_false, Bool.false_and, Bool.not_false, Bool.and_true, or_self, List.length_replicate, List.length_append, List.length_cons, List.length_nil])
    all_goals first
      | rfl
      | (rw [Bool.eq_iff_iff]; simp; omega)
      | (rw [Bool.eq_iff_iff]; simp; split <;> simp <;> omega)
      | exact decide_eq_decide.2 eq_comm
      | (rw [Bool.eq_iff_iff]; simp only [Bool.and_eq_true, decide_eq_true_eq, Bool.not_eq_true', decide_eq_false_iff_not]; omega)
theorem fv_kid {n : ND} (h : cntN n = true) {i : Nat} (hi : i < n.kids.length) (x : Int) : ((wnL n)[i]?).map (fun f => fvP f x) = some (kidN n i x) := by
  have hp := prgN_eq n
  rw [h] at hp
  unfold prgN okW at hp
  simp only [Bool.and_eq_true, decide_eq_true_eq] at hp
  obtain ⟨⟨⟨hk, hl⟩, _⟩, h2⟩ := hp
  obtain ⟨kd, tx, ty, nm, ks⟩ := n
  simp only at hk hi h2 hl ⊢
  rcases kind_cases kd hk with rfl | rfl | rfl | rfl | rfl | rfl | rfl | rfl | rfl | rfl | rfl | rfl | rfl | rfl | rfl | rfl | rfl | rfl | rfl | rfl | rfl | rfl | rfl | rfl | rfl | rfl | rfl | rfl
  all_goals (
    clear hk h
    revert hl h2
    unfold wnL kidN
    simp only [Int.reduceEq, if_true, if_false, or_true, or_false, decide_true, decide_false, Bool.true_and, Bool.false_and, Bool.not_false, or_self, List.length_replicate, List.length_append, List.length_cons, List.length_nil]
    intro h2 hl)
  all_goals first
    | (exfalso; omega)
    | (rw [List.getElem?_replicate, if_pos (by omega)]; rfl)
    | (rcases i with _ | _ | _ | i <;> first | rfl | (exfalso; omega))
    | (by_cases h3 : ks.length = 3
       · rw [if_pos h3]; rcases i with _ | _ | _ | i <;> first | rfl | (exfalso; omega)
       · rw [if_neg h3]; rw [if_neg h3] at hl; simp at hl; rcases i with _ | _ | _ | i <;> first | rfl | (exfalso; omega))
    | (by_cases h3 : ks.length = 2
       · rw [if_pos h3, h3]; rcases i with _ | _ | i <;> first | rfl | (exfalso; omega)
       · rw [if_neg h3]; rw [if_neg h3] at hl; simp at hl; rw [← hl]; rcases i with _ | i <;> first | rfl | (exfalso; omega))
    | (by_cases h3 : ks.length = 1
       · rw [if_pos h3]; rcases i with _ | i <;> first | rfl | (exfalso; omega)
       · rw [if_neg h3] at hl; simp at hl; exfalso; omega)
    | (rcases i with _ | i
       · rfl
       · rw [List.getElem?_cons_succ, List.getElem?_replicate, if_pos (by omega)]; rfl)
    | (simp only [Bool.not_eq_true', decide_eq_false_iff_not, Decidable.not_not] at h2
       by_cases h3 : (i : Int) < nm
       · rw [List.getElem?_append_left (by rw [List.length_replicate]; omega), List.getElem?_replicate, if_pos (by omega), if_neg (by omega), if_neg (by omega)]; rfl
       · rw [List.getElem?_append_right (by rw [List.length_replicate]; omega), List.length_replicate]
         by_cases h4 : (i : Int) = nm
         · rw [if_pos h4, show i - (min (max nm 0) 4).toNat = 0 by omega]; rfl
         · rw [if_neg h4, if_pos (by omega), show i - (min (max nm 0) 4).toNat = 1 by omega]; rfl)
    | trace_state
end Go.Proofs.YtkpejdkffkhekaaGreatDoor
