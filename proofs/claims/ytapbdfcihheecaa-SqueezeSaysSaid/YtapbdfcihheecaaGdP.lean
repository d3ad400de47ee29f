/- Which instructions are guarded, in plain Lean; 'guard.Need' whole. Conditions: none. -/
import Derived.Test.YtapbdfcihheecaaCdD
import Derived.Test.YtapbdfcihheecaaNeed
import Derived.Test.YtapbdfcihheecaaGuard1
import Derived.Test.YtapbdfcihheecaaGuard2
import Derived.Test.YtapbdfcihheecaaMapI
set_option maxRecDepth 20000
namespace Go.Proofs.Ytapbdfcihheecaa
open Go.ChangeShapes Go.WideShapes Go.ChangeAt Go.RowKit
theorem getM_setM' (l : List (Int × Value)) (k : Int) (v : Value) (q : Int) : getM (setM l k v) q = if k = q then some v else getM l q := by
  induction l with
  | nil => simp [setM, getM]
  | cons a r ih =>
    obtain ⟨a, x⟩ := a
    unfold setM
    by_cases h : a = k
    · subst h
      rw [if_pos rfl]
      by_cases hq : a = q <;> simp [getM, hq]
    · rw [if_neg h]
      by_cases hq : a = q
      · subst hq
        simp [getM, Ne.symm h]
      · simp only [getM, hq, if_false]
        exact ih
/-- Does some instruction go to the place? -/
def tgtIn (l : List II) (t : Int) : Bool := l.any fun i => tgtB i.o && decide (tgtN i.o i.a i.b = t)
def unitV : Value := .agg #[]
/-- The places, as a set. -/
def goalsM (l : List II) : List (Int × Value) := l.foldl (fun acc i => if tgtB i.o = true then setM acc (tgtN i.o i.a i.b) unitV else acc) []
theorem goalsM_snoc (l : List II) (i : II) : goalsM (l ++ [i]) = if tgtB i.o = true then setM (goalsM l) (tgtN i.o i.a i.b) unitV else goalsM l := by
  unfold goalsM
  rw [List.foldl_append]
  rfl
theorem tgtIn_snoc (l : List II) (i : II) (t : Int) : tgtIn (l ++ [i]) t = (tgtIn l t || (tgtB i.o && decide (tgtN i.o i.a i.b = t))) := by
  unfold tgtIn
  rw [List.any_append]
  simp
theorem rev_ind {P : List II → Prop} (h0 : P []) (h1 : ∀ l i, P l → P (l ++ [i])) (l : List II) : P l := by
  have key : ∀ n (l : List II), l.length = n → P l := by
    intro n
    induction n with
    | zero => intro l hl; obtain rfl := List.eq_nil_of_length_eq_zero hl; exact h0
    | succ n ih =>
      intro l hl
      have hne : l ≠ [] := by intro e; subst e; simp at hl
      rw [← List.dropLast_concat_getLast hne]
      exact h1 _ _ (ih _ (by rw [List.length_dropLast, hl]; rfl))
  exact key _ l rfl
theorem goals_get (l : List II) (t : Int) : getM (goalsM l) t = if tgtIn l t = true then some unitV else none := by
  refine rev_ind (P := fun l => getM (goalsM l) t = if tgtIn l t = true then some unitV else none) rfl (fun l i ih => ?_) l
  rw [goalsM_snoc, tgtIn_snoc]
  cases hb : tgtB i.o with
  | false => simpa using ih
  | true =>
    rw [if_pos rfl, getM_setM']
    by_cases ht : tgtN i.o i.a i.b = t
    · simp [ht]
    · rw [if_neg ht, ih]
      simp [ht]
/-- How often. -/
def cntIn (l : List II) (t : Int) : Nat := (l.filter fun i => tgtB i.o && decide (tgtN i.o i.a i.b = t)).length
theorem cnt_pos (l : List II) (t : Int) : decide (0 < cntIn l t) = tgtIn l t := by
  unfold cntIn tgtIn
  induction l with
  | nil => rfl
  | cons i r ih =>
    rw [List.filter_cons, List.any_cons]
    split
    · rename_i h; rw [h]; simp
    · rename_i h; rw [ih]; simp only [Bool.not_eq_true] at h; rw [h]; rfl
theorem cnt_le (l : List II) (t : Int) : cntIn l t ≤ l.length := List.length_filter_le _ _
/-- The check that an instruction needs. -/
def needV (o a b c d : Int) : Option (Int × Int × Int × Int) :=
  if o = 7 then (if d = 4 ∨ d = 5 then some (c, 0, 0, 4) else if d = 6 ∨ d = 7 then some (c, 0, 0, 5) else none)
  else if o = 17 then (if 100 < c then some (c, 0, 0, 10) else none)
  else if o = 11 then some (b, c, 0, 8)
  else if o = 13 then some (b, c, 0, 1)
  else if o = 14 then some (a, b, 0, 2)
  else if o = 15 then some (b, c, d, 3)
  else if o = 16 then some (b, 0, 0, 9)
  else if o = 19 then some (b, 0, 0, 6)
  else if o = 20 then some (a, 0, 0, 6)
  else if o = 23 then some (b, 0, 0, 11)
  else if o = 28 then some (b, d, 0, 7)
  else if o = 31 then some (a, 0, 0, 12)
  else none
def needI (o a b c d : Int) : Value := match needV o a b c d with | some r => ins 24 r.1 r.2.1 r.2.2.1 r.2.2.2 0 | none => ins 0 0 0 0 0 0
def needB (o a b c d : Int) : Bool := (needV o a b c d).isSome
theorem ins_neq (o a b c d e p q r s t u : Int) (w : World) : Sem.run Try.prog (binOp BinOp.neq 126 (ins o a b c d e) (ins p q r s t u)) w = .ok (.bool (!decide (o = p ∧ a = q ∧ b = r ∧ c = s ∧ d = t ∧ e = u))) w := by
  simp [go_sem]
  by_cases h0 : o = p <;> by_cases h1 : a = q <;> by_cases h2 : b = r <;> by_cases h3 : c = s <;> by_cases h4 : d = t <;> by_cases h5 : e = u <;> simp [h0, h1, h2, h3, h4, h5]
/-- What must stand behind an instruction does. -/
def afterOk (l : List II) (k : Nat) (x : II) : Bool := decide (afterF x.o = 0) || (match l[k + 1]? with | some y => decide (y.o = afterF x.o) | none => false)
/-- What must stand ahead of it does. -/
def aheadOk (l : List II) (k : Nat) (x : II) : Bool :=
  match needV x.o x.a x.b x.c x.d with
  | none => true
  | some r => decide (2 ≤ k) && (match l[k - 1]? with | some y => decide (y.o = 25) | none => false) && (match l[k - 2]? with | some y => decide (y.o = 24 ∧ y.a = r.1 ∧ y.b = r.2.1 ∧ y.c = r.2.2.1 ∧ y.d = r.2.2.2 ∧ y.e = 0) | none => false) && !tgtIn l (k : Int) && !tgtIn l ((k : Int) - 1)
def rightB (l : List II) (k : Nat) : Bool := match l[k]? with | some x => afterOk l k x && aheadOk l k x | none => true
end Go.Proofs.Ytapbdfcihheecaa
