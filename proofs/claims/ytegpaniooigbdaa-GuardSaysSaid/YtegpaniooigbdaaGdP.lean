/- Which instructions are guarded, in plain Lean; 'guard.Need' whole. Conditions: none. -/
import Derived.Test.YtegpaniooigbdaaCdD
import Derived.Test.YtegpaniooigbdaaNeed
import Derived.Test.YtegpaniooigbdaaGuard1
import Derived.Test.YtegpaniooigbdaaGuard2
import Derived.Test.YtegpaniooigbdaaMapI
set_option maxRecDepth 20000
namespace Go.Proofs.Ytegpaniooigbdaa
open Go.ChangeShapes Go.WideShapes Go.ChangeAt Go.RowKit
theorem getM_setM' (l : List (Int × Value)) (k : Int) (v : Value) (q : Int) : getM (setM l k v) q = if k = q then some v else getM l q := by
  induction l with
  | nil => simp [setM, getM]
  | cons a r ih =>
    obtain ⟨a, x⟩ := a
    unfold setM
    by_cases h : a = k
    · subst h
      rw [if_pos rfl]
      by_cases hq : a = q <;> simp [getM, hq]
    · rw [if_neg h]
      by_cases hq : a = q
      · subst hq
        simp [getM, Ne.symm h]
      · simp only [getM, hq, if_false]
        exact ih
/-- Does some instruction go to the place? -/
def tgtIn (l : List II) (t : Int) : Bool := l.any fun i => tgtB i.o && decide (tgtN i.o i.a i.b = t)
def unitV : Value := .agg #[]
/-- The places, as a set. -/
def goalsM (l : List II) : List (Int × Value) := l.foldl (fun acc i => if tgtB i.o = true then setM acc (tgtN i.o i.a i.b) unitV else acc) []
theorem goalsM_snoc (l : List II) (i : II) : goalsM (l ++ [i]) = if tgtB i.o = true then setM (goalsM l) (tgtN i.o i.a i.b) unitV else goalsM l := by
  unfold goalsM
  rw [List.foldl_append]
  rfl
theorem tgtIn_snoc (l : List II) (i : II) (t : Int) : tgtIn (l ++ [i]) t = (tgtIn l t || (tgtB i.o && decide (tgtN i.o i.a i.b = t))) := by
  unfold tgtIn
  rw [List.any_append]
  simp
theorem rev_ind {P : List II → Prop} (h0 : P []) (h1 : ∀ l i, P l → P (l ++ [i])) (l : List II) : P l := by
  have key : ∀ n (l : List II), l.length = n → P l := by
    intro n
    induction n with
    | zero => intro l hl; obtain rfl := List.eq_nil_of_length_eq_zero hl; exact h0
    | succ n ih =>
      intro l hl
      have hne : l ≠ [] := by intro e; subst e; simp at hl
      rw [← List.dropLast_concat_getLast hne]
      exact h1 _ _ (ih _ (by rw [List.length_dropLast, hl]; rfl))
  exact key _ l rfl
theorem goals_get (l : List II) (t : Int) : getM (goalsM l) t = if tgtIn l t = true then some unitV else none := by
  refine rev_ind (P := fun l => getM (goalsM l) t = if tgtIn l t = true then some unitV else none) rfl (fun l i ih => ?_) l
  rw [goalsM_snoc, tgtIn_snoc]
  cases hb : tgtB i.o with
  | false => simpa using ih
  | true =>
    rw [if_pos rfl, getM_setM']
    by_cases ht : tgtN i.o i.a i.b = t
    · simp [ht]
    · rw [if_neg ht, ih]
      simp [ht]
/-- How often. -/
def cntIn (l : List II) (t : Int) : Nat := (l.filter fun i => tgtB i.o && decide (tgtN i.o i.a i.b = t)).length
theorem cnt_pos (l : List II) (t : Int) : decide (0 < cntIn l t) = tgtIn l t := by
  unfold cntIn tgtIn
  induction l with
  | nil => rfl
  | cons i r ih =>
    rw [List.filter_cons, List.any_cons]
    split
    · rename_i h; rw [h]; simp
    · rename_i h; rw [ih]; simp only [Bool.not_eq_true] at h; rw [h]; rfl
theorem cnt_le (l : List II) (t : Int) : cntIn l t ≤ l.length := List.length_filter_le _ _
/-- The check that an instruction needs. -/
def needV (o a b c d : Int) : Option (Int × Int × Int × Int) :=
  if o = 7 then (if d = 4 ∨ d = 5 then some (c, 0, 0, 4) else if d = 6 ∨ d = 7 then some (c, 0, 0, 5) else none)
  else if o = 17 then (if 100 < c then some (c, 0, 0, 10) else none)
  else if o = 11 then some (b, c, 0, 8)
  else if o = 13 then some (b, c, 0, 1)
  else if o = 14 then some (a, b, 0, 2)
  else if o = 15 then some (b, c, d, 3)
  else if o = 16 then some (b, 0, 0, 9)
  else if o = 19 then some (b, 0, 0, 6)
  else if o = 20 then some (a, 0, 0, 6)
  else if o = 23 then some (b, 0, 0, 11)
  else if o = 28 then some (b, d, 0, 7)
  else if o = 31 then some (a, 0, 0, 12)
  else none
def needI (o a b c d : Int) : Value := match needV o a b c d with | some r => ins 24 r.1 r.2.1 r.2.2.1 r.2.2.2 0 | none => ins 0 0 0 0 0 0
def needB (o a b c d : Int) : Bool := (needV o a b c d).isSome
theorem need_both (o a b c d e : Int) (w : World) : Calls Try.prog 132 #[ins o a b c d e] w (NeedPost (needI o a b c d) (needB o a b c d) w) ∧ Calls Try.prog 93 #[ins o a b c d e] w (NeedPost (needI o a b c d) (needB o a b c d) w) := by
  unfold needI needB needV
  by_cases h7 : o = 7
  · subst h7
    rw [if_pos rfl]
    by_cases hd : d = 4 ∨ d = 5
    · rw [if_pos hd]
      exact ⟨guardNeed_div a b c d e hd w, refNeed_div a b c d e hd w⟩
    · rw [if_neg hd]
      by_cases hd2 : d = 6 ∨ d = 7
      · rw [if_pos hd2]
        exact ⟨guardNeed_shf a b c d e hd2 w, refNeed_shf a b c d e hd2 w⟩
      · rw [if_neg hd2]
        have h4 : (d == 4) = false := by simp; omega
        have h5 : (d == 5) = false := by simp; omega
        have h6 : (d == 6) = false := by simp; omega
        have h7 : (d == 7) = false := by simp; omega
        exact ⟨guardNeed_op0 a b c d e h4 h5 h6 h7 w, refNeed_op0 a b c d e h4 h5 h6 h7 w⟩
  · rw [if_neg h7]
    by_cases h17 : o = 17
    · subst h17
      rw [if_pos rfl]
      by_cases hc : 100 < c
      · rw [if_pos hc]
        exact ⟨guardNeed_lst a b c d e hc w, refNeed_lst a b c d e hc w⟩
      · rw [if_neg hc]
        exact ⟨guardNeed_ls0 a b c d e (by omega) w, refNeed_ls0 a b c d e (by omega) w⟩
    · rw [if_neg h17]
      by_cases h11 : o = 11
      · subst h11; rw [if_pos rfl]; exact ⟨guardNeed_cat a b c d e w, refNeed_cat a b c d e w⟩
      rw [if_neg h11]
      by_cases h13 : o = 13
      · subst h13; rw [if_pos rfl]; exact ⟨guardNeed_idx a b c d e w, refNeed_idx a b c d e w⟩
      rw [if_neg h13]
      by_cases h14 : o = 14
      · subst h14; rw [if_pos rfl]; exact ⟨guardNeed_set a b c d e w, refNeed_set a b c d e w⟩
      rw [if_neg h14]
      by_cases h15 : o = 15
      · subst h15; rw [if_pos rfl]; exact ⟨guardNeed_cut a b c d e w, refNeed_cut a b c d e w⟩
      rw [if_neg h15]
      by_cases h16 : o = 16
      · subst h16; rw [if_pos rfl]; exact ⟨guardNeed_app a b c d e w, refNeed_app a b c d e w⟩
      rw [if_neg h16]
      by_cases h19 : o = 19
      · subst h19; rw [if_pos rfl]; exact ⟨guardNeed_get a b c d e w, refNeed_get a b c d e w⟩
      rw [if_neg h19]
      by_cases h20 : o = 20
      · subst h20; rw [if_pos rfl]; exact ⟨guardNeed_put a b c d e w, refNeed_put a b c d e w⟩
      rw [if_neg h20]
      by_cases h23 : o = 23
      · subst h23; rw [if_pos rfl]; exact ⟨guardNeed_toi a b c d e w, refNeed_toi a b c d e w⟩
      rw [if_neg h23]
      by_cases h28 : o = 28
      · subst h28; rw [if_pos rfl]; exact ⟨guardNeed_cal a b c d e w, refNeed_cal a b c d e w⟩
      rw [if_neg h28]
      by_cases h31 : o = 31
      · subst h31; rw [if_pos rfl]; exact ⟨guardNeed_pan a b c d e w, refNeed_pan a b c d e w⟩
      rw [if_neg h31]
      exact ⟨guardNeed_els o a b c d e (by simpa using h7) (by simpa using h11) (by simpa using h13) (by simpa using h14) (by simpa using h15) (by simpa using h16) (by simpa using h17) (by simpa using h19) (by simpa using h23) (by simpa using h20) (by simpa using h28) (by simpa using h31) w, refNeed_els o a b c d e (by simpa using h7) (by simpa using h11) (by simpa using h13) (by simpa using h14) (by simpa using h15) (by simpa using h16) (by simpa using h17) (by simpa using h19) (by simpa using h23) (by simpa using h20) (by simpa using h28) (by simpa using h31) w⟩
theorem ins_neq (o a b c d e p q r s t u : Int) (w : World) : Sem.run Try.prog (binOp BinOp.neq 132 (ins o a b c d e) (ins p q r s t u)) w = .ok (.bool (!decide (o = p ∧ a = q ∧ b = r ∧ c = s ∧ d = t ∧ e = u))) w := by
  simp [go_sem]
  by_cases h0 : o = p <;> by_cases h1 : a = q <;> by_cases h2 : b = r <;> by_cases h3 : c = s <;> by_cases h4 : d = t <;> by_cases h5 : e = u <;> simp [h0, h1, h2, h3, h4, h5]
/-- What must stand behind an instruction does. -/
def afterOk (l : List II) (k : Nat) (x : II) : Bool := decide (afterF x.o = 0) || (match l[k + 1]? with | some y => decide (y.o = afterF x.o) | none => false)
/-- What must stand ahead of it does. -/
def aheadOk (l : List II) (k : Nat) (x : II) : Bool :=
  match needV x.o x.a x.b x.c x.d with
  | none => true
  | some r => decide (2 ≤ k) && (match l[k - 1]? with | some y => decide (y.o = 25) | none => false) && (match l[k - 2]? with | some y => decide (y.o = 24 ∧ y.a = r.1 ∧ y.b = r.2.1 ∧ y.c = r.2.2.1 ∧ y.d = r.2.2.2 ∧ y.e = 0) | none => false) && !tgtIn l (k : Int) && !tgtIn l ((k : Int) - 1)
def rightB (l : List II) (k : Nat) : Bool := match l[k]? with | some x => afterOk l k x && aheadOk l k x | none => true
end Go.Proofs.Ytegpaniooigbdaa
