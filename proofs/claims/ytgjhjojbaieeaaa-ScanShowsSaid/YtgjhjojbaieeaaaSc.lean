/- Plain: a source cut into tokens, step by step; whoever follows the steps comes to the same end. Conditions: none. -/
import Derived.Test.YtgjhjojbaieeaaaWordsA
import Derived.Test.YtgjhjojbaieeaaaTextA
import Derived.Test.YtgjhjojbaieeaaaRead
namespace Go.Proofs.Ytgjhjojbaieeaaa
open Go
/-- A token: its kind, its text, its line and column. -/
structure Tk where
  k : Int
  s : ByteArray
  l : Int
  c : Int
def isL (c : UInt8) : Bool := (decide (97 ≤ c.toNat) && decide (c.toNat ≤ 122)) || (decide (65 ≤ c.toNat) && decide (c.toNat ≤ 90)) || decide (c.toNat = 95)
def isD (c : UInt8) : Bool := decide (48 ≤ c.toNat) && decide (c.toNat ≤ 57)
def isA (c : UInt8) : Bool := isL c || isD c
/-- How many letters and digits stand at the begin. -/
def alen (L : List UInt8) : Nat := (L.takeWhile isA).length
/-- How many bytes stand ahead of the line's end. -/
def llen (L : List UInt8) : Nat := (L.takeWhile (fun c => !decide (c = 10))).length
def sg2 : List (List UInt8) := [[60, 60], [62, 62], [38, 38], [124, 124], [61, 61], [33, 61], [60, 61], [62, 61], [58, 61]]
def sg1 : List UInt8 := [43, 45, 42, 47, 37, 38, 124, 94, 60, 62, 61, 40, 41, 123, 125, 91, 93, 44, 58, 33]
/-- The longest sign at the begin. -/
def signV (L : List UInt8) : List UInt8 := if L.take 2 ∈ sg2 then L.take 2 else if sg1.contains (L.headD 0) = true ∧ L ≠ [] then L.take 1 else []
/-- The place of a byte: line and column. -/
def placeF (p : Nat × Nat) (c : UInt8) : Nat × Nat := if c = 10 then (p.1 + 1, 1) else (p.1, p.2 + 1)
def place (L : List UInt8) : Nat × Nat := L.foldl placeF (1, 1)
/-- What stands at the begin. -/
inductive St where
  | nl
  | skip (n : Nat)
  | tok (k : Int) (n : Nat)
  | err (c : Int)
def stepS (L : List UInt8) : St :=
  let b := L.headD 0
  if b = 10 then .nl else if b = 32 ∨ b = 9 ∨ b = 13 then .skip 1 else if L.take 2 = [47, 47] then .skip (llen L)
  else if isL b = true then (if 16 < alen L then .err 7 else .tok (if wordB (L.take (alen L)) = true then 5 else 1) (alen L))
  else if isD b = true then (if (rd ((L.take (alen L)).map UInt8.toNat)).isNone = true then .err 3 else .tok 2 (alen L))
  else if b = 34 then (if textLen L = 0 then .err 4 else .tok 3 (textLen L))
  else if b = 59 then .tok 6 1
  else if signV L = [] then .err 2 else .tok 4 (signV L).length
def endW : List (List UInt8) := [[98, 114, 101, 97, 107], [99, 111, 110, 116, 105, 110, 117, 101], [114, 101, 116, 117, 114, 110], [116, 114, 117, 101], [102, 97, 108, 115, 101], [110, 105, 108], [105, 110, 116], [98, 111, 111, 108], [115, 116, 114, 105, 110, 103], [97, 110, 121]]
/-- May a statement end behind a token? -/
def endsT (k : Int) (s : List UInt8) : Bool := decide (k = 1) || decide (k = 2) || decide (k = 3) || (decide (k = 4) && (decide (s = [41]) || decide (s = [93]) || decide (s = [125]))) || (decide (k = 5) && endW.contains s)
def lastEnds (T : List Tk) : Bool := match T.getLast? with | some t => endsT t.k t.s.data.toList | none => false
def tkAt (L : List UInt8) (p : Nat) (k : Int) (s : List UInt8) : Tk := ⟨k, ⟨s.toArray⟩, ((place (L.take p)).1 : Int), ((place (L.take p)).2 : Int)⟩
/-- A token more, unless there are as many as may be. -/
def addT (L : List UInt8) (p : Nat) (T : List Tk) (k : Int) (s : List UInt8) : Option (List Tk) := if T.length = 2000 then none else some (T ++ [tkAt L p k s])
/-- A line's end. -/
def semiT (L : List UInt8) (p : Nat) (T : List Tk) : Option (List Tk) := if lastEnds T = true then addT L p T 6 [59] else some T
/-- One step: what is wrong, or where it goes on, with which tokens. -/
def nx (L : List UInt8) (p : Nat) (T : List Tk) : Except Int (Nat × List Tk) :=
  match stepS (L.drop p) with
  | .nl => match semiT L p T with | none => .error 15 | some T' => .ok (p + 1, T')
  | .skip n => .ok (p + n, T)
  | .tok k n => match addT L p T k ((L.drop p).take n) with | none => .error 15 | some T' => .ok (p + n, T')
  | .err c => .error c
inductive Res where
  | ok (T : List Tk)
  | bad (c : Int) (p : Nat × Nat)
inductive Runs (L : List UInt8) : Nat → List Tk → Res → Prop
  | step {p p' : Nat} {T T' : List Tk} {R : Res} : p < L.length → nx L p T = .ok (p', T') → Runs L p' T' R → Runs L p T R
  | bad {p : Nat} {T : List Tk} {c : Int} : p < L.length → nx L p T = .error c → Runs L p T (.bad c (place (L.take p)))
  | fin {p : Nat} {T T' : List Tk} : L.length ≤ p → semiT L p T = some T' → Runs L p T (.ok T')
  | full {p : Nat} {T : List Tk} : L.length ≤ p → semiT L p T = none → Runs L p T (.bad 15 (place (L.take p)))
theorem Runs.same {L : List UInt8} {p : Nat} {T : List Tk} {R R' : Res} (h : Runs L p T R) : Runs L p T R' → R = R' := by
  induction h with
  | step h1 h2 _ ih =>
    intro h'
    cases h' with
    | step _ g2 g3 =>
      rw [h2] at g2
      injection g2 with g2
      injection g2 with g2 g4
      subst g2 g4
      exact ih g3
    | bad _ g2 => rw [h2] at g2; cases g2
    | fin g1 _ => omega
    | full g1 _ => omega
  | bad h1 h2 =>
    intro h'
    cases h' with
    | step _ g2 _ => rw [h2] at g2; cases g2
    | bad _ g2 => rw [h2] at g2; injection g2 with g2; rw [g2]
    | fin g1 _ => omega
    | full g1 _ => omega
  | fin h1 h2 =>
    intro h'
    cases h' with
    | step g1 _ _ => omega
    | bad g1 _ => omega
    | fin _ g2 => rw [h2] at g2; injection g2 with g2; rw [g2]
    | full _ g2 => rw [h2] at g2; cases g2
  | full h1 h2 =>
    intro h'
    cases h' with
    | step g1 _ _ => omega
    | bad g1 _ => omega
    | fin _ g2 => rw [h2] at g2; cases g2
    | full _ _ => rfl
/-! ### places -/
theorem place_snoc (L : List UInt8) (c : UInt8) : place (L ++ [c]) = placeF (place L) c := by unfold place; rw [List.foldl_append]; rfl
theorem fold_plain : ∀ (B : List UInt8) (p : Nat × Nat), (∀ c ∈ B, c ≠ 10) → B.foldl placeF p = (p.1, p.2 + B.length)
  | [], p, _ => rfl
  | c :: B, p, h => by
    rw [List.foldl_cons, fold_plain B _ fun d hd => h d (List.mem_cons_of_mem _ hd)]
    unfold placeF
    rw [if_neg (h c (by simp))]
    simp
    omega
theorem place_plain (A B : List UInt8) (h : ∀ c ∈ B, c ≠ 10) : place (A ++ B) = ((place A).1, (place A).2 + B.length) := by
  unfold place
  rw [List.foldl_append, fold_plain B _ h]
theorem take_more (L : List UInt8) (p n : Nat) : L.take (p + n) = L.take p ++ (L.drop p).take n := by
  rw [List.take_add]
theorem place_step {L : List UInt8} {p n : Nat} (hn : n ≤ (L.drop p).length) (h : ∀ c ∈ (L.drop p).take n, c ≠ 10) : place (L.take (p + n)) = ((place (L.take p)).1, (place (L.take p)).2 + n) := by
  rw [take_more, place_plain _ _ h, List.length_take, Nat.min_eq_left hn]
theorem place_nl {L : List UInt8} {p : Nat} (hp : p < L.length) (h : (L.drop p).headD 0 = 10) : place (L.take (p + 1)) = ((place (L.take p)).1 + 1, 1) := by
  rw [List.drop_eq_getElem_cons hp] at h
  rw [List.take_succ_eq_append_getElem hp, place_snoc, show L[p] = 10 from h]
  rfl
theorem fold_pos : ∀ (B : List UInt8) (p : Nat × Nat), 1 ≤ p.2 → (B.foldl placeF p).1 ≤ p.1 + B.length ∧ (B.foldl placeF p).2 ≤ p.2 + B.length ∧ 1 ≤ (B.foldl placeF p).2
  | [], p, h => ⟨Nat.le_refl _, Nat.le_refl _, h⟩
  | c :: B, p, h => by
    rw [List.foldl_cons]
    have h1 : 1 ≤ (placeF p c).2 := by unfold placeF; split <;> simp
    obtain ⟨a, b, d⟩ := fold_pos B (placeF p c) h1
    have h2 : (placeF p c).1 ≤ p.1 + 1 ∧ (placeF p c).2 ≤ p.2 + 1 := by unfold placeF; split <;> simp
    rw [List.length_cons]
    omega
theorem place_pos (L : List UInt8) : (place L).1 ≤ L.length + 1 ∧ (place L).2 ≤ L.length + 1 := by
  have := fold_pos L (1, 1) (Nat.le_refl _)
  unfold place
  omega
end Go.Proofs.Ytgjhjojbaieeaaa
