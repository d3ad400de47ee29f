/- ScP: Sc ScA ScPut ScEnd ScLine ScRefA ScName ScNum ScQ ScText Pfx0 PfxA ScRefC. Conditions: each text's own. -/
import Derived.Test.YtjegfimagjmpdaaGreatDoorTx
import Derived.Handy
import Derived.Deep.RegionHeld3
import Derived.Deep.QuietTactic
import Derived.BigQuiet
import Derived.StillTailTactics
import Derived.Test.YtjegfimagjmpdaaGreatDoorBase
import Derived.Test.YtjegfimagjmpdaaGreatDoorBigA
section
/- Plain: a source cut into tokens, step by step; whoever follows the steps comes to the same end. Conditions: none. -/
namespace Go.Proofs.YtjegfimagjmpdaaGreatDoor
open Go
/-- A token: its kind, its text, its line and column. -/
structure Tk where
  k : Int
  s : ByteArray
  l : Int
  c : Int
def isL (c : UInt8) : Bool := (decide (97 ≤ c.toNat) && decide (c.toNat ≤ 122)) || (decide (65 ≤ c.toNat) && decide (c.toNat ≤ 90)) || decide (c.toNat = 95)
def isD (c : UInt8) : Bool := decide (48 ≤ c.toNat) && decide (c.toNat ≤ 57)
def isA (c : UInt8) : Bool := isL c || isD c
/-- How many letters and digits stand at the begin. -/
def alen (L : List UInt8) : Nat := (L.takeWhile isA).length
/-- How many bytes stand ahead of the line's end. -/
def llen (L : List UInt8) : Nat := (L.takeWhile (fun c => !decide (c = 10))).length
def sg2 : List (List UInt8) := [[60, 60], [62, 62], [38, 38], [124, 124], [61, 61], [33, 61], [60, 61], [62, 61], [58, 61]]
def sg1 : List UInt8 := [43, 45, 42, 47, 37, 38, 124, 94, 60, 62, 61, 40, 41, 123, 125, 91, 93, 44, 58, 33]
/-- The longest sign at the begin. -/
def signV (L : List UInt8) : List UInt8 := if L.take 2 ∈ sg2 then L.take 2 else if sg1.contains (L.headD 0) = true ∧ L ≠ [] then L.take 1 else []
/-- The place of a byte: line and column. -/
def placeF (p : Nat × Nat) (c : UInt8) : Nat × Nat := if c = 10 then (p.1 + 1, 1) else (p.1, p.2 + 1)
def place (L : List UInt8) : Nat × Nat := L.foldl placeF (1, 1)
/-- What stands at the begin. -/
inductive St where
  | nl
  | skip (n : Nat)
  | tok (k : Int) (n : Nat)
  | err (c : Int)
def stepS (L : List UInt8) : St :=
  let b := L.headD 0
  if b = 10 then .nl else if b = 32 ∨ b = 9 ∨ b = 13 then .skip 1 else if L.take 2 = [47, 47] then .skip (llen L)
  else if isL b = true then (if 16 < alen L then .err 7 else .tok (if wordB (L.take (alen L)) = true then 5 else 1) (alen L))
  else if isD b = true then (if (rd ((L.take (alen L)).map UInt8.toNat)).isNone = true then .err 3 else .tok 2 (alen L))
  else if b = 34 then (if textLen L = 0 then .err 4 else .tok 3 (textLen L))
  else if b = 59 then .tok 6 1
  else if signV L = [] then .err 2 else .tok 4 (signV L).length
def endW : List (List UInt8) := [[98, 114, 101, 97, 107], [99, 111, 110, 116, 105, 110, 117, 101], [114, 101, 116, 117, 114, 110], [116, 114, 117, 101], [102, 97, 108, 115, 101], [110, 105, 108], [105, 110, 116], [98, 111, 111, 108], [115, 116, 114, 105, 110, 103], [97, 110, 121]]
/-- May a statement end behind a token? -/
def endsT (k : Int) (s : List UInt8) : Bool := decide (k = 1) || decide (k = 2) || decide (k = 3) || (decide (k = 4) && (decide (s = [41]) || decide (s = [93]) || decide (s = [125]))) || (decide (k = 5) && endW.contains s)
def lastEnds (T : List Tk) : Bool := match T.getLast? with | some t => endsT t.k t.s.data.toList | none => false
def tkAt (L : List UInt8) (p : Nat) (k : Int) (s : List UInt8) : Tk := ⟨k, ⟨s.toArray⟩, ((place (L.take p)).1 : Int), ((place (L.take p)).2 : Int)⟩
/-- A token more, unless there are as many as may be. -/
def addT (L : List UInt8) (p : Nat) (T : List Tk) (k : Int) (s : List UInt8) : Option (List Tk) := if T.length = 2000 then none else some (T ++ [tkAt L p k s])
/-- A line's end. -/
def semiT (L : List UInt8) (p : Nat) (T : List Tk) : Option (List Tk) := if lastEnds T = true then addT L p T 6 [59] else some T
/-- One step: what is wrong, or where it goes on, with which tokens. -/
def nx (L : List UInt8) (p : Nat) (T : List Tk) : Except Int (Nat × List Tk) :=
  match stepS (L.drop p) with
  | .nl => match semiT L p T with | none => .error 15 | some T' => .ok (p + 1, T')
  | .skip n => .ok (p + n, T)
  | .tok k n => match addT L p T k ((L.drop p).take n) with | none => .error 15 | some T' => .ok (p + n, T')
  | .err c => .error c
inductive Res where
  | ok (T : List Tk)
  | bad (c : Int) (p : Nat × Nat)
inductive Runs (L : List UInt8) : Nat → List Tk → Res → Prop
  | step {p p' : Nat} {T T' : List Tk} {R : Res} : p < L.length → nx L p T = .ok (p', T') → Runs L p' T' R → Runs L p T R
  | bad {p : Nat} {T : List Tk} {c : Int} : p < L.length → nx L p T = .error c → Runs L p T (.bad c (place (L.take p)))
  | fin {p : Nat} {T T' : List Tk} : L.length ≤ p → semiT L p T = some T' → Runs L p T (.ok T')
  | full {p : Nat} {T : List Tk} : L.length ≤ p → semiT L p T = none → Runs L p T (.bad 15 (place (L.take p)))
theorem Runs.same {L : List UInt8} {p : Nat} {T : List Tk} {R R' : Res} (h : Runs L p T R) : Runs L p T R' → R = R' := by
  induction h with
  | step h1 h2 _ ih =>
    intro h'
    cases h' with
    | step _ g2 g3 =>
      rw [h2] at g2
      injection g2 with g2
      injection g2 with g2 g4
      subst g2 g4
      exact ih g3
    | bad _ g2 => rw [h2] at g2; cases g2
    | fin g1 _ => omega
    | full g1 _ => omega
  | bad h1 h2 =>
    intro h'
    cases h' with
    | step _ g2 _ => rw [h2] at g2; cases g2
    | bad _ g2 => rw [h2] at g2; injection g2 with g2; rw [g2]
    | fin g1 _ => omega
    | full g1 _ => omega
  | fin h1 h2 =>
    intro h'
    cases h' with
    | step g1 _ _ => omega
    | bad g1 _ => omega
    | fin _ g2 => rw [h2] at g2; injection g2 with g2; rw [g2]
    | full _ g2 => rw [h2] at g2; cases g2
  | full h1 h2 =>
    intro h'
    cases h' with
    | step g1 _ _ => omega
    | bad g1 _ => omega
    | fin _ g2 => rw [h2] at g2; cases g2
    | full _ _ => rfl
/-! ### places -/
theorem place_snoc (L : List UInt8) (c : UInt8) : place (L ++ [c]) = placeF (place L) c := by unfold place; rw [List.foldl_append]; rfl
theorem fold_plain : ∀ (B : List UInt8) (p : Nat × Nat), (∀ c ∈ B, c ≠ 10) → B.foldl placeF p = (p.1, p.2 + B.length)
  | [], p, _ => rfl
  | c :: B, p, h => by
    rw [List.foldl_cons, fold_plain B _ fun d hd => h d (List.mem_cons_of_mem _ hd)]
    unfold placeF
    rw [if_neg (h c (by simp))]
    simp
    omega
theorem place_plain (A B : List UInt8) (h : ∀ c ∈ B, c ≠ 10) : place (A ++ B) = ((place A).1, (place A).2 + B.length) := by
  unfold place
  rw [List.foldl_append, fold_plain B _ h]
theorem take_more (L : List UInt8) (p n : Nat) : L.take (p + n) = L.take p ++ (L.drop p).take n := by
  rw [List.take_add]
theorem place_step {L : List UInt8} {p n : Nat} (hn : n ≤ (L.drop p).length) (h : ∀ c ∈ (L.drop p).take n, c ≠ 10) : place (L.take (p + n)) = ((place (L.take p)).1, (place (L.take p)).2 + n) := by
  rw [take_more, place_plain _ _ h, List.length_take, Nat.min_eq_left hn]
theorem place_nl {L : List UInt8} {p : Nat} (hp : p < L.length) (h : (L.drop p).headD 0 = 10) : place (L.take (p + 1)) = ((place (L.take p)).1 + 1, 1) := by
  rw [List.drop_eq_getElem_cons hp] at h
  rw [List.take_succ_eq_append_getElem hp, place_snoc, show L[p] = 10 from h]
  rfl
theorem fold_pos : ∀ (B : List UInt8) (p : Nat × Nat), 1 ≤ p.2 → (B.foldl placeF p).1 ≤ p.1 + B.length ∧ (B.foldl placeF p).2 ≤ p.2 + B.length ∧ 1 ≤ (B.foldl placeF p).2
  | [], p, h => ⟨Nat.le_refl _, Nat.le_refl _, h⟩
  | c :: B, p, h => by
    rw [List.foldl_cons]
    have h1 : 1 ≤ (placeF p c).2 := by unfold placeF; split <;> simp
    obtain ⟨a, b, d⟩ := fold_pos B (placeF p c) h1
    have h2 : (placeF p c).1 ≤ p.1 + 1 ∧ (placeF p c).2 ≤ p.2 + 1 := by unfold placeF; split <;> simp
    rw [List.length_cons]
    omega
theorem place_pos (L : List UInt8) : (place L).1 ≤ L.length + 1 ∧ (place L).2 ≤ L.length + 1 := by
  have := fold_pos L (1, 1) (Nat.le_refl _)
  unfold place
  omega
end Go.Proofs.YtjegfimagjmpdaaGreatDoor
end
section
/- Letters and digits, of the program and of the document. Conditions: none. -/
set_option maxRecDepth 20000
namespace Go.Proofs.YtjegfimagjmpdaaGreatDoor
open Go.ChangeShapes Go.WideShapes Go.ChangeAt Go.RowKit
theorem isL_iff (c : UInt8) : isL c = true ↔ (97 ≤ c.toNat ∧ c.toNat ≤ 122) ∨ (65 ≤ c.toNat ∧ c.toNat ≤ 90) ∨ c.toNat = 95 := by
  unfold isL; simp only [Bool.or_eq_true, Bool.and_eq_true, decide_eq_true_eq, or_assoc]
theorem isD_iff (c : UInt8) : isD c = true ↔ 48 ≤ c.toNat ∧ c.toNat ≤ 57 := by
  unfold isD; simp only [Bool.and_eq_true, decide_eq_true_eq]
theorem b_eq {a : Bool} {p : Prop} [Decidable p] (h : a = true ↔ p) : a = decide p := by
  by_cases hp : p
  · rw [decide_eq_true hp]; exact h.2 hp
  · rw [decide_eq_false hp]; cases a
    · rfl
    · exact absurd (h.1 rfl) hp
theorem letter_any (c : UInt8) (w : World) : Calls Tryz.prog 94 #[.int .u8 (c.toNat : Int)] w fun e w' => e = .returned (.bool (isL c)) ∧ w' = w := by
  have HL := Lib.hid (b_eq (isL_iff c))
  have hc : c.toNat < 256 := c.toNat_lt
  generalize isL c = r at *
  generalize c.toNat = n at *
  go_enter Tryz.func94, Tryz.ntmps94
  go_wp2
  all_goals
    go_ret
    refine ⟨?_, rfl⟩
    rw [HL.out]
    refine congrArg (fun b => Ending.returned (Value.bool b)) ?_
    rw [Bool.eq_iff_iff]
    simp
    omega
theorem digit_any (c : UInt8) (w : World) : Calls Tryz.prog 96 #[.int .u8 (c.toNat : Int)] w fun e w' => e = .returned (.bool (isD c)) ∧ w' = w := by
  have HL := Lib.hid (b_eq (isD_iff c))
  have hc : c.toNat < 256 := c.toNat_lt
  generalize isD c = r at *
  generalize c.toNat = n at *
  go_enter Tryz.func96, Tryz.ntmps96
  go_wp2
  all_goals
    go_ret
    refine ⟨?_, rfl⟩
    rw [HL.out]
    refine congrArg (fun b => Ending.returned (Value.bool b)) ?_
    rw [Bool.eq_iff_iff]
    simp
    omega
theorem refDigit_any (c : UInt8) (w : World) : Calls Tryz.prog 82 #[.int .u8 (c.toNat : Int)] w fun e w' => e = .returned (.bool (isD c)) ∧ w' = w := by
  have HL := Lib.hid (b_eq (isD_iff c))
  have hc : c.toNat < 256 := c.toNat_lt
  generalize isD c = r at *
  generalize c.toNat = n at *
  go_enter Tryz.func82, Tryz.ntmps82
  go_wp2
  all_goals
    go_ret
    refine ⟨?_, rfl⟩
    rw [HL.out]
    refine congrArg (fun b => Ending.returned (Value.bool b)) ?_
    rw [Bool.eq_iff_iff]
    simp
    omega
theorem or32_tab : ∀ n, n < 256 → n ||| 32 < 256 ∧ ((97 ≤ n ||| 32 ∧ n ||| 32 ≤ 122) ↔ ((97 ≤ n ∧ n ≤ 122) ∨ (65 ≤ n ∧ n ≤ 90))) := by decide +kernel
theorem or8u (a b : Nat) (ha : a < 256) (hb : b < 256) (h : a ||| b < 256) : bits .or .u8 (a : Int) (b : Int) = ((a ||| b : Nat) : Int) := by
  show IntKind.u8.wrap ((BitVec.ofInt 8 (a : Int) ||| BitVec.ofInt 8 (b : Int)).toNat : Int) = _
  have e : ∀ q : Nat, q < 256 → (BitVec.ofInt 8 (q : Int)).toNat = q := fun q hq => by
    rw [BitVec.ofInt_natCast, BitVec.toNat_ofNat]; exact Nat.mod_eq_of_lt (by omega)
  rw [BitVec.toNat_or, e a ha, e b hb, IntKind.wrap_u8]
  omega
theorem refLetter_any (c : UInt8) (w : World) : Calls Tryz.prog 81 #[.int .u8 (c.toNat : Int)] w fun e w' => e = .returned (.bool (isL c)) ∧ w' = w := by
  have hc : c.toNat < 256 := c.toNat_lt
  obtain ⟨h1, h2⟩ := or32_tab c.toNat hc
  have HL := Lib.hid (b_eq (isL_iff c))
  have ho : bits .or .u8 (c.toNat : Int) 32 = ((c.toNat ||| 32 : Nat) : Int) := or8u c.toNat 32 hc (by omega) h1
  have HT := Lib.hid h2
  generalize isL c = r at *
  generalize c.toNat ||| 32 = m at *
  generalize c.toNat = n at *
  clear h2
  go_enter Tryz.func81, Tryz.ntmps81
  go_wp2
  all_goals
    go_ret
    refine ⟨?_, rfl⟩
    rw [HL.out]
    have hT := HT.out
    refine congrArg (fun b => Ending.returned (Value.bool b)) ?_
    rw [Bool.eq_iff_iff]
    simp
    omega
/-- Tokens, as cells. -/
def tkC (T : List Tk) : List Value := T.flatMap fun t => [.int .i64 t.k, .string t.s, .int .i64 t.l, .int .i64 t.c]
theorem tkC_len (T : List Tk) : (tkC T).length = T.length * 4 := by
  unfold tkC
  induction T with
  | nil => rfl
  | cons t r ih => simp [List.flatMap_cons, ih]; omega
theorem tkC_one (T : List Tk) : ∀ u ∈ tkC T, u.oneCell' = true := by
  intro u hu
  unfold tkC at hu
  obtain ⟨t, _, hu⟩ := List.mem_flatMap.1 hu
  simp at hu
  rcases hu with rfl | rfl | rfl | rfl <;> rfl
/-- The cutter at block g: the source, the place, the tokens so far. -/
structure Cu (w : World) (g : Nat) (src : ByteArray) (p l c : Int) (v : Value) (T : List Tk) : Prop where
  c0 : w.cell? ⟨g, 0, none⟩ = some (.string src)
  c1 : w.cell? ⟨g, 1, none⟩ = some (.int .i64 p)
  c2 : w.cell? ⟨g, 2, none⟩ = some (.int .i64 l)
  c3 : w.cell? ⟨g, 3, none⟩ = some (.int .i64 c)
  c4 : w.cell? ⟨g, 4, none⟩ = some v
  fz : ∀ k, w.frozen? ⟨g, k, none⟩ = false
  row : w.ownsRow (g + 1) 125 4 v T.length (tkC T)
/-- The panic value. -/
def stopV (code l c : Int) : Value := .iface 135 (.agg #[.int .i64 code, .int .i64 l, .int .i64 c])
def stopE (code l c : Int) : Ending := .panicked [{ v := stopV code l c, recovered := false }]
theorem fail_any (g : Nat) (l c code : Int) (w : World) (h2 : w.cell? ⟨g, 2, none⟩ = some (.int .i64 l)) (h3 : w.cell? ⟨g, 3, none⟩ = some (.int .i64 c)) :
    Calls Tryz.prog 101 #[.pointer (some ⟨g, 0, none⟩), .int .i64 code] w fun e w' => e = stopE code l c ∧ ∃ n, w' = w.drewN n := by
  go_enter Tryz.func101, Tryz.ntmps101
  go_wp2_with fail
  go_still_tail 12, (by kernel_rfl)
  change wpList _ _ _ _ _ w.drew
  generalize hw3 : w.drew = w3 at *
  go_wp2_with fail
  exact ⟨rfl, rfl, 1, hw3.symm⟩
end Go.Proofs.YtjegfimagjmpdaaGreatDoor
end
section
/- The cutter in memory: 'put'. Printed by gen_scput.py. Conditions: none. -/
set_option maxRecDepth 20000
namespace Go.Proofs.YtjegfimagjmpdaaGreatDoor
open Go.ChangeShapes Go.WideShapes Go.ChangeAt Go.RowKit
theorem info_tok : (Tryz.prog.info? 125).map (fun i => (i.zero, i.size, i.bytes)) = some (some (.agg #[.int .i64 0, .string ByteArray.empty, .int .i64 0, .int .i64 0]), 4, 40) := by kernel_rfl
def PuP (b16 b17 b20 : Bool) (W : World) (g N : Nat) (k : Int) (s : ByteArray) (l c : Int) (T : List Tk) (v2 : Value) (w : World) : Prop :=
  (b16 = false → b17 = false ∧ b20 = false ∧ w = W.drew) ∧ (b16 = true → b17 = false → b20 = false ∧ w = W.drew.alloc (.cells #[.int .i64 k, .string s, .int .i64 l, .int .i64 c] 125)) ∧
  (b17 = true → b20 = false → w.ownsRow (g + 1) 125 4 v2 (N + 1) (tkC T ++ [.int .i64 k, .string s, .int .i64 l, .int .i64 c]) ∧ Below (g + 1) W w) ∧
  (b20 = true → ∃ w1 : World, w1.ownsRow (g + 1) 125 4 v2 (N + 1) (tkC T ++ [.int .i64 k, .string s, .int .i64 l, .int .i64 c]) ∧ Below (g + 1) W w1 ∧ w = w1.setCell ⟨g, 4, none⟩ v2)
theorem tkC_snoc (T : List Tk) (k : Int) (s : ByteArray) (l c : Int) : tkC (T ++ [⟨k, s, l, c⟩]) = tkC T ++ [.int .i64 k, .string s, .int .i64 l, .int .i64 c] := by simp [tkC]
theorem own_cell {w : World} {base : Nat} {e : TypeId} {size : Nat} {v : Value} {n : Nat} {xs : List Value} (h : w.ownsRow base e size v n xs) {a : Addr} (ha : a.block < base) (u : Value) : (w.setCell a u).ownsRow base e size v n xs := by
  refine ⟨h.1, ?_⟩
  rcases h.2 with h2 | ⟨g, cap, cur, rfl, hb, hg, r⟩
  · exact .inl h2
  · exact .inr ⟨g, cap, cur, rfl, hb, by rw [Below.heap_setCell _ _ _ _ (by omega)]; exact hg, r⟩
theorem Cu.upd {w1 : World} {g : Nat} {src : ByteArray} {p l c p' c' : Int} {v v' : Value} {T' : List Tk} (d0 : w1.cell? ⟨g, 0, none⟩ = some (.string src)) (d1 : w1.cell? ⟨g, 1, none⟩ = some (.int .i64 p)) (d2 : w1.cell? ⟨g, 2, none⟩ = some (.int .i64 l)) (d3 : w1.cell? ⟨g, 3, none⟩ = some (.int .i64 c)) (d4 : w1.cell? ⟨g, 4, none⟩ = some v) (ef : ∀ j, w1.frozen? ⟨g, j, none⟩ = false) (hr : w1.ownsRow (g + 1) 125 4 v' T'.length (tkC T')) :
    Cu (((w1.setCell ⟨g, 4, none⟩ v').setCell ⟨g, 1, none⟩ (.int .i64 p')).setCell ⟨g, 3, none⟩ (.int .i64 c')) g src p' l c' v' T' := by
  have e4 : (w1.setCell ⟨g, 4, none⟩ v').cell? ⟨g, 1, none⟩ = some (.int .i64 p) := by rw [World.cell?_setCell_other _ _ _ _ (by simp)]; exact d1
  have e1 : ((w1.setCell ⟨g, 4, none⟩ v').setCell ⟨g, 1, none⟩ (.int .i64 p')).cell? ⟨g, 3, none⟩ = some (.int .i64 c) := by rw [World.cell?_setCell_other _ _ _ _ (by simp), World.cell?_setCell_other _ _ _ _ (by simp)]; exact d3
  refine ⟨?_, ?_, ?_, World.cell?_setCell_same _ _ _ e1, ?_, fun k => by simpa using ef k, own_cell (own_cell (own_cell hr (by simp) _) (by simp) _) (by simp) _⟩
  · rw [World.cell?_setCell_other _ _ _ _ (by simp), World.cell?_setCell_other _ _ _ _ (by simp), World.cell?_setCell_other _ _ _ _ (by simp)]; exact d0
  · rw [World.cell?_setCell_other _ _ _ _ (by simp)]; exact World.cell?_setCell_same _ _ _ e4
  · rw [World.cell?_setCell_other _ _ _ _ (by simp), World.cell?_setCell_other _ _ _ _ (by simp), World.cell?_setCell_other _ _ _ _ (by simp)]; exact d2
  · rw [World.cell?_setCell_other _ _ _ _ (by simp), World.cell?_setCell_other _ _ _ _ (by simp)]; exact World.cell?_setCell_same _ _ _ d4
section
variable {W w w' : World} {g N n : Nat} {k l c : Int} {s : ByteArray} {T : List Tk} {v2 V : Value} {b16 b17 b20 : Bool}
theorem PuP.zero : PuP false false false W g N k s l c T v2 W.drew := ⟨(fun _ => ⟨rfl, rfl, rfl⟩), (fun h => by cases h), (fun h => by cases h), (fun h => by cases h)⟩
theorem PuP.one : PuP true false false W g N k s l c T v2 (W.drew.alloc (.cells #[.int .i64 k, .string s, .int .i64 l, .int .i64 c] 125)) := ⟨(fun h => by cases h), (fun _ _ => ⟨rfl, rfl⟩), (fun h => by cases h), (fun h => by cases h)⟩
theorem PuP.two (h : w.ownsRow (g + 1) 125 4 v2 (N + 1) (tkC T ++ [.int .i64 k, .string s, .int .i64 l, .int .i64 c])) (hb : Below (g + 1) W w) : PuP true true false W g N k s l c T v2 w := ⟨(fun h => by cases h), (fun _ h => by cases h), (fun _ _ => ⟨h, hb⟩), (fun h => by cases h)⟩
theorem PuP.three (h : w.ownsRow (g + 1) 125 4 v2 (N + 1) (tkC T ++ [.int .i64 k, .string s, .int .i64 l, .int .i64 c])) (hb : Below (g + 1) W w) : PuP true true true W g N k s l c T v2 (w.setCell ⟨g, 4, none⟩ v2) := ⟨(fun h => by cases h), (fun _ h => by cases h), (fun _ h => by cases h), (fun _ => ⟨w, h, hb, rfl⟩)⟩
theorem PuP.w0 (h : PuP b16 b17 b20 W g N k s l c T v2 w) (hb : b16 = false) : w = W.drew := (h.1 hb).2.2
theorem PuP.w1 (h : PuP b16 b17 b20 W g N k s l c T v2 w) (hb : b16 = true) (h17 : b17 = false) : w = W.drew.alloc (.cells #[.int .i64 k, .string s, .int .i64 l, .int .i64 c] 125) := (h.2.1 hb h17).2
theorem PuP.w2 (h : PuP b16 b17 b20 W g N k s l c T v2 w) (hb : b17 = true) (h20 : b20 = false) : w.ownsRow (g + 1) 125 4 v2 (N + 1) (tkC T ++ [.int .i64 k, .string s, .int .i64 l, .int .i64 c]) ∧ Below (g + 1) W w := h.2.2.1 hb h20
theorem PuP.done (h : PuP b16 b17 true W g N k s l c T v2 w) : ∃ w1 : World, w1.ownsRow (g + 1) 125 4 v2 (N + 1) (tkC T ++ [.int .i64 k, .string s, .int .i64 l, .int .i64 c]) ∧ Below (g + 1) W w1 ∧ w = w1.setCell ⟨g, 4, none⟩ v2 := h.2.2.2 rfl
theorem PuP.early (h : PuP b16 b17 b20 W g N k s l c T v2 w) (hb : b17 = false) (hC : W.cell? ⟨g, 2, none⟩ = some (.int .i64 l) ∧ W.cell? ⟨g, 3, none⟩ = some (.int .i64 c) ∧ W.cell? ⟨g, 4, none⟩ = some V) : w.cell? ⟨g, 2, none⟩ = some (.int .i64 l) ∧ w.cell? ⟨g, 3, none⟩ = some (.int .i64 c) ∧ w.cell? ⟨g, 4, none⟩ = some V := by
  have hg : g < W.heap.size := World.block_lt_of_cell? W ⟨g, 2, none⟩ hC.1
  cases b16 with
  | false => rw [h.w0 rfl]; exact hC
  | true =>
    rw [h.w1 rfl hb]
    exact ⟨(World.cell?_alloc_lt W.drew _ ⟨g, 2, none⟩ hg).trans hC.1, (World.cell?_alloc_lt W.drew _ ⟨g, 3, none⟩ hg).trans hC.2.1, (World.cell?_alloc_lt W.drew _ ⟨g, 4, none⟩ hg).trans hC.2.2⟩
theorem PuP.grew {xs : List Value} {o : Obj} (hr : W.ownsRow (g + 1) 125 4 V n xs) (h : (W.drew.alloc o).grownBy w V.ownBlock) (hg : g < W.heap.size) : Below (g + 1) W w := by
  refine (Below.trans (Below.drew (Below.refl (g + 1) W)) ((Below.refl (g + 1) W.drew).alloc (by simp; omega) o)).grown h (by simp; omega) ?_
  intro q hq
  rcases hr.2 with ⟨rfl, _⟩ | ⟨g', cap, cur, rfl, hb, _⟩
  · cases hq
  · simp [Value.ownBlock] at hq; omega
end
def PuI (W : World) (g : Nat) (k : Int) (s : ByteArray) (n : Int) (l c : Int) (A : Option Addr) (N C : Nat) (T : List Tk) (L : Array Bool) (a : Act) (w : World) : Prop :=
  ∃ (b0 b1 b2 b3 b4 b5 b6 b7 b8 b9 b10 b11 b12 b13 b14 b15 b16 b17 b18 b19 b20 : Bool) (A3 : Option Addr) (c3 : Nat), L = #[b0, b1, b2, b3, b4, b5, b6, b7, b8, b9, b10, b11, b12, b13, b14, b15, b16, b17, b18, b19, b20] ∧ a = { tmps := #[.pointer (some ⟨g, 0, none⟩), .int .i64 k, .string s, .int .i64 n, undef, undef, undef, undef, .pointer (some ⟨g, 0, none⟩), .pointer (some ⟨g, 0, none⟩), .pointer (some ⟨g, 4, none⟩), .slice A N C, .int .i64 (N : Int), .bool false, undef, undef, pkd b0 (.pointer (some ⟨g, 0, none⟩)) (undef), pkd b1 (.pointer (some ⟨g, 0, none⟩)) (undef), pkd b2 (.pointer (some ⟨g, 0, none⟩)) (undef), pkd b3 (.pointer (some ⟨g, 4, none⟩)) (undef), pkd b4 (.slice A N C) (undef), pkd b5 (.int .i64 k) (undef), pkd b6 (.string s) (undef), pkd b7 (.pointer (some ⟨g, 0, none⟩)) (undef), pkd b8 (.pointer (some ⟨g, 0, none⟩)) (undef), pkd b9 (.pointer (some ⟨g, 2, none⟩)) (undef), pkd b10 (.int .i64 l) (undef), pkd b11 (.pointer (some ⟨g, 0, none⟩)) (undef), pkd b12 (.pointer (some ⟨g, 0, none⟩)) (undef), pkd b13 (.pointer (some ⟨g, 3, none⟩)) (undef), pkd b14 (.int .i64 c) (undef), pkd b15 (.agg #[.int .i64 k, .string s, .int .i64 l, .int .i64 c]) (undef), pkd b16 (.slice (some ⟨W.heap.size, 0, none⟩) 1 1) (undef), pkd b17 (.slice A3 (N + 1) c3) (undef), pkd b18 (.pointer (some ⟨g, 0, none⟩)) (undef), pkd b19 (.pointer (some ⟨g, 4, none⟩)) (undef), undef, undef, undef, undef, undef, undef, undef, undef, undef, undef, undef, undef, undef, undef, undef, undef], defers := [] } ∧ (PuP b16 b17 b20 W g N k s l c T (.slice A3 (N + 1) c3) w)
set_option maxHeartbeats 4000000 in
theorem put_any (g : Nat) (src : ByteArray) (p l c k n : Int) (s : ByteArray) (A : Option Addr) (N C : Nat) (T : List Tk) (w : World) (hcu : Cu w g src p l c (.slice A N C) T) (hN : N = T.length) (hT : T.length < 2000) (hp : 0 ≤ p ∧ p ≤ 100000) (hc : 0 ≤ c ∧ c ≤ 100000) (hn : 0 ≤ n ∧ n ≤ 100000) :
    Calls Tryz.prog 99 #[.pointer (some ⟨g, 0, none⟩), .int .i64 k, .string s, .int .i64 n] w fun e w' => e = .returned (.tuple #[]) ∧ (∃ v', Cu w' g src (p + n) l (c + n) v' (T ++ [⟨k, s, l, c⟩])) ∧ Below g w w' := by
  obtain ⟨j0, hj, jz0, jz1, jz2⟩ := info_parts info_tok
  subst hN
  have HCu := Lib.hid hcu
  have HR := Lib.hid hcu.row
  have hC : w.cell? ⟨g, 2, none⟩ = some (.int .i64 l) ∧ w.cell? ⟨g, 3, none⟩ = some (.int .i64 c) ∧ w.cell? ⟨g, 4, none⟩ = some (.slice A T.length C) := ⟨hcu.c2, hcu.c3, hcu.c4⟩
  have hC1 := hcu.c1
  have hFz := hcu.fz
  have hF := hFz 4
  have hgl : g < w.heap.size := World.block_lt_of_cell? w ⟨g, 2, none⟩ hC.1
  have c4 := hC.2.2
  clear hcu
  generalize hNN : T.length = N at *
  have HNN := Lib.hid hNN
  clear hNN
  have hne : ((N : Int) == 2000) = false := by simp; omega
  have hpt := pkd_t
  go_enter Tryz.func99, Tryz.ntmps99
  go_wp2_with fail
  clear c4
  refine wp_region_any (by kernel_rfl) ?_
  refine wpAny_inv2 (PuI w g k s n l c A N C T) ?done ?step _ _ _ _ (by simp) (by simp [left]) ?init (shut_start _ _ _)
  case init => exact ⟨false, false, false, false, false, false, false, false, false, false, false, false, false, false, false, false, false, false, false, false, false, none, 0, rfl, rfl, PuP.zero⟩
  case done =>
    rintro L a w' ⟨b0, b1, b2, b3, b4, b5, b6, b7, b8, b9, b10, b11, b12, b13, b14, b15, b16, b17, b18, b19, b20, A3, c3, rfl, rfl, hI⟩ hsh hs hr
    have hno : ∀ i, i ∉ Region.ready Region.Mode.any _ _ := fun i hi => by rw [hr] at hi; cases hi
    have hall : b0 = true ∧ b1 = true ∧ b2 = true ∧ b3 = true ∧ b4 = true ∧ b5 = true ∧ b6 = true ∧ b7 = true ∧ b8 = true ∧ b9 = true ∧ b10 = true ∧ b11 = true ∧ b12 = true ∧ b13 = true ∧ b14 = true ∧ b15 = true ∧ b16 = true ∧ b17 = true ∧ b18 = true ∧ b19 = true ∧ b20 = true := by
      have q0 := hno 0
      have q1 := hno 1
      have q2 := hno 2
      have q3 := hno 3
      have q4 := hno 4
      have q5 := hno 5
      have q6 := hno 6
      have q7 := hno 7
      have q8 := hno 8
      have q9 := hno 9
      have q10 := hno 10
      have q11 := hno 11
      have q12 := hno 12
      have q13 := hno 13
      have q14 := hno 14
      have q15 := hno 15
      have q16 := hno 16
      have q17 := hno 17
      have q18 := hno 18
      have q19 := hno 19
      have q20 := hno 20
      clear hno hr hs hsh hI
      simp [Region.ready, List.mem_filter, Region.binds] at q0 q1 q2 q3 q4 q5 q6 q7 q8 q9 q10 q11 q12 q13 q14 q15 q16 q17 q18 q19 q20
      simp_all
    obtain ⟨rfl, rfl, rfl, rfl, rfl, rfl, rfl, rfl, rfl, rfl, rfl, rfl, rfl, rfl, rfl, rfl, rfl, rfl, rfl, rfl, rfl⟩ := hall
    clear hr hs hsh hno
    simp only [pkd_t]
    obtain ⟨w1, hown, hbel, rfl⟩ := hI.done
    have HO := Lib.hid (And.intro hown hbel)
    have d4 := (hbel.cell (p := ⟨g, 4, none⟩) (by simp)).trans hC.2.2
    have d1 := (hbel.cell (p := ⟨g, 1, none⟩) (by simp)).trans hC1
    have d3 := (hbel.cell (p := ⟨g, 3, none⟩) (by simp)).trans hC.2.1
    have e1 := (hbel.frozen (p := ⟨g, 1, none⟩) (by simp)).trans (hFz 1)
    have e3 := (hbel.frozen (p := ⟨g, 3, none⟩) (by simp)).trans (hFz 3)
    clear hI hown hbel
    have d0 := (HO.out.2.cell (p := ⟨g, 0, none⟩) (by simp)).trans HCu.out.c0
    have d2 := (HO.out.2.cell (p := ⟨g, 2, none⟩) (by simp)).trans HCu.out.c2
    have ef : ∀ j, w1.frozen? ⟨g, j, none⟩ = false := fun j => (HO.out.2.frozen (p := ⟨g, j, none⟩) (by simp)).trans (hFz j)
    have HU := Lib.hid (Cu.upd (p' := p + n) (c' := c + n) d0 d1 d2 d3 d4 ef (by rw [tkC_snoc, List.length_append, HNN.out]; exact HO.out.1))
    clear d0 d2 ef
    go_wp2_with fail
    go_end0
    exact ⟨rfl, ⟨_, HU.out⟩, ((HO.out.2.mono (Nat.le_succ g)).setCell (Nat.le_refl _) _).setCell (Nat.le_refl _) _ |>.setCell (Nat.le_refl _) _⟩
  case step =>
    rintro L a w' i ⟨b0, b1, b2, b3, b4, b5, b6, b7, b8, b9, b10, b11, b12, b13, b14, b15, b16, b17, b18, b19, b20, A3, c3, rfl, rfl, hI⟩ hsh hs hi
    have hi16 := (ready_mem hi).1
    simp only [List.size_toArray, List.length_cons, List.length_nil] at hi16
    obtain rfl | rfl | rfl | rfl | rfl | rfl | rfl | rfl | rfl | rfl | rfl | rfl | rfl | rfl | rfl | rfl | rfl | rfl | rfl | rfl | rfl : i = 0 ∨ i = 1 ∨ i = 2 ∨ i = 3 ∨ i = 4 ∨ i = 5 ∨ i = 6 ∨ i = 7 ∨ i = 8 ∨ i = 9 ∨ i = 10 ∨ i = 11 ∨ i = 12 ∨ i = 13 ∨ i = 14 ∨ i = 15 ∨ i = 16 ∨ i = 17 ∨ i = 18 ∨ i = 19 ∨ i = 20 := by omega
    · simp [Region.ready, List.mem_filter, Region.binds] at hi
      have hall : b0 = false := by simp [hi]
      clear hi
      subst hall
      clear hs hi16 hsh
      refine wpOp_run rfl rfl ?_
      go_simp
      exact ⟨true, b1, b2, b3, b4, b5, b6, b7, b8, b9, b10, b11, b12, b13, b14, b15, b16, b17, b18, b19, b20, A3, c3, rfl, rfl, hI⟩
    · simp [Region.ready, List.mem_filter, Region.binds] at hi
      have hall : b1 = false := by simp [hi]
      clear hi
      subst hall
      clear hs hi16 hsh
      refine wpOp_run rfl rfl ?_
      go_simp
      exact ⟨b0, true, b2, b3, b4, b5, b6, b7, b8, b9, b10, b11, b12, b13, b14, b15, b16, b17, b18, b19, b20, A3, c3, rfl, rfl, hI⟩
    · simp [Region.ready, List.mem_filter, Region.binds] at hi
      have hall : b2 = false ∧ b1 = true := by simp [hi]
      clear hi
      obtain ⟨rfl, rfl⟩ := hall
      clear hs hi16 hsh
      refine wpOp_run rfl rfl ?_
      go_simp
      exact ⟨b0, true, true, b3, b4, b5, b6, b7, b8, b9, b10, b11, b12, b13, b14, b15, b16, b17, b18, b19, b20, A3, c3, rfl, rfl, hI⟩
    · simp [Region.ready, List.mem_filter, Region.binds] at hi
      have hall : b3 = false ∧ b2 = true := by simp [hi]
      clear hi
      obtain ⟨rfl, rfl⟩ := hall
      clear hs hi16 hsh
      refine wpOp_run rfl rfl ?_
      go_simp
      exact ⟨b0, b1, true, true, b4, b5, b6, b7, b8, b9, b10, b11, b12, b13, b14, b15, b16, b17, b18, b19, b20, A3, c3, rfl, rfl, hI⟩
    · simp [Region.ready, List.mem_filter, Region.binds] at hi
      have hall : b4 = false ∧ b3 = true := by simp [hi]
      clear hi
      obtain ⟨rfl, rfl⟩ := hall
      have z17 : b17 = false := by
        have q := hsh 17 _ rfl
        simp [Region.binds] at q
        cases b17
        · rfl
        · simp at q
      subst z17
      have z20 : b20 = false := by
        have q := hsh 20 _ rfl
        simp [Region.binds] at q
        cases b20
        · rfl
        · simp at q
      subst z20
      clear hs hi16 hsh
      obtain ⟨q2, q3, q4⟩ := hI.early rfl hC
      refine wpOp_run rfl rfl ?_
      go_simp
      exact ⟨b0, b1, b2, true, true, b5, b6, b7, b8, b9, b10, b11, b12, b13, b14, b15, b16, false, b18, b19, false, A3, c3, rfl, rfl, hI⟩
    · simp [Region.ready, List.mem_filter, Region.binds] at hi
      have hall : b5 = false := by simp [hi]
      clear hi
      subst hall
      clear hs hi16 hsh
      refine wpOp_run rfl rfl ?_
      go_simp
      exact ⟨b0, b1, b2, b3, b4, true, b6, b7, b8, b9, b10, b11, b12, b13, b14, b15, b16, b17, b18, b19, b20, A3, c3, rfl, rfl, hI⟩
    · simp [Region.ready, List.mem_filter, Region.binds] at hi
      have hall : b6 = false := by simp [hi]
      clear hi
      subst hall
      clear hs hi16 hsh
      refine wpOp_run rfl rfl ?_
      go_simp
      exact ⟨b0, b1, b2, b3, b4, b5, true, b7, b8, b9, b10, b11, b12, b13, b14, b15, b16, b17, b18, b19, b20, A3, c3, rfl, rfl, hI⟩
    · simp [Region.ready, List.mem_filter, Region.binds] at hi
      have hall : b7 = false := by simp [hi]
      clear hi
      subst hall
      clear hs hi16 hsh
      refine wpOp_run rfl rfl ?_
      go_simp
      exact ⟨b0, b1, b2, b3, b4, b5, b6, true, b8, b9, b10, b11, b12, b13, b14, b15, b16, b17, b18, b19, b20, A3, c3, rfl, rfl, hI⟩
    · simp [Region.ready, List.mem_filter, Region.binds] at hi
      have hall : b8 = false ∧ b7 = true := by simp [hi]
      clear hi
      obtain ⟨rfl, rfl⟩ := hall
      clear hs hi16 hsh
      refine wpOp_run rfl rfl ?_
      go_simp
      exact ⟨b0, b1, b2, b3, b4, b5, b6, true, true, b9, b10, b11, b12, b13, b14, b15, b16, b17, b18, b19, b20, A3, c3, rfl, rfl, hI⟩
    · simp [Region.ready, List.mem_filter, Region.binds] at hi
      have hall : b9 = false ∧ b8 = true := by simp [hi]
      clear hi
      obtain ⟨rfl, rfl⟩ := hall
      clear hs hi16 hsh
      refine wpOp_run rfl rfl ?_
      go_simp
      exact ⟨b0, b1, b2, b3, b4, b5, b6, b7, true, true, b10, b11, b12, b13, b14, b15, b16, b17, b18, b19, b20, A3, c3, rfl, rfl, hI⟩
    · simp [Region.ready, List.mem_filter, Region.binds] at hi
      have hall : b10 = false ∧ b9 = true := by simp [hi]
      clear hi
      obtain ⟨rfl, rfl⟩ := hall
      have z15 : b15 = false := by
        have q := hsh 15 _ rfl
        simp [Region.binds] at q
        cases b15
        · rfl
        · simp at q
      subst z15
      have z16 : b16 = false := by
        have q := hsh 16 _ rfl
        simp [Region.binds] at q
        cases b16
        · rfl
        · simp at q
      subst z16
      have z17 : b17 = false := by
        have q := hsh 17 _ rfl
        simp [Region.binds] at q
        cases b17
        · rfl
        · simp at q
      subst z17
      have z20 : b20 = false := by
        have q := hsh 20 _ rfl
        simp [Region.binds] at q
        cases b20
        · rfl
        · simp at q
      subst z20
      clear hs hi16 hsh
      obtain rfl := hI.w0 rfl
      obtain ⟨q2, q3, q4⟩ := hC
      refine wpOp_run rfl rfl ?_
      go_simp
      exact ⟨b0, b1, b2, b3, b4, b5, b6, b7, b8, true, true, b11, b12, b13, b14, false, false, false, b18, b19, false, A3, c3, rfl, rfl, hI⟩
    · simp [Region.ready, List.mem_filter, Region.binds] at hi
      have hall : b11 = false := by simp [hi]
      clear hi
      subst hall
      clear hs hi16 hsh
      refine wpOp_run rfl rfl ?_
      go_simp
      exact ⟨b0, b1, b2, b3, b4, b5, b6, b7, b8, b9, b10, true, b12, b13, b14, b15, b16, b17, b18, b19, b20, A3, c3, rfl, rfl, hI⟩
    · simp [Region.ready, List.mem_filter, Region.binds] at hi
      have hall : b12 = false ∧ b11 = true := by simp [hi]
      clear hi
      obtain ⟨rfl, rfl⟩ := hall
      clear hs hi16 hsh
      refine wpOp_run rfl rfl ?_
      go_simp
      exact ⟨b0, b1, b2, b3, b4, b5, b6, b7, b8, b9, b10, true, true, b13, b14, b15, b16, b17, b18, b19, b20, A3, c3, rfl, rfl, hI⟩
    · simp [Region.ready, List.mem_filter, Region.binds] at hi
      have hall : b13 = false ∧ b12 = true := by simp [hi]
      clear hi
      obtain ⟨rfl, rfl⟩ := hall
      clear hs hi16 hsh
      refine wpOp_run rfl rfl ?_
      go_simp
      exact ⟨b0, b1, b2, b3, b4, b5, b6, b7, b8, b9, b10, b11, true, true, b14, b15, b16, b17, b18, b19, b20, A3, c3, rfl, rfl, hI⟩
    · simp [Region.ready, List.mem_filter, Region.binds] at hi
      have hall : b14 = false ∧ b13 = true := by simp [hi]
      clear hi
      obtain ⟨rfl, rfl⟩ := hall
      have z15 : b15 = false := by
        have q := hsh 15 _ rfl
        simp [Region.binds] at q
        cases b15
        · rfl
        · simp at q
      subst z15
      have z16 : b16 = false := by
        have q := hsh 16 _ rfl
        simp [Region.binds] at q
        cases b16
        · rfl
        · simp at q
      subst z16
      have z17 : b17 = false := by
        have q := hsh 17 _ rfl
        simp [Region.binds] at q
        cases b17
        · rfl
        · simp at q
      subst z17
      have z20 : b20 = false := by
        have q := hsh 20 _ rfl
        simp [Region.binds] at q
        cases b20
        · rfl
        · simp at q
      subst z20
      clear hs hi16 hsh
      obtain rfl := hI.w0 rfl
      obtain ⟨q2, q3, q4⟩ := hC
      refine wpOp_run rfl rfl ?_
      go_simp
      exact ⟨b0, b1, b2, b3, b4, b5, b6, b7, b8, b9, b10, b11, b12, true, true, false, false, false, b18, b19, false, A3, c3, rfl, rfl, hI⟩
    · simp [Region.ready, List.mem_filter, Region.binds] at hi
      have hall : b15 = false ∧ b5 = true ∧ b6 = true ∧ b10 = true ∧ b14 = true := by simp [hi]
      clear hi
      obtain ⟨rfl, rfl, rfl, rfl, rfl⟩ := hall
      clear hs hi16 hsh
      refine wpOp_run rfl rfl ?_
      go_simp
      exact ⟨b0, b1, b2, b3, b4, true, true, b7, b8, b9, true, b11, b12, b13, true, true, b16, b17, b18, b19, b20, A3, c3, rfl, rfl, hI⟩
    · simp [Region.ready, List.mem_filter, Region.binds] at hi
      have hall : b16 = false ∧ b15 = true := by simp [hi]
      clear hi
      obtain ⟨rfl, rfl⟩ := hall
      have z17 : b17 = false := by
        have q := hsh 17 _ rfl
        simp [Region.binds] at q
        cases b17
        · rfl
        · simp at q
      subst z17
      have z20 : b20 = false := by
        have q := hsh 20 _ rfl
        simp [Region.binds] at q
        cases b20
        · rfl
        · simp at q
      subst z20
      clear hs hi16 hsh
      obtain rfl := hI.w0 rfl
      refine wpOp_run rfl rfl ?_
      go_simp
      exact ⟨b0, b1, b2, b3, b4, b5, b6, b7, b8, b9, b10, b11, b12, b13, b14, true, true, false, b18, b19, false, A3, c3, rfl, rfl, PuP.one⟩
    · simp [Region.ready, List.mem_filter, Region.binds] at hi
      have hall : b17 = false ∧ b4 = true ∧ b16 = true := by simp [hi]
      clear hi
      obtain ⟨rfl, rfl, rfl⟩ := hall
      have z20 : b20 = false := by
        have q := hsh 20 _ rfl
        simp [Region.binds] at q
        cases b20
        · rfl
        · simp at q
      subst z20
      clear hs hi16 hsh
      obtain rfl := hI.w1 rfl rfl
      refine wpOp_run rfl rfl (wp_append_rd _ (.tmp 20) (.tmp 32) 119 rfl (g + 1) 125 j0 _ 4 40 Tryz.underlying119 hj jz0 jz1 jz2 rfl (by omega) (.slice A N C) N (tkC T) rfl (HR.out.alloc _) (w.heap.size + 1) (some ⟨w.heap.size, 0, none⟩) 1 1 [.int .i64 k, .string s, .int .i64 l, .int .i64 c] rfl (Rd.lit w.drew #[.int .i64 k, .string s, .int .i64 l, .int .i64 c] 125 1 4 rfl) (by simp [Value.oneCell']) (by unfold maxLen; omega) (by omega) (by simp; omega) fun A' c' w' h2 h3 _ => ?_)
      exact ⟨b0, b1, b2, b3, true, b5, b6, b7, b8, b9, b10, b11, b12, b13, b14, b15, true, true, b18, b19, false, A', c', rfl, rfl, PuP.two h2 (PuP.grew HR.out h3 hgl)⟩
    · simp [Region.ready, List.mem_filter, Region.binds] at hi
      have hall : b18 = false ∧ b0 = true := by simp [hi]
      clear hi
      obtain ⟨rfl, rfl⟩ := hall
      clear hs hi16 hsh
      refine wpOp_run rfl rfl ?_
      go_simp
      exact ⟨true, b1, b2, b3, b4, b5, b6, b7, b8, b9, b10, b11, b12, b13, b14, b15, b16, b17, true, b19, b20, A3, c3, rfl, rfl, hI⟩
    · simp [Region.ready, List.mem_filter, Region.binds] at hi
      have hall : b19 = false ∧ b18 = true := by simp [hi]
      clear hi
      obtain ⟨rfl, rfl⟩ := hall
      clear hs hi16 hsh
      refine wpOp_run rfl rfl ?_
      go_simp
      exact ⟨b0, b1, b2, b3, b4, b5, b6, b7, b8, b9, b10, b11, b12, b13, b14, b15, b16, b17, true, true, b20, A3, c3, rfl, rfl, hI⟩
    · simp [Region.ready, List.mem_filter, Region.binds] at hi
      have hall : b20 = false ∧ b16 = true ∧ b17 = true ∧ b19 = true := by simp [hi]
      clear hi
      obtain ⟨rfl, rfl, rfl, rfl⟩ := hall
      clear hs hi16 hsh
      obtain ⟨hown, hbel⟩ := hI.w2 rfl rfl
      have c4' := (hbel.cell (p := ⟨g, 4, none⟩) (by simp)).trans hC.2.2
      have f4' := (hbel.frozen (p := ⟨g, 4, none⟩) (by simp)).trans hF
      refine wpOp_run rfl rfl ?_
      go_simp
      exact ⟨b0, b1, b2, b3, b4, b5, b6, b7, b8, b9, b10, b11, b12, b13, b14, b15, true, true, b18, true, true, A3, c3, rfl, rfl, PuP.three hown hbel⟩
end Go.Proofs.YtjegfimagjmpdaaGreatDoor
end
section
/- The cutter: 'put' in terms of the plain steps; 'ends', 'lineEnd'. Conditions: none. -/
set_option maxRecDepth 20000
namespace Go.Proofs.YtjegfimagjmpdaaGreatDoor
open Go.ChangeShapes Go.WideShapes Go.ChangeAt Go.RowKit
def CuS (w : World) (g : Nat) (src : ByteArray) (p : Nat) (T : List Tk) : Prop :=
  ∃ A C, Cu w g src (p : Int) ((place (src.data.toList.take p)).1 : Int) ((place (src.data.toList.take p)).2 : Int) (.slice A T.length C) T
/-- What a method of the cutter comes to. -/
def MP (g : Nat) (src : ByteArray) (p : Nat) (w : World) (r : Except Int (Nat × List Tk)) (e : Ending) (w' : World) : Prop :=
  match r with
  | .ok x => e = .returned (.tuple #[]) ∧ CuS w' g src x.1 x.2 ∧ Below g w w'
  | .error c => e = stopE c ((place (src.data.toList.take p)).1 : Int) ((place (src.data.toList.take p)).2 : Int) ∧ Below g w w'
theorem Cu.slice {w : World} {g : Nat} {src : ByteArray} {p l c : Int} {v : Value} {T : List Tk} (h : Cu w g src p l c v T) : ∃ A C, v = .slice A T.length C := own_form h.row
theorem pl_bound (src : ByteArray) (p : Nat) (hs : src.size ≤ 8000) : (place (src.data.toList.take p)).1 ≤ 8001 ∧ (place (src.data.toList.take p)).2 ≤ 8001 := by
  have h := place_pos (src.data.toList.take p)
  have h2 : (src.data.toList.take p).length ≤ src.size := by rw [List.length_take]; exact Nat.min_le_right _ _
  omega
theorem put_full (g : Nat) (src : ByteArray) (p l c k n : Int) (s : ByteArray) (A : Option Addr) (C : Nat) (T : List Tk) (w : World) (hcu : Cu w g src p l c (.slice A T.length C) T) (hT : T.length = 2000) :
    Calls Tryz.prog 99 #[.pointer (some ⟨g, 0, none⟩), .int .i64 k, .string s, .int .i64 n] w fun e w' => e = stopE 15 l c ∧ Below g w w' := by
  have h2 := hcu.c2
  have h3 := hcu.c3
  have h4 := hcu.c4
  rw [hT] at h4
  clear hcu hT
  go_enter Tryz.func99, Tryz.ntmps99
  go_wp2_with fail
  refine (fail_any g l c 15 _ h2 h3).mono ?_
  rintro e w1 ⟨rfl, n, rfl⟩
  unfold stopE
  go_wp2_with fail
  exact ⟨rfl, rfl, dr (Below.refl _ _) n⟩
/-- What comes of a token more. -/
def addR (src : ByteArray) (p n : Nat) (T : List Tk) (k : Int) (sl : List UInt8) : Except Int (Nat × List Tk) := match addT src.data.toList p T k sl with | none => .error 15 | some T' => .ok (p + n, T')
/-- 'put', by the plain step. -/
theorem putS (g : Nat) (src : ByteArray) (p n : Nat) (k : Int) (sl : List UInt8) (s : ByteArray) (z : Int) (T : List Tk) (w : World) (hs : s = ⟨sl.toArray⟩) (hz : z = (n : Int)) (hcu : CuS w g src p T) (hT : T.length ≤ 2000) (hsz : src.size ≤ 8000) (hp : p ≤ 8000) (hn : n ≤ 8000)
    (hpl : place (src.data.toList.take (p + n)) = ((place (src.data.toList.take p)).1, (place (src.data.toList.take p)).2 + n)) :
    Calls Tryz.prog 99 #[.pointer (some ⟨g, 0, none⟩), .int .i64 k, .string s, .int .i64 z] w (MP g src p w (addR src p n T k sl)) := by
  subst hs hz
  obtain ⟨A, C, hcu⟩ := hcu
  have hb := pl_bound src p hsz
  unfold addR addT tkAt
  by_cases h : T.length = 2000
  · rw [if_pos h]
    exact put_full g src _ _ _ k _ _ A C T w hcu h
  · rw [if_neg h]
    refine (put_any g src _ _ _ k (n : Int) _ A T.length C T w hcu rfl (by omega) (by omega) (by omega) (by omega)).mono ?_
    rintro e w' ⟨rfl, ⟨v', h1⟩, h2⟩
    obtain ⟨A', C', rfl⟩ := h1.slice
    refine ⟨rfl, ⟨A', C', ?_⟩, h2⟩
    rw [hpl]
    have e1 : ((p + n : Nat) : Int) = (p : Int) + (n : Int) := by omega
    have e2 : (((place (src.data.toList.take p)).2 + n : Nat) : Int) = ((place (src.data.toList.take p)).2 : Int) + (n : Int) := by omega
    simp only [e1, e2]
    exact h1
set_option maxHeartbeats 2000000 in
theorem ends_any (k l c : Int) (s : ByteArray) (w : World) : Calls Tryz.prog 102 #[.agg #[.int .i64 k, .string s, .int .i64 l, .int .i64 c]] w fun e w' => e = .returned (.bool (endsT k s.data.toList)) ∧ Below w.heap.size w w' := by
  have hsl : s.toList = s.data.toList := by rw [ByteArray.toList_eq]
  have HS := Lib.hid hsl
  clear hsl
  by_cases h1 : k = 1 ∨ k = 2 ∨ k = 3
  · have he : endsT k s.data.toList = true := by rcases h1 with rfl | rfl | rfl <;> rfl
    have HE := Lib.hid he
    clear he
    rcases h1 with rfl | rfl | rfl
    all_goals
      go_enter Tryz.func102, Tryz.ntmps102
      go_wp2_with fail
      go_ret
      exact ⟨by rw [HE.out]; rfl, al _⟩
  · have g1 : (k == 1) = false := by simp; omega
    have g2 : (k == 2) = false := by simp; omega
    have g3 : (k == 3) = false := by simp; omega
    by_cases h4 : k = 4
    · subst h4
      have he : endsT 4 s.data.toList = (decide (s.data.toList = [41]) || decide (s.data.toList = [93]) || decide (s.data.toList = [125])) := by simp [endsT]
      have HE := Lib.hid he
      clear he g1 g2 g3 h1
      go_enter Tryz.func102, Tryz.ntmps102
      go_wp2
      all_goals
        go_ret
        refine ⟨?_, al _⟩
        rw [HE.out]
        have := HS.out
        first
          | (simp_all; done)
          | (simp_all; rw [Bool.eq_iff_iff]; simp_all)
    · have g4 : (k == 4) = false := by simp [h4]
      by_cases h5 : k = 5
      · subst h5
        have he : endsT 5 s.data.toList = endW.contains s.data.toList := by simp [endsT]
        have HE := Lib.hid he
        clear he g1 g2 g3 g4 h1 h4
        go_enter Tryz.func102, Tryz.ntmps102
        go_wp2
        all_goals
          go_ret
          refine ⟨?_, al _⟩
          rw [HE.out]
          have := HS.out
          simp_all [endW]
      · have g5 : (k == 5) = false := by simp [h5]
        have he : endsT k s.data.toList = false := by simp [endsT]; omega
        have HE := Lib.hid he
        clear he
        go_enter Tryz.func102, Tryz.ntmps102
        go_wp2_with fail
        go_ret
        exact ⟨by rw [HE.out]; rfl, al _⟩
end Go.Proofs.YtjegfimagjmpdaaGreatDoor
end
section
/- The cutter's 'lineEnd'. Conditions: none. -/
set_option maxRecDepth 20000
namespace Go.Proofs.YtjegfimagjmpdaaGreatDoor
open Go.ChangeShapes Go.WideShapes Go.ChangeAt Go.RowKit
theorem snoc_cases (T : List Tk) : T = [] ∨ ∃ T0 t, T = T0 ++ [t] := by
  rcases List.eq_nil_or_concat T with h | ⟨T0, t, h⟩
  · exact .inl h
  · exact .inr ⟨T0, t, by simpa using h⟩
theorem CuS.below {w w' : World} {g : Nat} {src : ByteArray} {p : Nat} {T : List Tk} (h : CuS w g src p T) (hb : Below w.heap.size w w') : CuS w' g src p T := by
  obtain ⟨A, C, h⟩ := h
  have hg : g < w.heap.size := World.block_lt_of_cell? w ⟨g, 0, none⟩ h.c0
  refine ⟨A, C, (hb.cell (p := ⟨g, 0, none⟩) hg).trans h.c0, (hb.cell (p := ⟨g, 1, none⟩) hg).trans h.c1, (hb.cell (p := ⟨g, 2, none⟩) hg).trans h.c2, (hb.cell (p := ⟨g, 3, none⟩) hg).trans h.c3, (hb.cell (p := ⟨g, 4, none⟩) hg).trans h.c4, fun k => (hb.frozen (p := ⟨g, k, none⟩) hg).trans (h.fz k), ?_⟩
  have hr := h.row
  refine ⟨hr.1, ?_⟩
  rcases hr.2 with h2 | ⟨q, cap, cur, e, hq, hh, r⟩
  · exact .inl h2
  · refine .inr ⟨q, cap, cur, e, hq, ?_, r⟩
    rw [hb.block q ?_]
    · exact hh
    · rcases Nat.lt_or_ge q w.heap.size with h5 | h5
      · exact h5
      · rw [Array.getElem?_eq_none h5] at hh; cases hh
/-- The last token's cells. -/
theorem Cu.last {w : World} {g : Nat} {src : ByteArray} {p l c : Int} {A : Option Addr} {C : Nat} {T0 : List Tk} {t : Tk} (h : Cu w g src p l c (.slice A (T0.length + 1) C) (T0 ++ [t])) :
    ∃ b, A = some ⟨b, 0, none⟩ ∧ w.cell? ⟨b, T0.length * 4, none⟩ = some (.int .i64 t.k) ∧ w.cell? ⟨b, T0.length * 4 + 1, none⟩ = some (.string t.s) ∧ w.cell? ⟨b, T0.length * 4 + 2, none⟩ = some (.int .i64 t.l) ∧ w.cell? ⟨b, T0.length * 4 + 3, none⟩ = some (.int .i64 t.c) := by
  have hr := Rd.of_own (by simpa using h.row : w.ownsRow (g + 1) 125 4 (.slice A (T0.length + 1) C) (T0.length + 1) (tkC (T0 ++ [t])))
  obtain ⟨b, off, e, _, hc⟩ := hr.2 (by omega)
  have h0 : off = 0 := by
    rcases h.row.2 with ⟨h1, _⟩ | ⟨q, cap, cur, h1, _⟩
    · simp at h1
    · simp at h1
      rw [e] at h1
      simp at h1
      exact h1.1.2
  subst h0
  refine ⟨b, e, ?_, ?_, ?_, ?_⟩
  · have := hc (T0.length * 4) (.int .i64 t.k) (by rw [show T0 ++ [t] = T0 ++ [⟨t.k, t.s, t.l, t.c⟩] from rfl, tkC_snoc, List.getElem?_append_right (by rw [tkC_len]; omega), tkC_len]; simp)
    simpa using this
  · have := hc (T0.length * 4 + 1) (.string t.s) (by rw [show T0 ++ [t] = T0 ++ [⟨t.k, t.s, t.l, t.c⟩] from rfl, tkC_snoc, List.getElem?_append_right (by rw [tkC_len]; omega), tkC_len, Nat.add_sub_cancel_left]; rfl)
    simpa using this
  · have := hc (T0.length * 4 + 2) (.int .i64 t.l) (by rw [show T0 ++ [t] = T0 ++ [⟨t.k, t.s, t.l, t.c⟩] from rfl, tkC_snoc, List.getElem?_append_right (by rw [tkC_len]; omega), tkC_len, Nat.add_sub_cancel_left]; rfl)
    simpa using this
  · have := hc (T0.length * 4 + 3) (.int .i64 t.c) (by rw [show T0 ++ [t] = T0 ++ [⟨t.k, t.s, t.l, t.c⟩] from rfl, tkC_snoc, List.getElem?_append_right (by rw [tkC_len]; omega), tkC_len, Nat.add_sub_cancel_left]; rfl)
    simpa using this
theorem lastEnds_snoc (T0 : List Tk) (t : Tk) : lastEnds (T0 ++ [t]) = endsT t.k t.s.data.toList := by unfold lastEnds; rw [List.getLast?_concat]
def semiR (src : ByteArray) (p q : Nat) (T : List Tk) : Except Int (Nat × List Tk) := match semiT src.data.toList p T with | none => .error 15 | some T' => .ok (q, T')
theorem lineEnd_any (g : Nat) (src : ByteArray) (p : Nat) (T : List Tk) (w : World) (hcu : CuS w g src p T) (hT : T.length ≤ 2000) (hsz : src.size ≤ 8000) (hp : p ≤ 8000) :
    Calls Tryz.prog 91 #[.pointer (some ⟨g, 0, none⟩)] w (MP g src p w (semiR src p p T)) := by
  have HC := Lib.hid hcu
  obtain ⟨A, C, hcu⟩ := hcu
  have hgl : g < w.heap.size := World.block_lt_of_cell? w ⟨g, 0, none⟩ hcu.c0
  rcases snoc_cases T with rfl | ⟨T0, t, rfl⟩
  · have h4 := hcu.c4
    clear hcu
    go_enter Tryz.func91, Tryz.ntmps91
    go_wp2_with fail
    go_end0
    exact ⟨rfl, HC.out, Below.refl _ _⟩
  · rw [List.length_append, List.length_singleton] at hcu
    obtain ⟨b, rfl, e0, e1, e2, e3⟩ := hcu.last
    have h4 := hcu.c4
    have hl : T0.length + 1 ≤ 2000 := by simpa using hT
    have HE := Lib.hid (lastEnds_snoc T0 t)
    have HT := Lib.hid hT
    clear hcu hT
    generalize T0.length = m at *
    obtain ⟨tk, ts, tl, tc⟩ := t
    simp only at e0 e1 e2 e3 HE
    go_enter Tryz.func91, Tryz.ntmps91
    go_wp2_with fail
    refine (ends_any tk tl tc ts w).mono ?_
    rintro e w1 ⟨rfl, hb1⟩
    have HB := Lib.hid hb1
    have HC1 := Lib.hid (HC.out.below hb1)
    clear hb1
    generalize hT0 : T0 ++ [(⟨tk, ts, tl, tc⟩ : Tk)] = T at *
    clear hT0
    cases he : endsT tk ts.data.toList with
    | false =>
      rw [he] at HE
      have HS := Lib.hid (show semiR src p p T = .ok (p, T) by unfold semiR semiT; rw [HE.out]; rfl)
      go_wp2_with fail
      go_end0
      rw [HS.out]
      exact ⟨rfl, HC1.out, HB.out.mono (Nat.le_of_lt hgl)⟩
    | true =>
      rw [he] at HE
      have hput := putS g src p 0 6 [59] ⟨#[59]⟩ 0 T w1 rfl rfl HC1.out HT.out hsz hp (by omega) rfl
      unfold addR at hput
      cases ha : addT src.data.toList p T 6 [59] with
      | none =>
        rw [ha] at hput
        have HS := Lib.hid (show semiR src p p T = .error 15 by unfold semiR semiT; rw [HE.out, if_pos rfl, ha])
        have HP := Lib.hid hput
        clear hput
        go_wp2_with fail
        refine HP.out.mono ?_
        rintro e w2 ⟨rfl, hb2⟩
        unfold stopE
        go_wp2_with fail
        rw [HS.out]
        exact ⟨rfl, rfl, (HB.out.mono (Nat.le_of_lt hgl)).trans hb2⟩
      | some T' =>
        rw [ha] at hput
        have HS := Lib.hid (show semiR src p p T = .ok (p, T') by unfold semiR semiT; rw [HE.out, if_pos rfl, ha])
        have HP := Lib.hid hput
        clear hput
        go_wp2_with fail
        refine HP.out.mono ?_
        rintro e w2 ⟨rfl, hc2, hb2⟩
        have HC2 := Lib.hid hc2
        clear hc2
        go_wp2_with fail
        go_end0
        rw [HS.out]
        exact ⟨rfl, HC2.out, (HB.out.mono (Nat.le_of_lt hgl)).trans hb2⟩
open Go
theorem tw_step {P : UInt8 → Bool} : ∀ {l : List UInt8} {i : Nat} {x : UInt8}, i ≤ (l.takeWhile P).length → l[i]? = some x → P x = true → i + 1 ≤ (l.takeWhile P).length
  | [], i, x, _, hx, _ => by simp at hx
  | a :: l, 0, x, h, hx, hp => by
    simp at hx
    subst hx
    rw [List.takeWhile_cons_of_pos hp]
    simp
  | a :: l, i + 1, x, h, hx, hp => by
    rw [List.takeWhile_cons] at h ⊢
    split at h
    · rename_i ha
      rw [if_pos ha]
      simp at h ⊢
      exact tw_step h (by simpa using hx) hp
    · simp at h
theorem tw_stop {P : UInt8 → Bool} : ∀ {l : List UInt8} {i : Nat} {x : UInt8}, l[i]? = some x → P x = false → (l.takeWhile P).length ≤ i
  | [], i, x, hx, _ => by simp at hx
  | a :: l, 0, x, hx, hp => by
    simp at hx
    subst hx
    rw [List.takeWhile_cons_of_neg (by simp [hp])]
    simp
  | a :: l, i + 1, x, hx, hp => by
    rw [List.takeWhile_cons]
    split
    · simp
      exact tw_stop (by simpa using hx) hp
    · simp
theorem tw_len (P : UInt8 → Bool) (l : List UInt8) : (l.takeWhile P).length ≤ l.length := (List.takeWhile_sublist P).length_le
theorem tw_take (P : UInt8 → Bool) : ∀ l : List UInt8, l.take (l.takeWhile P).length = l.takeWhile P
  | [] => rfl
  | a :: l => by
    rw [List.takeWhile_cons]
    split
    · simp [tw_take P l]
    · simp
theorem tw_all {P : UInt8 → Bool} {l : List UInt8} : ∀ x ∈ l.takeWhile P, P x = true := fun x hx => List.all_eq_true.1 List.all_takeWhile x hx
theorem isA_nl {c : UInt8} (h : isA c = true) : c ≠ 10 := by
  rintro rfl
  revert h
  decide
theorem alen_place {L : List UInt8} {p : Nat} : place (L.take (p + alen (L.drop p))) = ((place (L.take p)).1, (place (L.take p)).2 + alen (L.drop p)) :=
  place_step (tw_len _ _) fun c hc => by
    unfold alen at hc
    rw [tw_take] at hc
    exact isA_nl (tw_all c hc)
theorem src_get (s : ByteArray) (p i j : Nat) (hj : j = p + i) (h : j < s.size) : (s.data.toList.drop p)[i]? = some s[j] := by
  subst hj
  rw [List.getElem?_drop]
  exact byl_get s (p + i) h
theorem ext_take (s : ByteArray) (p n : Nat) : s.extract p (p + n) = ⟨((s.data.toList.drop p).take n).toArray⟩ := by
  rw [extract_list, List.drop_take, Nat.add_sub_cancel_left]
theorem drop_len (s : ByteArray) (p : Nat) : (s.data.toList.drop p).length = s.size - p := by rw [List.length_drop]; rfl
theorem head_get (s : ByteArray) (p : Nat) (h : p < s.size) : (s.data.toList.drop p).headD 0 = s[p] := by
  rw [byl_drop s p h]; rfl
end Go.Proofs.YtjegfimagjmpdaaGreatDoor
end
section
/- The document's 'closes' and 'placeOf', 'spotAt'. Conditions: none. -/
set_option maxRecDepth 20000
namespace Go.Proofs.YtjegfimagjmpdaaGreatDoor
open Go.ChangeShapes Go.WideShapes Go.ChangeAt Go.RowKit
def clW : List (List UInt8) := [[41], [93], [125], [98, 114, 101, 97, 107], [99, 111, 110, 116, 105, 110, 117, 101], [114, 101, 116, 117, 114, 110], [116, 114, 117, 101], [102, 97, 108, 115, 101], [110, 105, 108], [105, 110, 116], [98, 111, 111, 108], [115, 116, 114, 105, 110, 103], [97, 110, 121]]
theorem clW_cut : cutG 32 (ByteArray.mk #[41, 32, 93, 32, 125, 32, 98, 114, 101, 97, 107, 32, 99, 111, 110, 116, 105, 110, 117, 101, 32, 114, 101, 116, 117, 114, 110, 32, 116, 114, 117, 101, 32, 102, 97, 108, 115, 101, 32, 110, 105, 108, 32, 105, 110, 116, 32, 98, 111, 111, 108, 32, 115, 116, 114, 105, 110, 103, 32, 97, 110, 121]).data.toList [] = clW := by decide +kernel
theorem cutAt_cl (w : World) : Calls Tryz.prog 10 #[.string ⟨#[41, 32, 93, 32, 125, 32, 98, 114, 101, 97, 107, 32, 99, 111, 110, 116, 105, 110, 117, 101, 32, 114, 101, 116, 117, 114, 110, 32, 116, 114, 117, 101, 32, 102, 97, 108, 115, 101, 32, 110, 105, 108, 32, 105, 110, 116, 32, 98, 111, 111, 108, 32, 115, 116, 114, 105, 110, 103, 32, 97, 110, 121]⟩, .int .u8 32] w fun e w' => ∃ g c, e = .returned (.slice (some ⟨g, 0, none⟩) 13 c) ∧ Rd w' w'.heap.size 1 (some ⟨g, 0, none⟩) 13 (strs clW) ∧ Below w.heap.size w w' := by
  have h := cutAt_any ⟨#[41, 32, 93, 32, 125, 32, 98, 114, 101, 97, 107, 32, 99, 111, 110, 116, 105, 110, 117, 101, 32, 114, 101, 116, 117, 114, 110, 32, 116, 114, 117, 101, 32, 102, 97, 108, 115, 101, 32, 110, 105, 108, 32, 105, 110, 116, 32, 98, 111, 111, 108, 32, 115, 116, 114, 105, 110, 103, 32, 97, 110, 121]⟩ 32 32 rfl (by decide +kernel) w
  rw [clW_cut] at h
  refine h.mono ?_
  rintro e w' ⟨A, c, rfl, hown, hb⟩
  obtain ⟨g, cap, hv, _⟩ := hown.form (by decide)
  injection hv with hA _ hc
  subst hA hc
  exact ⟨g, _, rfl, Rd.of_own hown, hb⟩
def clB (l : List UInt8) : Bool := clW.any fun x => l == x
theorem clW_len : clW.length = 13 := rfl
def sgW : List (List UInt8) := [[43], [45], [42], [47], [37], [38], [124], [94], [60, 60], [62, 62], [38, 38], [124, 124], [61, 61], [33, 61], [60], [60, 61], [62], [62, 61], [61], [58, 61], [40], [41], [123], [125], [91], [93], [44], [58], [33]]
theorem sgW_cut : cutG 32 (ByteArray.mk #[43, 32, 45, 32, 42, 32, 47, 32, 37, 32, 38, 32, 124, 32, 94, 32, 60, 60, 32, 62, 62, 32, 38, 38, 32, 124, 124, 32, 61, 61, 32, 33, 61, 32, 60, 32, 60, 61, 32, 62, 32, 62, 61, 32, 61, 32, 58, 61, 32, 40, 32, 41, 32, 123, 32, 125, 32, 91, 32, 93, 32, 44, 32, 58, 32, 33]).data.toList [] = sgW := by decide +kernel
theorem cutAt_sg (w : World) : Calls Tryz.prog 10 #[.string ⟨#[43, 32, 45, 32, 42, 32, 47, 32, 37, 32, 38, 32, 124, 32, 94, 32, 60, 60, 32, 62, 62, 32, 38, 38, 32, 124, 124, 32, 61, 61, 32, 33, 61, 32, 60, 32, 60, 61, 32, 62, 32, 62, 61, 32, 61, 32, 58, 61, 32, 40, 32, 41, 32, 123, 32, 125, 32, 91, 32, 93, 32, 44, 32, 58, 32, 33]⟩, .int .u8 32] w fun e w' => ∃ g c, e = .returned (.slice (some ⟨g, 0, none⟩) 29 c) ∧ Rd w' w'.heap.size 1 (some ⟨g, 0, none⟩) 29 (strs sgW) ∧ Below w.heap.size w w' := by
  have h := cutAt_any ⟨#[43, 32, 45, 32, 42, 32, 47, 32, 37, 32, 38, 32, 124, 32, 94, 32, 60, 60, 32, 62, 62, 32, 38, 38, 32, 124, 124, 32, 61, 61, 32, 33, 61, 32, 60, 32, 60, 61, 32, 62, 32, 62, 61, 32, 61, 32, 58, 61, 32, 40, 32, 41, 32, 123, 32, 125, 32, 91, 32, 93, 32, 44, 32, 58, 32, 33]⟩ 32 32 rfl (by decide +kernel) w
  rw [sgW_cut] at h
  refine h.mono ?_
  rintro e w' ⟨A, c, rfl, hown, hb⟩
  obtain ⟨g, cap, hv, _⟩ := hown.form (by decide)
  injection hv with hA _ hc
  subst hA hc
  exact ⟨g, _, rfl, Rd.of_own hown, hb⟩
/-- One sign more looked at. -/
def bestF (L b x : List UInt8) : List UInt8 := if b.length < x.length ∧ x.length ≤ L.length ∧ L.take x.length = x then x else b
theorem best_fold (L : List UInt8) : ∀ (W : List (List UInt8)) (b : List UInt8), b <+: L → (W.foldl (bestF L) b) <+: L ∧ (W.foldl (bestF L) b ∈ W ∨ W.foldl (bestF L) b = b) ∧ b.length ≤ (W.foldl (bestF L) b).length ∧ ∀ x ∈ W, x <+: L → x.length ≤ (W.foldl (bestF L) b).length
  | [], b, h => ⟨h, .inr rfl, Nat.le_refl _, fun _ h => nomatch h⟩
  | x :: W, b, h => by
    rw [List.foldl_cons]
    have h1 : bestF L b x <+: L := by
      unfold bestF
      split
      · rename_i hx
        rw [← hx.2.2]
        exact List.take_prefix _ _
      · exact h
    have h2 : b.length ≤ (bestF L b x).length := by unfold bestF; split <;> omega
    have h3 : x <+: L → x.length ≤ (bestF L b x).length := by
      intro hx
      unfold bestF
      split
      · exact Nat.le_refl _
      · rename_i hn
        rcases Nat.lt_or_ge b.length x.length with h5 | h5
        · exact absurd ⟨h5, hx.length_le, (List.prefix_iff_eq_take.1 hx).symm⟩ hn
        · exact h5
    have h4 : bestF L b x = x ∨ bestF L b x = b := by unfold bestF; split <;> simp
    obtain ⟨r1, r2, r3, r4⟩ := best_fold L W (bestF L b x) h1
    refine ⟨r1, ?_, by omega, ?_⟩
    · rcases r2 with r2 | r2
      · exact .inl (List.mem_cons_of_mem _ r2)
      · rw [r2]
        rcases h4 with h4 | h4
        · rw [h4]; exact .inl List.mem_cons_self
        · exact .inr h4
    · intro y hy hyl
      rcases List.mem_cons.1 hy with rfl | hy
      · exact Nat.le_trans (h3 hyl) r3
      · exact r4 y hy hyl
theorem sgW_two : ∀ x ∈ sgW, (x.length = 2 ∧ x ∈ sg2) ∨ (x.length = 1 ∧ sg1.contains (x.headD 0) = true) := by decide +kernel
theorem sg2_in : ∀ x ∈ sg2, x ∈ sgW ∧ x.length = 2 := by decide +kernel
theorem sg1_in : ∀ c ∈ sg1, [c] ∈ sgW := by decide +kernel
theorem signV_facts2 (L : List UInt8) : signV L <+: L ∧ (signV L ∈ sgW ∨ signV L = []) ∧ ∀ x ∈ sgW, x <+: L → x.length ≤ (signV L).length := by
  unfold signV
  split
  · rename_i h
    have h2 := sg2_in _ h
    refine ⟨List.take_prefix _ _, .inl h2.1, fun x hx _ => ?_⟩
    rw [h2.2]
    rcases sgW_two x hx with h3 | h3 <;> omega
  · rename_i h
    have hno : ∀ x ∈ sgW, x <+: L → x.length = 1 ∧ sg1.contains (x.headD 0) = true := by
      intro x hx hp
      rcases sgW_two x hx with h3 | h3
      · exfalso
        apply h
        have := List.prefix_iff_eq_take.1 hp
        rw [h3.1] at this
        rw [← this]
        exact h3.2
      · exact h3
    split
    · rename_i h1
      cases L with
      | nil => exact absurd rfl h1.2
      | cons c R =>
        refine ⟨List.take_prefix _ _, .inl ?_, fun x hx hp => ?_⟩
        · exact sg1_in c (by simpa using h1.1)
        · rw [(hno x hx hp).1]; simp
    · rename_i h1
      refine ⟨List.nil_prefix, .inr rfl, fun x hx hp => ?_⟩
      exfalso
      obtain ⟨h3, h4⟩ := hno x hx hp
      cases x with
      | nil => cases h3
      | cons d x =>
        cases L with
        | nil => simpa using hp.length_le
        | cons c R =>
          apply h1
          have : d = c := by have := List.cons_prefix_cons.1 hp; exact this.1
          subst this
          exact ⟨h4, by simp⟩
theorem best_sign (L : List UInt8) : sgW.foldl (bestF L) [] = signV L := by
  obtain ⟨a1, a2, _, a4⟩ := best_fold L sgW [] List.nil_prefix
  obtain ⟨b1, b2, b3⟩ := signV_facts2 L
  have hl : (sgW.foldl (bestF L) []).length = (signV L).length := by
    apply Nat.le_antisymm
    · rcases a2 with a2 | a2
      · exact b3 _ a2 a1
      · rw [a2]; exact Nat.zero_le _
    · rcases b2 with b2 | b2
      · exact a4 _ b2 b1
      · rw [b2]; exact Nat.zero_le _
  rw [List.prefix_iff_eq_take.1 a1, List.prefix_iff_eq_take.1 b1, hl]
theorem fold_take {α β : Type} (f : β → α → β) (b : β) (W : List α) (k : Nat) (hk : k < W.length) : (W.take (k + 1)).foldl f b = f ((W.take k).foldl f b) W[k] := by
  rw [List.take_succ_eq_append_getElem hk, List.foldl_append]
  rfl
theorem sgW_len : sgW.length = 29 := rfl
set_option maxHeartbeats 2000000 in
theorem signAt_any (s : ByteArray) (w : World) : Calls Tryz.prog 84 #[.string s] w fun e w' => e = .returned (.string ⟨(signV s.data.toList).toArray⟩) ∧ Below w.heap.size w w' := by
  go_enter Tryz.func84, Tryz.ntmps84
  go_wp2_with fail
  refine (cutAt_sg _).mono ?_
  rintro e w1 ⟨g, c, rfl, hr, hb⟩
  go_wp2_with fail
  go_loop [3, 8] (fun b i => ∃ (k : Nat) (B : ByteArray), k ≤ 29 ∧ i = .int .i64 k ∧ b = .string B ∧ B.size ≤ 2 ∧ Hid (B.data.toList = (sgW.take k).foldl (bestF s.data.toList) [])) (fun _ i => 29 - (intOf i).toNat)
  case atStart => exact ⟨0, ⟨#[]⟩, by omega, rfl, rfl, by decide, rfl⟩
  case round =>
    obtain ⟨k, B, hk, rfl, rfl, hB2, hn⟩ := hrel
    by_cases hlt : k < 29
    · have hw : k < sgW.length := by rw [sgW_len]; exact hlt
      obtain ⟨b, off, u, hA, _, hu, hc⟩ := hr.at1 hlt
      have hu' := strs_get hw hu
      injection hA with hA
      injection hA with hA1 hA2
      subst hA1 hA2 hu'
      clear hu
      rw [Nat.zero_add] at hc
      obtain ⟨x, hx⟩ : ∃ x, x = sgW[k] := ⟨_, rfl⟩
      have hxl : x.length ≤ 2 := by rcases sgW_two x (by rw [hx]; exact List.getElem_mem hw) with h | h <;> omega
      have HF := Lib.hid (fold_take (bestF s.data.toList) [] sgW k hw)
      rw [show sgW.getD k [] = sgW[k] by simp [List.getD_eq_getElem?_getD, List.getElem?_eq_getElem hw]] at hc
      rw [← hx] at HF hc
      obtain ⟨X, hX⟩ : ∃ X, X = (ByteArray.mk x.toArray) := ⟨_, rfl⟩
      rw [← hX] at hc
      have hXs : X.size = x.length := by rw [hX]; rfl
      have HX := Lib.hid hX
      have HXS := Lib.hid hXs
      have hX2 : X.size ≤ 2 := by omega
      have hBl := Lib.hid (show B.size = B.data.toList.length from rfl)
      have HN := hn
      clear hx hX hXs hn
      have stay : ∀ (_ : ¬ (B.size < X.size ∧ X.size ≤ s.size ∧ s.data.toList.take X.size = X.data.toList)), Hid (B.data.toList = (sgW.take (k + 1)).foldl (bestF s.data.toList) []) := fun h => Lib.hid (by
        rw [HF.out, ← HN.out]
        unfold bestF
        rw [if_neg]
        rw [← hBl.out, ← HXS.out]
        have e1 : x = X.data.toList := by rw [HX.out]
        rw [e1]
        exact h)
      have go : ∀ (_ : B.size < X.size ∧ X.size ≤ s.size ∧ s.data.toList.take X.size = X.data.toList), Hid (X.data.toList = (sgW.take (k + 1)).foldl (bestF s.data.toList) []) := fun h => Lib.hid (by
        rw [HF.out, ← HN.out]
        unfold bestF
        have e1 : x = X.data.toList := by rw [HX.out]
        rw [if_pos]
        · exact e1.symm
        · rw [← hBl.out, ← HXS.out, e1]
          exact h)
      have HSt := Lib.hid stay
      have HGo := Lib.hid go
      clear stay go
      by_cases h1 : B.size < X.size
      · by_cases h2 : X.size ≤ s.size
        · have hex : (s.extract 0 X.size).toList = s.data.toList.take X.size := by rw [ByteArray.toList_eq, ext_list]; simp
          have hxx : X.toList = X.data.toList := by rw [ByteArray.toList_eq]
          by_cases h3 : s.data.toList.take X.size = X.data.toList
          · have HY := HGo.out ⟨h1, h2, h3⟩
            have ht : ((s.extract 0 X.size).toList == X.toList) = true := by rw [hex, hxx, h3, beq_self_eq_true]
            clear hex hxx h3
            go_wp2_with fail
            exact ⟨⟨k + 1, X, by omega, by go_num, rfl, hX2, HY⟩, by simp [intOf]; omega⟩
          · have HY := HSt.out fun h => h3 h.2.2
            have ht : ((s.extract 0 X.size).toList == X.toList) = false := by rw [hex, hxx, beq_eq_false_iff_ne]; exact h3
            clear hex hxx h3
            go_wp2_with fail
            exact ⟨⟨k + 1, B, by omega, by go_num, rfl, hB2, HY⟩, by simp [intOf]; omega⟩
        · have HY := HSt.out fun h => h2 h.2.1
          go_wp2_with fail
          exact ⟨⟨k + 1, B, by omega, by go_num, rfl, hB2, HY⟩, by simp [intOf]; omega⟩
      · have HY := HSt.out fun h => h1 h.1
        go_wp2_with fail
        exact ⟨⟨k + 1, B, by omega, by go_num, rfl, hB2, HY⟩, by simp [intOf]; omega⟩
    · go_wp2
      go_ret
      have e : k = 29 := by omega
      subst e
      exact ⟨by rw [← best_sign, show sgW = sgW.take 29 from rfl, ← hn.out]; rfl, hb⟩
end Go.Proofs.YtjegfimagjmpdaaGreatDoor
end
section
/- The cutter's 'name'. Conditions: none. -/
set_option maxRecDepth 20000
namespace Go.Proofs.YtjegfimagjmpdaaGreatDoor
open Go.ChangeShapes Go.WideShapes Go.ChangeAt Go.RowKit
/-- What comes of a token's put. -/
def putR (src : ByteArray) (p n : Nat) (T : List Tk) (k : Int) : Except Int (Nat × List Tk) := addR src p n T k ((src.data.toList.drop p).take n)
def nameR (src : ByteArray) (p : Nat) (T : List Tk) : Except Int (Nat × List Tk) :=
  if 16 < alen (src.data.toList.drop p) then .error 7 else putR src p (alen (src.data.toList.drop p)) T (if wordB ((src.data.toList.drop p).take (alen (src.data.toList.drop p))) = true then 5 else 1)
/-- A method's end behind a put. -/
theorem MP.cases {g : Nat} {src : ByteArray} {p : Nat} {w : World} {r : Except Int (Nat × List Tk)} {e : Ending} {w' : World} (h : MP g src p w r e w') :
    (e = .returned (.tuple #[]) ∧ ∃ x, r = .ok x ∧ CuS w' g src x.1 x.2 ∧ Below g w w') ∨ (∃ c, r = .error c ∧ e = stopE c ((place (src.data.toList.take p)).1 : Int) ((place (src.data.toList.take p)).2 : Int) ∧ Below g w w') := by
  unfold MP at h
  cases r with
  | ok x => exact .inl ⟨h.1, x, rfl, h.2⟩
  | error c => exact .inr ⟨c, rfl, h⟩
set_option maxHeartbeats 2000000 in
theorem name_any (g : Nat) (src : ByteArray) (p : Nat) (T : List Tk) (w : World) (hcu : CuS w g src p T) (hT : T.length ≤ 2000) (hsz : src.size ≤ 8000) (hp : p < src.size) :
    Calls Tryz.prog 95 #[.pointer (some ⟨g, 0, none⟩)] w (MP g src p w (nameR src p T)) := by
  have HC := Lib.hid hcu
  have HT := Lib.hid hT
  obtain ⟨A, C, hcu⟩ := hcu
  have c0 := hcu.c0
  have c1 := hcu.c1
  have c2 := hcu.c2
  have c3 := hcu.c3
  clear hcu hT
  go_enter Tryz.func95, Tryz.ntmps95
  go_wp2_with fail
  go_loop [2] (fun n => ∃ (j i : Nat), n = .int .i64 (j : Int) ∧ Hid (j = p + i) ∧ p ≤ j ∧ j ≤ src.size ∧ Hid (i ≤ alen (src.data.toList.drop p))) (fun n => src.size - (intOf n).toNat)
  case atStart => exact ⟨p, 0, rfl, rfl, Nat.le_refl _, by omega, Lib.hid (Nat.zero_le _)⟩
  case round =>
    obtain ⟨j, i, rfl, hj, hpj, hjs, HI⟩ := hrel
    by_cases hlt : j < src.size
    · have hg := src_get src p i j hj.out hlt
      have HG := Lib.hid hg
      clear hg
      generalize hcc : src[j] = cc at *
      cases hL : isL cc with
      | true =>
        have HI2 := Lib.hid (tw_step (P := isA) HI.out HG.out (by unfold isA; rw [hL]; rfl))
        go_wp2_with (go_at_call 94; refine (letter_any cc _).mono ?_; rintro e w1 ⟨rfl, rfl⟩; rw [hL])
        go_round
        case rel => exact ⟨j + 1, i + 1, by go_num, Lib.hid (by have := hj.out; omega), by omega, by omega, HI2⟩
        case measure => simp [intOf]; omega
      | false =>
        cases hD : isD cc with
        | true =>
          have HI2 := Lib.hid (tw_step (P := isA) HI.out HG.out (by unfold isA; rw [hD]; simp))
          go_wp2_with (first
            | (go_at_call 94; refine (letter_any cc _).mono ?_; rintro e w1 ⟨rfl, rfl⟩; rw [hL])
            | (go_at_call 96; refine (digit_any cc _).mono ?_; rintro e w1 ⟨rfl, rfl⟩; rw [hD]))
          go_round
          case rel => exact ⟨j + 1, i + 1, by go_num, Lib.hid (by have := hj.out; omega), by omega, by omega, HI2⟩
          case measure => simp [intOf]; omega
        | false =>
          have HE := Lib.hid (show alen (src.data.toList.drop p) = i from Nat.le_antisymm (tw_stop HG.out (by unfold isA; rw [hL, hD]; rfl)) HI.out)
          go_wp2_with (first
            | (go_at_call 94; refine (letter_any cc _).mono ?_; rintro e w1 ⟨rfl, rfl⟩; rw [hL])
            | (go_at_call 96; refine (digit_any cc _).mono ?_; rintro e w1 ⟨rfl, rfl⟩; rw [hD]))
          obtain ⟨s, hs⟩ : ∃ s, src.extract p j = s := ⟨_, rfl⟩
          have hse : s = ⟨((src.data.toList.drop p).take i).toArray⟩ := by rw [← hs, hj.out]; exact ext_take src p i
          have hss : s.size = i := by rw [← hs, ByteArray.size_extract]; have := hj.out; omega
          have hpj2 : (p : Int) ≤ (j : Int) := by omega
          have hjs2 : (j : Int) ≤ (src.size : Int) := by omega
          have HSE := Lib.hid hse
          have HR := Lib.hid (show nameR src p T = if 16 < i then .error 7 else putR src p i T (if wordB ((src.data.toList.drop p).take i) = true then 5 else 1) by unfold nameR; rw [HE.out])
          have hip : i ≤ 8000 := by have := hj.out; omega
          have HPl := Lib.hid (show place (src.data.toList.take (p + i)) = ((place (src.data.toList.take p)).1, (place (src.data.toList.take p)).2 + i) by rw [← HE.out]; exact alen_place)
          clear hse
          go_quiet (fail)
          by_cases h16 : 16 < i
          · rw [if_pos h16] at HR
            go_wp2_with fail
            refine (fail_any g _ _ 7 _ (by exact c2) (by exact c3)).mono ?_
            rintro e w2 ⟨rfl, m, rfl⟩
            unfold stopE
            go_wp2_with fail
            rw [HR.out]
            exact ⟨rfl, rfl, dr (Below.refl _ _) _⟩
          · rw [if_neg h16] at HR
            have hB : wordB s.toList = wordB ((src.data.toList.drop p).take i) := by rw [HSE.out, toList_mk]
            cases hwd : wordB ((src.data.toList.drop p).take i) with
            | true =>
              rw [hwd] at hB HR
              have HR2 := Lib.hid (show nameR src p T = putR src p i T 5 by rw [HR.out, if_pos rfl])
              clear HR
              go_wp2_with fail
              refine (scanWord_any s _).mono ?_
              rintro e w2 ⟨rfl, rfl⟩
              rw [hB]
              go_wp2_with fail
              refine (putS g src p i 5 ((src.data.toList.drop p).take i) s (i : Int) T _ HSE.out rfl (HC.out.below (dr (Below.refl _ _) _)) HT.out hsz (by omega) hip HPl.out).mono ?_
              intro e w3 hmp
              rcases hmp.cases with ⟨rfl, x, hx, hc3, hb3⟩ | ⟨cd, hx, rfl, hb3⟩
              · have H3 := Lib.hid (And.intro hc3 hb3)
                clear hc3 hb3 hmp
                go_wp2_with fail
                go_end0
                rw [HR2.out]
                unfold putR
                rw [hx]
                exact ⟨rfl, H3.out.1, (dr (Below.refl _ _) _ : Below g _ _).trans H3.out.2⟩
              · unfold stopE
                go_wp2_with fail
                rw [HR2.out]
                unfold putR
                rw [hx]
                exact ⟨rfl, rfl, (dr (Below.refl _ _) _ : Below g _ _).trans hb3⟩
            | false =>
              rw [hwd] at hB HR
              have HR2 := Lib.hid (show nameR src p T = putR src p i T 1 by rw [HR.out, if_neg (by simp)])
              clear HR
              go_wp2_with fail
              refine (scanWord_any s _).mono ?_
              rintro e w2 ⟨rfl, rfl⟩
              rw [hB]
              go_wp2_with fail
              refine (putS g src p i 1 ((src.data.toList.drop p).take i) s (i : Int) T _ HSE.out rfl (HC.out.below (dr (Below.refl _ _) _)) HT.out hsz (by omega) hip HPl.out).mono ?_
              intro e w3 hmp
              rcases hmp.cases with ⟨rfl, x, hx, hc3, hb3⟩ | ⟨cd, hx, rfl, hb3⟩
              · have H3 := Lib.hid (And.intro hc3 hb3)
                clear hc3 hb3 hmp
                go_wp2_with fail
                go_end0
                rw [HR2.out]
                unfold putR
                rw [hx]
                exact ⟨rfl, H3.out.1, (dr (Below.refl _ _) _ : Below g _ _).trans H3.out.2⟩
              · unfold stopE
                go_wp2_with fail
                rw [HR2.out]
                unfold putR
                rw [hx]
                exact ⟨rfl, rfl, (dr (Below.refl _ _) _ : Below g _ _).trans hb3⟩
    · have HE := Lib.hid (show alen (src.data.toList.drop p) = i from Nat.le_antisymm (by have h := tw_len isA (src.data.toList.drop p); rw [drop_len] at h; unfold alen; have := hj.out; omega) HI.out)
      go_wp2_with fail
      obtain ⟨s, hs⟩ : ∃ s, src.extract p j = s := ⟨_, rfl⟩
      have hse : s = ⟨((src.data.toList.drop p).take i).toArray⟩ := by rw [← hs, hj.out]; exact ext_take src p i
      have hss : s.size = i := by rw [← hs, ByteArray.size_extract]; have := hj.out; omega
      have hpj2 : (p : Int) ≤ (j : Int) := by omega
      have hjs2 : (j : Int) ≤ (src.size : Int) := by omega
      have HSE := Lib.hid hse
      have HR := Lib.hid (show nameR src p T = if 16 < i then .error 7 else putR src p i T (if wordB ((src.data.toList.drop p).take i) = true then 5 else 1) by unfold nameR; rw [HE.out])
      have hip : i ≤ 8000 := by have := hj.out; omega
      have HPl := Lib.hid (show place (src.data.toList.take (p + i)) = ((place (src.data.toList.take p)).1, (place (src.data.toList.take p)).2 + i) by rw [← HE.out]; exact alen_place)
      clear hse
      go_quiet (fail)
      by_cases h16 : 16 < i
      · rw [if_pos h16] at HR
        go_wp2_with fail
        refine (fail_any g _ _ 7 _ (by exact c2) (by exact c3)).mono ?_
        rintro e w2 ⟨rfl, m, rfl⟩
        unfold stopE
        go_wp2_with fail
        rw [HR.out]
        exact ⟨rfl, rfl, dr (Below.refl _ _) _⟩
      · rw [if_neg h16] at HR
        have hB : wordB s.toList = wordB ((src.data.toList.drop p).take i) := by rw [HSE.out, toList_mk]
        cases hwd : wordB ((src.data.toList.drop p).take i) with
        | true =>
          rw [hwd] at hB HR
          have HR2 := Lib.hid (show nameR src p T = putR src p i T 5 by rw [HR.out, if_pos rfl])
          clear HR
          go_wp2_with fail
          refine (scanWord_any s _).mono ?_
          rintro e w2 ⟨rfl, rfl⟩
          rw [hB]
          go_wp2_with fail
          refine (putS g src p i 5 ((src.data.toList.drop p).take i) s (i : Int) T _ HSE.out rfl (HC.out.below (dr (Below.refl _ _) _)) HT.out hsz (by omega) hip HPl.out).mono ?_
          intro e w3 hmp
          rcases hmp.cases with ⟨rfl, x, hx, hc3, hb3⟩ | ⟨cd, hx, rfl, hb3⟩
          · have H3 := Lib.hid (And.intro hc3 hb3)
            clear hc3 hb3 hmp
            go_wp2_with fail
            go_end0
            rw [HR2.out]
            unfold putR
            rw [hx]
            exact ⟨rfl, H3.out.1, (dr (Below.refl _ _) _ : Below g _ _).trans H3.out.2⟩
          · unfold stopE
            go_wp2_with fail
            rw [HR2.out]
            unfold putR
            rw [hx]
            exact ⟨rfl, rfl, (dr (Below.refl _ _) _ : Below g _ _).trans hb3⟩
        | false =>
          rw [hwd] at hB HR
          have HR2 := Lib.hid (show nameR src p T = putR src p i T 1 by rw [HR.out, if_neg (by simp)])
          clear HR
          go_wp2_with fail
          refine (scanWord_any s _).mono ?_
          rintro e w2 ⟨rfl, rfl⟩
          rw [hB]
          go_wp2_with fail
          refine (putS g src p i 1 ((src.data.toList.drop p).take i) s (i : Int) T _ HSE.out rfl (HC.out.below (dr (Below.refl _ _) _)) HT.out hsz (by omega) hip HPl.out).mono ?_
          intro e w3 hmp
          rcases hmp.cases with ⟨rfl, x, hx, hc3, hb3⟩ | ⟨cd, hx, rfl, hb3⟩
          · have H3 := Lib.hid (And.intro hc3 hb3)
            clear hc3 hb3 hmp
            go_wp2_with fail
            go_end0
            rw [HR2.out]
            unfold putR
            rw [hx]
            exact ⟨rfl, H3.out.1, (dr (Below.refl _ _) _ : Below g _ _).trans H3.out.2⟩
          · unfold stopE
            go_wp2_with fail
            rw [HR2.out]
            unfold putR
            rw [hx]
            exact ⟨rfl, rfl, (dr (Below.refl _ _) _ : Below g _ _).trans hb3⟩
end Go.Proofs.YtjegfimagjmpdaaGreatDoor
end
section
/- The cutter's 'number'. Conditions: none. -/
set_option maxRecDepth 20000
namespace Go.Proofs.YtjegfimagjmpdaaGreatDoor
open Go.ChangeShapes Go.WideShapes Go.ChangeAt Go.RowKit
def numR (src : ByteArray) (p : Nat) (T : List Tk) : Except Int (Nat × List Tk) :=
  if (rd (((src.data.toList.drop p).take (alen (src.data.toList.drop p))).map UInt8.toNat)).isNone = true then .error 3 else putR src p (alen (src.data.toList.drop p)) T 2
set_option maxHeartbeats 2000000 in
theorem number_any (g : Nat) (src : ByteArray) (p : Nat) (T : List Tk) (w : World) (hcu : CuS w g src p T) (hT : T.length ≤ 2000) (hsz : src.size ≤ 8000) (hp : p < src.size) :
    Calls Tryz.prog 97 #[.pointer (some ⟨g, 0, none⟩)] w (MP g src p w (numR src p T)) := by
  have HC := Lib.hid hcu
  have HT := Lib.hid hT
  obtain ⟨A, C, hcu⟩ := hcu
  have c0 := hcu.c0
  have hgl : g < w.heap.size := World.block_lt_of_cell? w ⟨g, 0, none⟩ c0
  have c1 := hcu.c1
  have c2 := hcu.c2
  have c3 := hcu.c3
  clear hcu hT
  go_enter Tryz.func97, Tryz.ntmps97
  go_wp2_with fail
  go_loop [2] (fun n => ∃ (j i : Nat), n = .int .i64 (j : Int) ∧ Hid (j = p + i) ∧ p ≤ j ∧ j ≤ src.size ∧ Hid (i ≤ alen (src.data.toList.drop p))) (fun n => src.size - (intOf n).toNat)
  case atStart => exact ⟨p, 0, rfl, rfl, Nat.le_refl _, by omega, Lib.hid (Nat.zero_le _)⟩
  case round =>
    obtain ⟨j, i, rfl, hj, hpj, hjs, HI⟩ := hrel
    by_cases hlt : j < src.size
    · have hg := src_get src p i j hj.out hlt
      have HG := Lib.hid hg
      clear hg
      generalize hcc : src[j] = cc at *
      cases hL : isL cc with
      | true =>
        have HI2 := Lib.hid (tw_step (P := isA) HI.out HG.out (by unfold isA; rw [hL]; rfl))
        go_wp2_with (go_at_call 94; refine (letter_any cc _).mono ?_; rintro e w1 ⟨rfl, rfl⟩; rw [hL])
        go_round
        case rel => exact ⟨j + 1, i + 1, by go_num, Lib.hid (by have := hj.out; omega), by omega, by omega, HI2⟩
        case measure => simp [intOf]; omega
      | false =>
        cases hD : isD cc with
        | true =>
          have HI2 := Lib.hid (tw_step (P := isA) HI.out HG.out (by unfold isA; rw [hD]; simp))
          go_wp2_with (first
            | (go_at_call 94; refine (letter_any cc _).mono ?_; rintro e w1 ⟨rfl, rfl⟩; rw [hL])
            | (go_at_call 96; refine (digit_any cc _).mono ?_; rintro e w1 ⟨rfl, rfl⟩; rw [hD]))
          go_round
          case rel => exact ⟨j + 1, i + 1, by go_num, Lib.hid (by have := hj.out; omega), by omega, by omega, HI2⟩
          case measure => simp [intOf]; omega
        | false =>
          have HE := Lib.hid (show alen (src.data.toList.drop p) = i from Nat.le_antisymm (tw_stop HG.out (by unfold isA; rw [hL, hD]; rfl)) HI.out)
          go_wp2_with (first
            | (go_at_call 94; refine (letter_any cc _).mono ?_; rintro e w1 ⟨rfl, rfl⟩; rw [hL])
            | (go_at_call 96; refine (digit_any cc _).mono ?_; rintro e w1 ⟨rfl, rfl⟩; rw [hD]))
          obtain ⟨s, hs⟩ : ∃ s, src.extract p j = s := ⟨_, rfl⟩
          have hse : s = ⟨((src.data.toList.drop p).take i).toArray⟩ := by rw [← hs, hj.out]; exact ext_take src p i
          have hss : s.size = i := by rw [← hs, ByteArray.size_extract]; have := hj.out; omega
          have hpj2 : (p : Int) ≤ (j : Int) := by omega
          have hjs2 : (j : Int) ≤ (src.size : Int) := by omega
          have HSE := Lib.hid hse
          have hby : byt s = ((src.data.toList.drop p).take i).map UInt8.toNat := by rw [hse]; rfl
          have HR := Lib.hid (show numR src p T = if (rd (byt s)).isNone = true then .error 3 else putR src p i T 2 by unfold numR; rw [HE.out, hby])
          have hip : i ≤ 8000 := by have := hj.out; omega
          have HPl := Lib.hid (show place (src.data.toList.take (p + i)) = ((place (src.data.toList.take p)).1, (place (src.data.toList.take p)).2 + i) by rw [← HE.out]; exact alen_place)
          clear hse hby
          go_quiet (fail)
          go_wp2_with fail
          refine (wordRead_any s _).mono ?_
          rintro e w2 ⟨rfl, hb2⟩
          have HB2 := Lib.hid (sq (dr (Below.refl _ _) _) hb2)
          have d2 := (HB2.out.cell (p := ⟨g, 2, none⟩) hgl).trans c2
          have d3 := (HB2.out.cell (p := ⟨g, 3, none⟩) hgl).trans c3
          clear hb2
          cases hrd : rd (byt s) with
          | none =>
            rw [readV_none hrd]
            rw [hrd] at HR
            go_wp2_with fail
            refine (fail_any g _ _ 3 _ d2 d3).mono ?_
            rintro e w3 ⟨rfl, m, rfl⟩
            unfold stopE
            go_wp2_with fail
            rw [HR.out]
            exact ⟨rfl, rfl, dr (HB2.out.mono (Nat.le_of_lt hgl)) _⟩
          | some z =>
            rw [readV_some hrd]
            rw [hrd] at HR
            have HR2 := Lib.hid (show numR src p T = putR src p i T 2 by rw [HR.out]; rfl)
            clear HR
            go_wp2_with fail
            refine (putS g src p i 2 ((src.data.toList.drop p).take i) s (i : Int) T _ HSE.out rfl (HC.out.below HB2.out) HT.out hsz (by omega) hip HPl.out).mono ?_
            intro e w3 hmp
            rcases hmp.cases with ⟨rfl, x, hx, hc3, hb3⟩ | ⟨cd, hx, rfl, hb3⟩
            · have H3 := Lib.hid (And.intro hc3 hb3)
              clear hc3 hb3 hmp
              go_wp2_with fail
              go_end0
              rw [HR2.out]
              unfold putR
              rw [hx]
              exact ⟨rfl, H3.out.1, (HB2.out.mono (Nat.le_of_lt hgl)).trans H3.out.2⟩
            · unfold stopE
              go_wp2_with fail
              rw [HR2.out]
              unfold putR
              rw [hx]
              exact ⟨rfl, rfl, (HB2.out.mono (Nat.le_of_lt hgl)).trans hb3⟩
    · have HE := Lib.hid (show alen (src.data.toList.drop p) = i from Nat.le_antisymm (by have h := tw_len isA (src.data.toList.drop p); rw [drop_len] at h; unfold alen; have := hj.out; omega) HI.out)
      go_wp2_with fail
      obtain ⟨s, hs⟩ : ∃ s, src.extract p j = s := ⟨_, rfl⟩
      have hse : s = ⟨((src.data.toList.drop p).take i).toArray⟩ := by rw [← hs, hj.out]; exact ext_take src p i
      have hss : s.size = i := by rw [← hs, ByteArray.size_extract]; have := hj.out; omega
      have hpj2 : (p : Int) ≤ (j : Int) := by omega
      have hjs2 : (j : Int) ≤ (src.size : Int) := by omega
      have HSE := Lib.hid hse
      have hby : byt s = ((src.data.toList.drop p).take i).map UInt8.toNat := by rw [hse]; rfl
      have HR := Lib.hid (show numR src p T = if (rd (byt s)).isNone = true then .error 3 else putR src p i T 2 by unfold numR; rw [HE.out, hby])
      have hip : i ≤ 8000 := by have := hj.out; omega
      have HPl := Lib.hid (show place (src.data.toList.take (p + i)) = ((place (src.data.toList.take p)).1, (place (src.data.toList.take p)).2 + i) by rw [← HE.out]; exact alen_place)
      clear hse hby
      go_quiet (fail)
      go_wp2_with fail
      refine (wordRead_any s _).mono ?_
      rintro e w2 ⟨rfl, hb2⟩
      have HB2 := Lib.hid (sq (dr (Below.refl _ _) _) hb2)
      have d2 := (HB2.out.cell (p := ⟨g, 2, none⟩) hgl).trans c2
      have d3 := (HB2.out.cell (p := ⟨g, 3, none⟩) hgl).trans c3
      clear hb2
      cases hrd : rd (byt s) with
      | none =>
        rw [readV_none hrd]
        rw [hrd] at HR
        go_wp2_with fail
        refine (fail_any g _ _ 3 _ d2 d3).mono ?_
        rintro e w3 ⟨rfl, m, rfl⟩
        unfold stopE
        go_wp2_with fail
        rw [HR.out]
        exact ⟨rfl, rfl, dr (HB2.out.mono (Nat.le_of_lt hgl)) _⟩
      | some z =>
        rw [readV_some hrd]
        rw [hrd] at HR
        have HR2 := Lib.hid (show numR src p T = putR src p i T 2 by rw [HR.out]; rfl)
        clear HR
        go_wp2_with fail
        refine (putS g src p i 2 ((src.data.toList.drop p).take i) s (i : Int) T _ HSE.out rfl (HC.out.below HB2.out) HT.out hsz (by omega) hip HPl.out).mono ?_
        intro e w3 hmp
        rcases hmp.cases with ⟨rfl, x, hx, hc3, hb3⟩ | ⟨cd, hx, rfl, hb3⟩
        · have H3 := Lib.hid (And.intro hc3 hb3)
          clear hc3 hb3 hmp
          go_wp2_with fail
          go_end0
          rw [HR2.out]
          unfold putR
          rw [hx]
          exact ⟨rfl, H3.out.1, (HB2.out.mono (Nat.le_of_lt hgl)).trans H3.out.2⟩
        · unfold stopE
          go_wp2_with fail
          rw [HR2.out]
          unfold putR
          rw [hx]
          exact ⟨rfl, rfl, (HB2.out.mono (Nat.le_of_lt hgl)).trans hb3⟩
end Go.Proofs.YtjegfimagjmpdaaGreatDoor
end
section
/- Plain: where a quoted text ends. Conditions: none. -/
namespace Go.Proofs.YtjegfimagjmpdaaGreatDoor
open Go
/-- How many bytes stand ahead of the closing quote. -/
def qpos : List UInt8 → Option Nat
  | [] => none
  | [c] => if c = 34 then some 0 else none
  | c :: e :: r => if c = 34 then some 0 else if c = 10 then none else if c = 92 then (qpos r).map (· + 2) else (qpos (e :: r)).map (· + 1)
theorem qpos_dec : ∀ (n : Nat) (l : List UInt8), l.length ≤ n → ∀ m t, dec l = some (m, t) → ∃ k, qpos l = some k ∧ t = l.drop (k + 1) ∧ dec (l.take (k + 1)) = some (m, []) := by
  intro n
  induction n with
  | zero =>
    intro l h m t hd
    obtain rfl : l = [] := List.eq_nil_of_length_eq_zero (by omega)
    simp [dec] at hd
  | succ n ih =>
    intro l h m t hd
    match l with
    | [] => simp [dec] at hd
    | [c] =>
      rw [dec] at hd
      by_cases h1 : c = 34
      · simp [h1] at hd
        obtain ⟨rfl, rfl⟩ := hd
        exact ⟨0, by simp [qpos, h1], by simp, by simp [dec, h1]⟩
      · simp [h1] at hd
    | c :: e :: r =>
      rw [dec] at hd
      by_cases g1 : c = 34
      · simp [g1] at hd
        obtain ⟨rfl, rfl⟩ := hd
        exact ⟨0, by simp [qpos, g1], by simp, by simp [dec, g1]⟩
      · rw [if_neg g1] at hd
        by_cases g2 : c = 92
        · rw [if_pos g2] at hd
          cases he : escOf e with
          | none => rw [he] at hd; simp at hd
          | some x =>
            rw [he] at hd
            simp only [Option.bind_some, Option.map_eq_some_iff, Prod.mk.injEq] at hd
            obtain ⟨⟨p1, p2⟩, hp, rfl, rfl⟩ := hd
            obtain ⟨k, h1, h2, h3⟩ := ih r (by simp at h; omega) _ _ hp
            refine ⟨k + 2, ?_, by simpa using h2, ?_⟩
            · rw [qpos, if_neg g1, if_neg (by rw [g2]; decide), if_pos g2, h1]; rfl
            · simp only [show k + 2 + 1 = (k + 1) + 1 + 1 by omega, List.take_succ_cons]
              rw [dec, if_neg g1, if_pos g2, he, h3]
              rfl
        · rw [if_neg g2] at hd
          by_cases g3 : okB c = true
          · rw [if_pos g3] at hd
            simp only [Option.map_eq_some_iff, Prod.mk.injEq] at hd
            obtain ⟨⟨p1, p2⟩, hp, rfl, rfl⟩ := hd
            obtain ⟨k, h1, h2, h3⟩ := ih (e :: r) (by simp at h ⊢; omega) _ _ hp
            have g4 : c ≠ 10 := by rintro rfl; revert g3; decide
            refine ⟨k + 1, ?_, by simpa using h2, ?_⟩
            · rw [qpos, if_neg g1, if_neg g4, if_neg g2, h1]; rfl
            · rw [List.take_succ_cons]
              rw [show (e :: r).take (k + 1) = e :: r.take k from rfl] at h3 ⊢
              rw [dec, if_neg g1, if_neg g2, if_pos g3, h3]
              rfl
          · rw [if_neg g3] at hd; simp at hd
theorem dec_more : ∀ (n : Nat) (l : List UInt8), l.length ≤ n → ∀ m t b, dec l = some (m, t) → dec (l ++ b) = some (m, t ++ b) := by
  intro n
  induction n with
  | zero =>
    intro l h m t b hd
    obtain rfl : l = [] := List.eq_nil_of_length_eq_zero (by omega)
    simp [dec] at hd
  | succ n ih =>
    intro l h m t b hd
    match l with
    | [] => simp [dec] at hd
    | [c] =>
      rw [dec] at hd
      by_cases h1 : c = 34
      · simp [h1] at hd
        obtain ⟨rfl, rfl⟩ := hd
        cases b <;> simp [dec, h1]
      · simp [h1] at hd
    | c :: e :: r =>
      rw [List.cons_append, List.cons_append]
      rw [dec] at hd ⊢
      by_cases g1 : c = 34
      · simp [g1] at hd
        obtain ⟨rfl, rfl⟩ := hd
        simp [g1]
      · rw [if_neg g1] at hd ⊢
        by_cases g2 : c = 92
        · rw [if_pos g2] at hd ⊢
          cases he : escOf e with
          | none => rw [he] at hd; simp at hd
          | some x =>
            rw [he] at hd
            simp only [Option.bind_some, Option.map_eq_some_iff, Prod.mk.injEq] at hd
            obtain ⟨⟨p1, p2⟩, hp, rfl, rfl⟩ := hd
            rw [Option.bind_some, ih r (by simp at h; omega) _ _ b hp]
            rfl
        · rw [if_neg g2] at hd ⊢
          by_cases g3 : okB c = true
          · rw [if_pos g3] at hd ⊢
            simp only [Option.map_eq_some_iff, Prod.mk.injEq] at hd
            obtain ⟨⟨p1, p2⟩, hp, rfl, rfl⟩ := hd
            rw [← List.cons_append, ih (e :: r) (by simp at h ⊢; omega) _ _ b hp]
            rfl
          · rw [if_neg g3] at hd; simp at hd
/-- The steps of the search. -/
def qAt (r : List UInt8) (i : Nat) : Prop := qpos r = (qpos (r.drop i)).map (· + i)
theorem qAt.start (r : List UInt8) : qAt r 0 := by
  unfold qAt
  rw [List.drop_zero]
  cases qpos r <;> simp
theorem qAt.close {r : List UInt8} {i : Nat} (h : qAt r i) (hx : r[i]? = some 34) : qpos r = some i := by
  have hi : i < r.length := by rw [List.getElem?_eq_some_iff] at hx; exact hx.1
  have e : r.drop i = 34 :: r.drop (i + 1) := by
    rw [List.drop_eq_getElem_cons hi]
    rw [List.getElem?_eq_getElem hi] at hx
    injection hx with hx
    rw [hx]
  unfold qAt at h
  rw [h, e]
  cases hr : r.drop (i + 1) <;> simp [qpos]
theorem qAt.nl {r : List UInt8} {i : Nat} (h : qAt r i) (hx : r[i]? = some 10) : qpos r = none := by
  have hi : i < r.length := by rw [List.getElem?_eq_some_iff] at hx; exact hx.1
  have e : r.drop i = 10 :: r.drop (i + 1) := by
    rw [List.drop_eq_getElem_cons hi]
    rw [List.getElem?_eq_getElem hi] at hx
    injection hx with hx
    rw [hx]
  unfold qAt at h
  rw [h, e]
  cases hr : r.drop (i + 1) <;> simp [qpos]
theorem qAt.over {r : List UInt8} {i : Nat} (h : qAt r i) (hi : r.length ≤ i) : qpos r = none := by
  unfold qAt at h
  rw [h, List.drop_eq_nil_of_le hi]
  rfl
theorem qAt.esc {r : List UInt8} {i : Nat} (h : qAt r i) (hx : r[i]? = some 92) : qAt r (i + 2) := by
  have hi : i < r.length := by rw [List.getElem?_eq_some_iff] at hx; exact hx.1
  have e : r.drop i = 92 :: r.drop (i + 1) := by
    rw [List.drop_eq_getElem_cons hi]
    rw [List.getElem?_eq_getElem hi] at hx
    injection hx with hx
    rw [hx]
  unfold qAt at h ⊢
  rw [h, e]
  rcases Nat.lt_or_ge (i + 1) r.length with h2 | h2
  · rw [List.drop_eq_getElem_cons h2, qpos]
    simp only [show (92 : UInt8) ≠ 34 by decide, show (92 : UInt8) ≠ 10 by decide, if_false, if_true, Option.map_map]
    congr 1
    funext x
    simp
    omega
  · rw [List.drop_eq_nil_of_le h2, List.drop_eq_nil_of_le (by omega)]
    simp [qpos]
theorem qAt.plain {r : List UInt8} {i : Nat} {c : UInt8} (h : qAt r i) (hx : r[i]? = some c) (h1 : c ≠ 34) (h2 : c ≠ 10) (h3 : c ≠ 92) : qAt r (i + 1) := by
  have hi : i < r.length := by rw [List.getElem?_eq_some_iff] at hx; exact hx.1
  have e : r.drop i = c :: r.drop (i + 1) := by
    rw [List.drop_eq_getElem_cons hi]
    rw [List.getElem?_eq_getElem hi] at hx
    injection hx with hx
    rw [hx]
  unfold qAt at h ⊢
  rw [h, e]
  rcases Nat.lt_or_ge (i + 1) r.length with h4 | h4
  · rw [List.drop_eq_getElem_cons h4, qpos, if_neg h1, if_neg h2, if_neg h3, Option.map_map]
    congr 1
    funext x
    simp
    omega
  · rw [List.drop_eq_nil_of_le h4]
    simp [qpos, h1]
theorem dec_nl : ∀ (n : Nat) (l : List UInt8), l.length ≤ n → ∀ m, dec l = some (m, []) → ∀ c ∈ l, c ≠ 10 := by
  intro n
  induction n with
  | zero =>
    intro l h m hd
    obtain rfl : l = [] := List.eq_nil_of_length_eq_zero (by omega)
    simp
  | succ n ih =>
    intro l h m hd
    match l with
    | [] => simp
    | [c] =>
      rw [dec] at hd
      by_cases h1 : c = 34
      · intro d hd2
        simp at hd2
        rw [hd2, h1]; decide
      · simp [h1] at hd
    | c :: e :: r =>
      rw [dec] at hd
      by_cases g1 : c = 34
      · simp [g1] at hd
      · rw [if_neg g1] at hd
        by_cases g2 : c = 92
        · rw [if_pos g2] at hd
          cases he : escOf e with
          | none => rw [he] at hd; simp at hd
          | some x =>
            rw [he] at hd
            simp only [Option.bind_some, Option.map_eq_some_iff, Prod.mk.injEq] at hd
            obtain ⟨⟨p1, p2⟩, hp, _, rfl⟩ := hd
            have e10 : escOf 10 = none := by decide
            have he10 : e ≠ 10 := by rintro rfl; rw [e10] at he; cases he
            intro d hd2
            simp at hd2
            rcases hd2 with rfl | rfl | hd2
            · rw [g2]; decide
            · exact he10
            · exact ih r (by simp at h; omega) _ hp d hd2
        · rw [if_neg g2] at hd
          by_cases g3 : okB c = true
          · rw [if_pos g3] at hd
            simp only [Option.map_eq_some_iff, Prod.mk.injEq] at hd
            obtain ⟨⟨p1, p2⟩, hp, _, rfl⟩ := hd
            have g4 : c ≠ 10 := by rintro rfl; revert g3; decide
            intro d hd2
            rcases List.mem_cons.1 hd2 with rfl | hd2
            · exact g4
            · exact ih (e :: r) (by simp at h ⊢; omega) _ hp d hd2
          · rw [if_neg g3] at hd; simp at hd
theorem text_no {r : List UInt8} (h : qpos r = none) : textLen (34 :: r) = 0 := by
  rw [textLen]
  cases hd : dec r with
  | none => rfl
  | some x =>
    obtain ⟨m, t⟩ := x
    obtain ⟨k, h1, _⟩ := qpos_dec _ r (Nat.le_refl _) m t hd
    rw [h] at h1
    cases h1
theorem text_yes {r : List UInt8} {k : Nat} (h : qpos r = some k) (hk : k < r.length) :
    (unq (34 :: r.take (k + 1)) = none → textLen (34 :: r) = 0) ∧ (∀ m, unq (34 :: r.take (k + 1)) = some m → textLen (34 :: r) = k + 2 ∧ ∀ c ∈ 34 :: r.take (k + 1), c ≠ 10) := by
  rw [textLen, unq, if_pos rfl]
  cases hd : dec r with
  | none =>
    have hn : ∀ m, dec (r.take (k + 1)) ≠ some (m, []) := fun m hm => by
      have := dec_more _ _ (Nat.le_refl _) m [] (r.drop (k + 1)) hm
      rw [List.take_append_drop, hd] at this
      cases this
    refine ⟨fun _ => rfl, fun m hm => ?_⟩
    split at hm
    · rename_i m' hm'
      exact absurd hm' (hn m')
    · cases hm
  | some x =>
    obtain ⟨m, t⟩ := x
    obtain ⟨k', h1, h2, h3⟩ := qpos_dec _ r (Nat.le_refl _) m t hd
    rw [h] at h1
    injection h1 with h1
    subst h1
    have hnl := dec_nl _ _ (Nat.le_refl _) m h3
    simp only [h3]
    have ht : t.length = r.length - (k + 1) := by rw [h2, List.length_drop]
    refine ⟨fun hm => ?_, fun q hm => ?_⟩
    · split at hm
      · rename_i h5; rw [if_pos h5]
      · cases hm
    · split at hm
      · cases hm
      · rename_i h5
        rw [if_neg h5]
        refine ⟨by omega, fun c hc => ?_⟩
        rcases List.mem_cons.1 hc with rfl | hc
        · decide
        · exact hnl c hc
end Go.Proofs.YtjegfimagjmpdaaGreatDoor
end
section
/- The cutter's 'text'. Conditions: none. -/
set_option maxRecDepth 20000
namespace Go.Proofs.YtjegfimagjmpdaaGreatDoor
open Go.ChangeShapes Go.WideShapes Go.ChangeAt Go.RowKit
def textR (src : ByteArray) (p : Nat) (T : List Tk) : Except Int (Nat × List Tk) :=
  if textLen (src.data.toList.drop p) = 0 then .error 4 else putR src p (textLen (src.data.toList.drop p)) T 3
theorem text_rest {src : ByteArray} {p : Nat} (hp : p < src.size) (h : src[p] = 34) : src.data.toList.drop p = 34 :: src.data.toList.drop (p + 1) := by rw [byl_drop src p hp, h]
theorem neq_c {c d : UInt8} (h : c ≠ d) : (((c.toNat : Int) != (d.toNat : Int)) = true) := by
  simp only [bne_iff_ne, ne_eq, Int.natCast_inj]
  exact fun e => h (UInt8.toNat_inj.1 e)
theorem eq_c {c d : UInt8} (h : c ≠ d) : (((c.toNat : Int) == (d.toNat : Int)) = false) := by
  simp only [beq_eq_false_iff_ne, ne_eq, Int.natCast_inj]
  exact fun e => h (UInt8.toNat_inj.1 e)
set_option maxHeartbeats 2000000 in
theorem text_any (g : Nat) (src : ByteArray) (p : Nat) (T : List Tk) (w : World) (hcu : CuS w g src p T) (hT : T.length ≤ 2000) (hsz : src.size ≤ 8000) (hp : p < src.size) (h34 : src[p] = 34) :
    Calls Tryz.prog 98 #[.pointer (some ⟨g, 0, none⟩)] w (MP g src p w (textR src p T)) := by
  have HC := Lib.hid hcu
  have HT := Lib.hid hT
  have HRs := Lib.hid (text_rest hp h34)
  obtain ⟨A, C, hcu⟩ := hcu
  have c0 := hcu.c0
  have c1 := hcu.c1
  have c2 := hcu.c2
  have c3 := hcu.c3
  have hgl : g < w.heap.size := World.block_lt_of_cell? w ⟨g, 0, none⟩ c0
  clear hcu hT h34
  go_enter Tryz.func98, Tryz.ntmps98
  go_wp2_with fail
  go_loop [2] (fun n => ∃ (j i : Nat), n = .int .i64 (j : Int) ∧ Hid (j = p + 1 + i) ∧ p + 1 ≤ j ∧ j ≤ src.size + 1 ∧ Hid (qAt (src.data.toList.drop (p + 1)) i)) (fun n => src.size + 2 - (intOf n).toNat)
  case atStart => exact ⟨p + 1, 0, by go_num, Lib.hid rfl, Nat.le_refl _, by omega, Lib.hid (qAt.start _)⟩
  case round =>
    obtain ⟨j, i, rfl, hj, hpj, hjs, HI⟩ := hrel
    by_cases hlt : j < src.size
    · have hg := src_get src (p + 1) i j hj.out hlt
      have HG := Lib.hid hg
      clear hg
      generalize hcc : src[j] = cc at *
      by_cases h1 : cc = 34
      · have hQ := HI.out.close (by rw [HG.out, h1])
        have hk : i < (src.data.toList.drop (p + 1)).length := by rw [drop_len]; have := hj.out; omega
        have hY := text_yes hQ hk
        rw [← HRs.out] at hY
        obtain ⟨s, hs⟩ : ∃ s, src.extract p (j + 1) = s := ⟨_, rfl⟩
        have hse : s = ⟨((src.data.toList.drop p).take (i + 2)).toArray⟩ := by rw [← hs, show j + 1 = p + (i + 2) by have := hj.out; omega]; exact ext_take src p (i + 2)
        have hsl : s.data.toList = 34 :: (src.data.toList.drop (p + 1)).take (i + 1) := by rw [hse, HRs.out]; rfl
        have hss : s.size = i + 2 := by rw [← hs, ByteArray.size_extract]; have := hj.out; omega
        have hpj2 : (p : Int) ≤ (j : Int) + 1 := by omega
        have hjs2 : (j : Int) + 1 ≤ (src.size : Int) := by omega
        have e1 : (((cc.toNat : Int)) != 34) = false := by rw [h1]; rfl
        have HSE := Lib.hid hse
        have HSL := Lib.hid hsl
        have HY := Lib.hid hY
        have hip : i + 2 ≤ 8000 := by have := hj.out; omega
        clear hse hsl hY hQ hk
        go_wp2_with fail
        go_quiet (fail)
        go_wp2_with fail
        refine (scanUnquote_any s (by omega) _).mono ?_
        rintro e w2 ⟨rfl, hb2⟩
        have HB2 := Lib.hid (sq (dr (Below.refl _ _) _) hb2)
        have d2 := (HB2.out.cell (p := ⟨g, 2, none⟩) hgl).trans c2
        have d3 := (HB2.out.cell (p := ⟨g, 3, none⟩) hgl).trans c3
        clear hb2
        cases hu : unq s.data.toList with
        | none =>
          rw [unqV_none hu]
          have HR := Lib.hid (show textR src p T = .error 4 by unfold textR; rw [HY.out.1 (by rw [← HSL.out]; exact hu), if_pos rfl])
          go_wp2_with fail
          refine (fail_any g _ _ 4 _ d2 d3).mono ?_
          rintro e w3 ⟨rfl, m, rfl⟩
          unfold stopE
          go_wp2_with fail
          rw [HR.out]
          exact ⟨rfl, rfl, dr (HB2.out.mono (Nat.le_of_lt hgl)) _⟩
        | some q =>
          rw [unqV_some hu]
          have hY2 := HY.out.2 q (by rw [← HSL.out]; exact hu)
          have HR2 := Lib.hid (show textR src p T = putR src p (i + 2) T 3 by unfold textR; rw [hY2.1, if_neg (by omega)])
          have HPl := Lib.hid (show place (src.data.toList.take (p + (i + 2))) = ((place (src.data.toList.take p)).1, (place (src.data.toList.take p)).2 + (i + 2)) from place_step (by rw [drop_len]; have := hj.out; omega) (by rw [HRs.out]; exact hY2.2))
          have hz : ((i : Int) + 2) = ((i + 2 : Nat) : Int) := by omega
          have HZ := Lib.hid hz
          clear hY2 hz
          go_wp2_with fail
          refine (putS g src p (i + 2) 3 ((src.data.toList.drop p).take (i + 2)) s _ T _ HSE.out HZ.out (HC.out.below HB2.out) HT.out hsz (by omega) hip HPl.out).mono ?_
          intro e w3 hmp
          rcases hmp.cases with ⟨rfl, x, hx, hc3, hb3⟩ | ⟨cd, hx, rfl, hb3⟩
          · have H3 := Lib.hid (And.intro hc3 hb3)
            clear hc3 hb3 hmp
            go_wp2_with fail
            go_end0
            rw [HR2.out]
            unfold putR
            rw [hx]
            exact ⟨rfl, H3.out.1, (HB2.out.mono (Nat.le_of_lt hgl)).trans H3.out.2⟩
          · unfold stopE
            go_wp2_with fail
            rw [HR2.out]
            unfold putR
            rw [hx]
            exact ⟨rfl, rfl, (HB2.out.mono (Nat.le_of_lt hgl)).trans hb3⟩
      · by_cases h2 : cc = 10
        · have HR := Lib.hid (show textR src p T = .error 4 by unfold textR; rw [HRs.out, text_no (HI.out.nl (by rw [HG.out, h2])), if_pos rfl])
          have e1 : (((cc.toNat : Int)) != 34) = true := by rw [h2]; rfl
          have e2 : (((cc.toNat : Int)) != 10) = false := by rw [h2]; rfl
          go_wp2_with fail
          refine (fail_any g _ _ 4 _ c2 c3).mono ?_
          rintro e w3 ⟨rfl, m, rfl⟩
          unfold stopE
          go_wp2_with fail
          rw [HR.out]
          exact ⟨rfl, rfl, dr (Below.refl _ _) _⟩
        · have n1 := neq_c (d := 34) h1
          have n2 := neq_c (d := 10) h2
          rw [show ((34 : UInt8).toNat : Int) = 34 from rfl] at n1
          rw [show ((10 : UInt8).toNat : Int) = 10 from rfl] at n2
          by_cases h3 : cc = 92
          · have HI2 := Lib.hid (HI.out.esc (by rw [HG.out, h3]))
            have e3 : (((cc.toNat : Int)) == 92) = true := by rw [h3]; rfl
            go_wp2
            go_round
            case rel => exact ⟨j + 2, i + 2, by go_num, Lib.hid (by have := hj.out; omega), by omega, by omega, HI2⟩
            case measure => simp [intOf]; omega
          · have HI2 := Lib.hid (HI.out.plain HG.out h1 h2 h3)
            have e3 := eq_c (d := 92) h3
            rw [show ((92 : UInt8).toNat : Int) = 92 from rfl] at e3
            go_wp2
            go_round
            case rel => exact ⟨j + 1, i + 1, by go_num, Lib.hid (by have := hj.out; omega), by omega, by omega, HI2⟩
            case measure => simp [intOf]; omega
    · have HR := Lib.hid (show textR src p T = .error 4 by unfold textR; rw [HRs.out, text_no (HI.out.over (by rw [drop_len]; have := hj.out; omega)), if_pos rfl])
      go_wp2_with fail
      refine (fail_any g _ _ 4 _ c2 c3).mono ?_
      rintro e w3 ⟨rfl, m, rfl⟩
      unfold stopE
      go_wp2_with fail
      rw [HR.out]
      exact ⟨rfl, rfl, dr (Below.refl _ _) _⟩
end Go.Proofs.YtjegfimagjmpdaaGreatDoor
end
section
/- A text's begin. Conditions: none. -/
set_option maxRecDepth 20000
namespace Go.Proofs.YtjegfimagjmpdaaGreatDoor
open Go.ChangeShapes Go.WideShapes Go.ChangeAt Go.RowKit
/-- Does a text begin so? -/
def pfxB (s p : ByteArray) : Bool := decide (p.size ≤ s.size) && decide (s.extract 0 p.size = p)
theorem ba_eq (a b : ByteArray) : (a.toList == b.toList) = decide (a = b) := by
  rw [ByteArray.toList_eq, ByteArray.toList_eq]
  by_cases h : a = b
  · subst h; simp
  · rw [decide_eq_false h]
    simp only [beq_eq_false_iff_ne, ne_eq]
    exact fun e => h (ByteArray.ext (Array.ext' e))
theorem hasPrefix_lite (s p : ByteArray) (w : World) : Calls Tryz.prog 52 #[.string s, .string p] w fun e w' => e = .returned (.bool (pfxB s p)) ∧ w' = w := by
  by_cases h : p.size ≤ s.size
  · have HE := Lib.hid (show pfxB s p = ((s.extract 0 p.size).toList == p.toList) by unfold pfxB; rw [decide_eq_true h, Bool.true_and, ba_eq])
    have h1 : decide (p.size ≤ s.size) = true := decide_eq_true h
    go_enter Tryz.func52, Tryz.ntmps52
    go_wp2_with fail
    go_ret
    exact ⟨by rw [HE.out]; rfl, rfl⟩
  · have HE := Lib.hid (show pfxB s p = false by unfold pfxB; rw [decide_eq_false h, Bool.false_and])
    have h1 : decide (p.size ≤ s.size) = false := decide_eq_false h
    go_enter Tryz.func52, Tryz.ntmps52
    go_wp2_with fail
    go_ret
    exact ⟨by rw [HE.out]; rfl, rfl⟩
theorem pfx_le {s p : ByteArray} (h : pfxB s p = true) : p.size ≤ s.size := by
  unfold pfxB at h
  rw [Bool.and_eq_true, decide_eq_true_eq] at h
  exact h.1
end Go.Proofs.YtjegfimagjmpdaaGreatDoor
end
section
/- strings.HasPrefix: what it answers. Conditions: none. -/
set_option maxRecDepth 20000
namespace Go.Proofs.YtjegfimagjmpdaaGreatDoor
open Go.ChangeShapes Go.WideShapes Go.ChangeAt Go.RowKit
theorem hasPrefix_any (s p : ByteArray) (w : World) : Calls Tryz.prog 93 #[.string s, .string p] w fun e w' => e = .returned (.bool (pfxB s p)) ∧ w' = w := by
  go_enter Tryz.func93, Tryz.ntmps93
  go_wp2_with fail
  refine (hasPrefix_lite s p _).mono ?_
  rintro e w1 ⟨rfl, rfl⟩
  go_wp2_with fail
  go_ret
  exact ⟨rfl, rfl⟩
end Go.Proofs.YtjegfimagjmpdaaGreatDoor
end
section
/- The document's 'tokenAt'. Conditions: none. -/
set_option maxRecDepth 20000
namespace Go.Proofs.YtjegfimagjmpdaaGreatDoor
open Go.ChangeShapes Go.WideShapes Go.ChangeAt Go.RowKit
/-- The token at the begin: kind, bytes, what is wrong. -/
def tokR (L : List UInt8) : Int × Int × Int :=
  if isL (L.headD 0) = true then (if 16 < alen L then (0, 0, 7) else ((if wordB (L.take (alen L)) = true then 5 else 1), (alen L : Int), 0))
  else if isD (L.headD 0) = true then (if (rd ((L.take (alen L)).map UInt8.toNat)).isNone = true then (0, 0, 3) else (2, (alen L : Int), 0))
  else if L.headD 0 = 34 then (if textLen L = 0 then (0, 0, 4) else (3, (textLen L : Int), 0))
  else if L.headD 0 = 59 then (6, 1, 0)
  else if signV L = [] then (0, 0, 2) else (4, ((signV L).length : Int), 0)
def tokV (L : List UInt8) : Value := .tuple #[.int .i64 (tokR L).1, .int .i64 (tokR L).2.1, .int .i64 (tokR L).2.2]
theorem alen_zero {L : List UInt8} (h : isA (L.headD 0) = false) : alen L = 0 := by
  cases L with
  | nil => rfl
  | cons c R =>
    unfold alen
    rw [List.takeWhile_cons, show isA c = false from h]
    rfl
theorem alen_posi {L : List UInt8} (hn : L ≠ []) (h : isA (L.headD 0) = true) : 0 < alen L := by
  cases L with
  | nil => exact absurd rfl hn
  | cons c R =>
    unfold alen
    rw [List.takeWhile_cons, show isA c = true from h]
    simp
theorem tokR_step {L : List UInt8} (h1 : L.headD 0 ≠ 10) (h2 : ¬ (L.headD 0 = 32 ∨ L.headD 0 = 9 ∨ L.headD 0 = 13)) (h3 : ¬ L.take 2 = [47, 47]) :
    (∃ (k : Int) (n : Nat), stepS L = .tok k n ∧ tokR L = (k, (n : Int), 0)) ∨ (∃ c, stepS L = .err c ∧ tokR L = (0, 0, c) ∧ c ≠ 0) := by
  unfold stepS tokR
  dsimp only
  rw [if_neg h1, if_neg h2, if_neg h3]
  split
  · split
    · exact .inr ⟨7, rfl, rfl, by decide⟩
    · exact .inl ⟨_, _, rfl, rfl⟩
  · split
    · split
      · exact .inr ⟨3, rfl, rfl, by decide⟩
      · exact .inl ⟨_, _, rfl, rfl⟩
    · split
      · split
        · exact .inr ⟨4, rfl, rfl, by decide⟩
        · exact .inl ⟨_, _, rfl, rfl⟩
      · split
        · exact .inl ⟨_, _, rfl, rfl⟩
        · split
          · exact .inr ⟨2, rfl, rfl, by decide⟩
          · exact .inl ⟨_, _, rfl, rfl⟩
theorem head_zero (s : ByteArray) (h : 0 < s.size) : s.data.toList.headD 0 = s[0] := by
  have := head_get s 0 h
  simpa using this
theorem tokR_name {L : List UInt8} (h : isL (L.headD 0) = true) : tokR L = if 16 < alen L then (0, 0, 7) else ((if wordB (L.take (alen L)) = true then 5 else 1), (alen L : Int), 0) := by
  unfold tokR
  rw [if_pos h]
theorem tokR_num {L : List UInt8} (h : isL (L.headD 0) = false) (h2 : isD (L.headD 0) = true) : tokR L = if (rd ((L.take (alen L)).map UInt8.toNat)).isNone = true then (0, 0, 3) else (2, (alen L : Int), 0) := by
  unfold tokR
  rw [if_neg (by rw [h]; decide), if_pos h2]
theorem tokR_else {L : List UInt8} (h : isA (L.headD 0) = false) : tokR L = if L.headD 0 = 34 then (if textLen L = 0 then (0, 0, 4) else (3, (textLen L : Int), 0))
  else if L.headD 0 = 59 then (6, 1, 0)
  else if signV L = [] then (0, 0, 2) else (4, ((signV L).length : Int), 0) := by
  unfold isA at h
  rw [Bool.or_eq_false_iff] at h
  unfold tokR
  rw [if_neg (by rw [h.1]; decide), if_neg (by rw [h.2]; decide)]
set_option maxHeartbeats 4000000 in
theorem tokenAt_any (s : ByteArray) (h0 : 0 < s.size) (hs : s.size ≤ 140737488351232) (w : World) : Calls Tryz.prog 69 #[.string s] w fun e w' => e = .returned (tokV s.data.toList) ∧ Below w.heap.size w w' := by
  have HZ := Lib.hid (head_zero s h0)
  have hne : s.data.toList ≠ [] := fun e => by
    have : s.data.toList.length = 0 := by rw [e]; rfl
    have h5 : s.data.toList.length = s.size := rfl
    omega
  have HNE := Lib.hid hne
  clear hne
  have h0i : (0 : Int) < (s.size : Int) := by omega
  go_enter Tryz.func69, Tryz.ntmps69
  go_wp2_with fail
  go_loop [5] (fun n => ∃ i : Nat, n = .int .i64 (i : Int) ∧ i ≤ s.size ∧ Hid (i ≤ alen s.data.toList)) (fun n => s.size - (intOf n).toNat)
  case atStart => exact ⟨0, rfl, by omega, Lib.hid (Nat.zero_le _)⟩
  case round =>
    obtain ⟨i, rfl, his, HI⟩ := hrel
    by_cases hx : ∃ h : i < s.size, isA s[i] = true
    · obtain ⟨hlt, hA⟩ := hx
      have HG := Lib.hid (show s.data.toList[i]? = some s[i] by simpa using src_get s 0 i i (by omega) hlt)
      generalize hcc : s[i] = cc at *
      have HI2 := Lib.hid (tw_step (P := isA) HI.out HG.out hA)
      cases hL : isL cc with
      | true =>
        go_wp2_with (go_at_call 81; refine (refLetter_any cc _).mono ?_; rintro e w1 ⟨rfl, rfl⟩; rw [hL])
        go_round
        case rel => exact ⟨i + 1, by go_num, by omega, HI2⟩
        case measure => simp [intOf]; omega
      | false =>
        have hD : isD cc = true := by unfold isA at hA; rw [hL] at hA; simpa using hA
        go_wp2_with (first
          | (go_at_call 81; refine (refLetter_any cc _).mono ?_; rintro e w1 ⟨rfl, rfl⟩; rw [hL])
          | (go_at_call 82; refine (refDigit_any cc _).mono ?_; rintro e w1 ⟨rfl, rfl⟩; rw [hD]))
        go_round
        case rel => exact ⟨i + 1, by go_num, by omega, HI2⟩
        case measure => simp [intOf]; omega
    · have hx2 : (¬ i < s.size) ∨ ∃ h : i < s.size, isL s[i] = false ∧ isD s[i] = false := by
        by_cases hlt : i < s.size
        · right
          refine ⟨hlt, ?_⟩
          have : isA s[i] = false := by
            cases h : isA s[i] with
            | true => exact absurd ⟨hlt, h⟩ hx
            | false => rfl
          unfold isA at this
          simpa using this
        · exact .inl hlt
      have HE : Hid (alen s.data.toList = i) := Lib.hid (by
        rcases hx2 with h | ⟨h, h1, h2⟩
        · have := tw_len isA s.data.toList
          have h5 : s.data.toList.length = s.size := rfl
          have h6 := HI.out
          unfold alen at h6 ⊢
          omega
        · exact Nat.le_antisymm (tw_stop (show s.data.toList[i]? = some s[i] by simpa using src_get s 0 i i (by omega) h) (by unfold isA; rw [h1, h2]; rfl)) HI.out)
      clear hx
      have HIS := Lib.hid his
      by_cases hz : i = 0
      · have hn0 : isA s[0] = false := by
          cases h : isA s[0] with
          | false => rfl
          | true =>
            exfalso
            have := alen_posi HNE.out (by rw [HZ.out]; exact h)
            rw [HE.out] at this
            omega
        have HR := Lib.hid (tokR_else (by rw [HZ.out]; exact hn0))
        rcases hx2 with h | ⟨h, hL, hD⟩
        · exact absurd h0 (hz ▸ h)
        · have hnz : ¬ (0 : Int) < (i : Int) := by omega
          have h00 : s[0] = s[i] := by simp [hz]
          rw [HZ.out, h00] at HR
          generalize hcc : s[i] = cc at *
          clear hz hn0 HZ
          by_cases h34 : cc = 34
          · have e34 : ((cc.toNat : Int) == 34) = true := by rw [h34]; rfl
            have H34 := Lib.hid h34
            clear h34
            go_wp2_with (first
              | (go_at_call 81; refine (refLetter_any cc _).mono ?_; rintro e w1 ⟨rfl, rfl⟩; rw [hL])
              | (go_at_call 82; refine (refDigit_any cc _).mono ?_; rintro e w1 ⟨rfl, rfl⟩; rw [hD]))
            refine (textAt_any _ (by omega) _).mono ?_
            rintro e w1 ⟨rfl, n, rfl⟩
            by_cases ht : textLen s.data.toList = 0
            · have HT := Lib.hid ht
              rw [ht]
              clear ht
              go_wp2_with fail
              go_returns
              exact ⟨by unfold tokV; rw [HR.out, if_pos H34.out, if_pos HT.out]; rfl, dr (Below.refl _ _) n⟩
            · have HT := Lib.hid ht
              have hti : (((textLen s.data.toList : Nat) : Int) == 0) = false := by simpa using ht
              clear ht
              go_wp2_with fail
              go_returns
              exact ⟨by unfold tokV; rw [HR.out, if_pos H34.out, if_neg HT.out]; rfl, dr (Below.refl _ _) n⟩
          · have e34 : ((cc.toNat : Int) == 34) = false := eq_c h34
            by_cases h59 : cc = 59
            · have e59 : ((cc.toNat : Int) == 59) = true := by rw [h59]; rfl
              have H59 := Lib.hid h59
              clear h59
              go_wp2_with (first
                | (go_at_call 81; refine (refLetter_any cc _).mono ?_; rintro e w1 ⟨rfl, rfl⟩; rw [hL])
                | (go_at_call 82; refine (refDigit_any cc _).mono ?_; rintro e w1 ⟨rfl, rfl⟩; rw [hD]))
              go_returns
              exact ⟨by unfold tokV; rw [HR.out, if_neg h34, if_pos H59.out]; rfl, Below.refl _ _⟩
            · have e59 : ((cc.toNat : Int) == 59) = false := eq_c h59
              go_wp2_with (first
                | (go_at_call 81; refine (refLetter_any cc _).mono ?_; rintro e w1 ⟨rfl, rfl⟩; rw [hL])
                | (go_at_call 82; refine (refDigit_any cc _).mono ?_; rintro e w1 ⟨rfl, rfl⟩; rw [hD]))
              refine (signAt_any s _).mono ?_
              rintro e w1 ⟨rfl, hb1⟩
              have HB1 := Lib.hid hb1
              clear hb1
              by_cases hsg : signV s.data.toList = []
              · have hte : (⟨(signV s.data.toList).toArray⟩ : ByteArray).toList.isEmpty = true := by rw [toList_mk, hsg]; rfl
                have HS := Lib.hid hsg
                clear hsg
                generalize hB : (⟨(signV s.data.toList).toArray⟩ : ByteArray) = B at *
                go_wp2_with fail
                go_returns
                exact ⟨by unfold tokV; rw [HR.out, if_neg h34, if_neg h59, if_pos HS.out]; rfl, HB1.out⟩
              · have hte : (⟨(signV s.data.toList).toArray⟩ : ByteArray).toList.isEmpty = false := by
                  rw [toList_mk]
                  cases h : signV s.data.toList with
                  | nil => exact absurd h hsg
                  | cons a b => rfl
                have HS := Lib.hid hsg
                have hBs : (⟨(signV s.data.toList).toArray⟩ : ByteArray).size = (signV s.data.toList).length := rfl
                clear hsg
                generalize hB : (⟨(signV s.data.toList).toArray⟩ : ByteArray) = B at *
                go_wp2_with fail
                go_returns
                exact ⟨by unfold tokV; rw [HR.out, if_neg h34, if_neg h59, if_neg HS.out, ← hBs]; rfl, HB1.out⟩
      · have hpos : (0 : Int) < (i : Int) := by omega
        have ha0 : isA s[0] = true := by
          cases h : isA s[0] with
          | true => rfl
          | false =>
            exfalso
            have := alen_zero (by rw [HZ.out]; exact h)
            rw [HE.out] at this
            omega
        cases hL0 : isL s[0] with
        | true =>
          have HR := Lib.hid (tokR_name (by rw [HZ.out]; exact hL0))
          generalize hc0 : s[0] = c0 at *
          clear hz
          rcases hx2 with h | ⟨h, hL, hD⟩
          all_goals
            try generalize hcc : s[i] = cc at *
            by_cases h16 : 16 < i
            · have h16i : (16 : Int) < (i : Int) := by omega
              go_wp2_with (first
                | (go_at_call 81; refine (refLetter_any _ _).mono ?_; rintro e w1 ⟨rfl, rfl⟩; first | rw [hL0] | rw [hL])
                | (go_at_call 82; refine (refDigit_any _ _).mono ?_; rintro e w1 ⟨rfl, rfl⟩; rw [hD]))
              go_returns
              exact ⟨by unfold tokV; rw [HR.out, HE.out, if_pos h16]; rfl, Below.refl _ _⟩
            · have h16i : ¬ (16 : Int) < (i : Int) := by omega
              go_wp2_with (first
                | (go_at_call 81; refine (refLetter_any _ _).mono ?_; rintro e w1 ⟨rfl, rfl⟩; first | rw [hL0] | rw [hL])
                | (go_at_call 82; refine (refDigit_any _ _).mono ?_; rintro e w1 ⟨rfl, rfl⟩; rw [hD]))
              refine (refReserved_any _ _).mono ?_
              rintro e w1 ⟨rfl, hb1⟩
              have HB1 := Lib.hid hb1
              have hex : (s.extract 0 i).toList = s.data.toList.take i := by rw [ByteArray.toList_eq, ext_list]; simp
              rw [hex]
              clear hb1 hex
              cases hw : wordB (s.data.toList.take i) with
              | true =>
                go_wp2_with fail
                go_returns
                exact ⟨by unfold tokV; rw [HR.out, HE.out, if_neg h16, if_pos hw]; rfl, HB1.out⟩
              | false =>
                go_wp2_with fail
                go_returns
                exact ⟨by unfold tokV; rw [HR.out, HE.out, if_neg h16, hw]; rfl, HB1.out⟩
        | false =>
          have hD0 : isD s[0] = true := by unfold isA at ha0; rw [hL0] at ha0; simpa using ha0
          have HR := Lib.hid (tokR_num (by rw [HZ.out]; exact hL0) (by rw [HZ.out]; exact hD0))
          generalize hc0 : s[0] = c0 at *
          clear hz
          rcases hx2 with h | ⟨h, hL, hD⟩
          all_goals
            try generalize hcc : s[i] = cc at *
            go_wp2_with (first
              | (go_at_call 81; refine (refLetter_any _ _).mono ?_; rintro e w1 ⟨rfl, rfl⟩; first | rw [hL0] | rw [hL])
              | (go_at_call 82; refine (refDigit_any _ _).mono ?_; rintro e w1 ⟨rfl, rfl⟩; rw [hD]))
            refine (readNumber_any _ _).mono ?_
            rintro e w1 ⟨rfl, hb1⟩
            have HB1 := Lib.hid hb1
            have hby : byt (s.extract 0 i) = (s.data.toList.take i).map UInt8.toNat := by unfold byt; rw [ext_list]; simp
            rw [HE.out, ← hby] at HR
            clear hb1 hby
            cases hrd : rd (byt (s.extract 0 i)) with
            | none =>
              rw [readV_none hrd]
              rw [hrd] at HR
              go_wp2_with fail
              go_returns
              exact ⟨by unfold tokV; rw [HR.out]; rfl, HB1.out⟩
            | some z =>
              rw [readV_some hrd]
              rw [hrd] at HR
              go_wp2_with fail
              go_returns
              exact ⟨by unfold tokV; rw [HR.out]; rfl, HB1.out⟩
end Go.Proofs.YtjegfimagjmpdaaGreatDoor
end
