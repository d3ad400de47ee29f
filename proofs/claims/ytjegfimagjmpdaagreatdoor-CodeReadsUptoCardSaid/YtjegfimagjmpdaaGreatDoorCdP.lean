/- What the document's table says of an instruction, in plain Lean; it is what 'code.ins' says. Conditions: none. -/
import Derived.Test.YtjegfimagjmpdaaGreatDoorCdB
import Derived.Test.YtjegfimagjmpdaaGreatDoorTx
set_option maxRecDepth 20000
namespace Go.Proofs.YtjegfimagjmpdaaGreatDoor
open Go.ChangeShapes Go.WideShapes Go.ChangeAt Go.RowKit
/-- An instruction's form. -/
def formL (op d : Int) : List UInt8 := if op = 24 then (if checksL d = [] then [] else checksL d ++ [42, 45]) else fieldsL op
def numsF (a b c d e : Int) (j : Nat) : Int := [a, b, c, d, e, 0].getD j 0
def okF (X : CX) (F : List UInt8) (l : Nat → Int) (j : Nat) : Bool := decide (F.getD j 0 = 42) || fieldB X (F.getD j 0) (l j) (l (j + 1))
/-- What is wrong with an instruction. -/
def insV (X : CX) (op a b c d e : Int) : Int :=
  if formL op d = [] then 13
  else if (List.range 5).all (okF X (formL op d) (numsF a b c d e)) = true then (if op = 21 ∧ d ≠ X.caps b.toNat then 14 else 0) else 14
theorem insV_no {X : CX} {op a b c d e : Int} (hf : formL op d ≠ []) (k : Nat) (hk : k < 5) (h : okF X (formL op d) (numsF a b c d e) k = false) : insV X op a b c d e = 14 := by
  unfold insV
  rw [if_neg hf, if_neg]
  intro hall
  rw [List.all_eq_true] at hall
  rw [hall k (List.mem_range.2 hk)] at h
  cases h
theorem insV_all {X : CX} {op a b c d e : Int} (hf : formL op d ≠ []) (h : ∀ j, j < 5 → okF X (formL op d) (numsF a b c d e) j = true) : insV X op a b c d e = if op = 21 ∧ d ≠ X.caps b.toNat then 14 else 0 := by
  unfold insV
  rw [if_neg hf, if_pos]
  rw [List.all_eq_true]
  exact fun j hj => h j (List.mem_range.1 hj)
theorem fieldsT_all : ∀ F ∈ fieldsT, F = [] ∨ (F.length = 5 ∧ ∀ c ∈ F, c ∈ lettersL) := by decide +kernel
theorem checksT_all : ∀ F ∈ checksT, F = [] ∨ (F.length = 3 ∧ ∀ c ∈ F, c ∈ lettersL) := by decide +kernel
theorem getD_all {P : List UInt8 → Prop} {T : List (List UInt8)} (h : ∀ F ∈ T, P F) (h0 : P []) (k : Nat) : P (T.getD k []) := by
  rw [List.getD_eq_getElem?_getD]
  cases hk : T[k]? with
  | none => exact h0
  | some F => exact h F (List.mem_of_getElem? hk)
theorem fieldsL_all (op : Int) : fieldsL op = [] ∨ ((fieldsL op).length = 5 ∧ ∀ c ∈ fieldsL op, c ∈ lettersL) := by
  unfold fieldsL
  split
  · exact getD_all (P := fun F => F = [] ∨ (F.length = 5 ∧ ∀ c ∈ F, c ∈ lettersL)) fieldsT_all (.inl rfl) _
  · exact .inl rfl
theorem checksL_all (d : Int) : checksL d = [] ∨ ((checksL d).length = 3 ∧ ∀ c ∈ checksL d, c ∈ lettersL) := by
  unfold checksL
  split
  · exact getD_all (P := fun F => F = [] ∨ (F.length = 3 ∧ ∀ c ∈ F, c ∈ lettersL)) checksT_all (.inl rfl) _
  · exact .inl rfl
theorem formL_all (op d : Int) (h : formL op d ≠ []) : (formL op d).length = 5 ∧ ∀ c ∈ formL op d, c = 42 ∨ c ∈ lettersL := by
  unfold formL at h ⊢
  split
  · rename_i h24
    rw [if_pos h24] at h
    rcases checksL_all d with h1 | ⟨h1, h2⟩
    · rw [if_pos h1] at h
      exact absurd rfl h
    · rw [if_neg (fun e => by rw [e] at h1; cases h1)]
      refine ⟨by simp [h1], fun c hc => ?_⟩
      rcases List.mem_append.1 hc with hc | hc
      · exact .inr (h2 c hc)
      · simp at hc
        rcases hc with rfl | rfl
        · exact .inl rfl
        · exact .inr (by decide)
  · rename_i h24
    rw [if_neg h24] at h
    rcases fieldsL_all op with h1 | ⟨h1, h2⟩
    · exact absurd h1 h
    · exact ⟨h1, fun c hc => .inr (h2 c hc)⟩
theorem form_close (d : Int) : formL 21 d = [115, 103, 40, 41, 45] := rfl
def tableB : ByteArray := ⟨#[105, 110, 116, 32, 115, 32, 110, 59, 98, 111, 111, 108, 32, 115, 32, 98, 59, 116, 101, 120, 116, 32, 115, 32, 120, 59, 110, 105, 108, 32, 115, 59, 102, 117, 110, 99, 32, 115, 32, 102, 59, 109, 111, 118, 101, 32, 115, 32, 115, 59, 111, 112, 32, 115, 32, 115, 32, 115, 32, 111, 59, 99, 109, 112, 32, 115, 32, 115, 32, 115, 32, 99, 59, 110, 101, 103, 32, 115, 32, 115, 59, 110, 111, 116, 32, 115, 32, 115, 59, 99, 97, 116, 32, 115, 32, 115, 32, 115, 59, 108, 101, 110, 32, 115, 32, 115, 59, 105, 110, 100, 101, 120, 32, 115, 32, 115, 32, 115, 59, 115, 101, 116, 97, 116, 32, 115, 32, 115, 32, 115, 59, 99, 117, 116, 32, 115, 32, 115, 32, 115, 32, 115, 59, 97, 112, 112, 101, 110, 100, 32, 115, 32, 115, 32, 115, 59, 108, 105, 115, 116, 32, 115, 32, 98, 97, 115, 101, 58, 50, 32, 97, 110, 121, 59, 98, 111, 120, 32, 115, 32, 115, 59, 103, 101, 116, 32, 115, 32, 115, 59, 112, 117, 116, 32, 115, 32, 115, 59, 99, 108, 111, 115, 101, 32, 115, 32, 103, 32, 98, 97, 115, 101, 58, 51, 32, 99, 97, 112, 115, 59, 105, 115, 105, 110, 116, 32, 115, 32, 115, 59, 116, 111, 105, 110, 116, 32, 115, 32, 115, 59, 99, 104, 101, 99, 107, 59, 116, 101, 115, 116, 32, 116, 59, 106, 117, 109, 112, 32, 116, 59, 102, 97, 108, 115, 101, 32, 115, 32, 116, 59, 99, 97, 108, 108, 32, 115, 32, 115, 32, 98, 97, 115, 101, 58, 51, 32, 112, 59, 114, 101, 116, 117, 114, 110, 32, 114, 59, 108, 101, 97, 118, 101, 59, 112, 97, 110, 105, 99, 32, 115, 59, 114, 101, 99, 111, 118, 101, 114, 32, 115, 59, 101, 120, 105, 116, 32, 115, 59, 112, 114, 105, 110, 116, 32, 48, 32, 98, 97, 115, 101, 58, 50, 32, 97, 110, 121, 59, 100, 101, 102, 101, 114, 32, 97, 32, 115, 32, 98, 97, 115, 101, 58, 51, 32, 112, 59, 114, 117, 110, 32, 116, 59, 98, 105, 116, 32, 107, 59, 110, 111, 98, 105, 116, 32, 107, 32, 116, 59, 115, 116, 97, 114, 116, 32, 107, 32, 115, 32, 98, 97, 115, 101, 58, 51, 32, 112, 32, 97, 59, 101, 110, 100, 101, 100, 32, 116, 59, 116, 97, 107, 101, 110, 32, 115, 32, 119]⟩
def ctableB : ByteArray := ⟨#[115, 32, 115, 59, 115, 32, 115, 59, 115, 32, 115, 32, 115, 59, 115, 59, 115, 59, 115, 59, 115, 32, 112, 59, 115, 32, 115, 59, 115, 59, 97, 59, 115, 59, 115]⟩
def rowsL : List (List UInt8) := [[105, 110, 116, 32, 115, 32, 110], [98, 111, 111, 108, 32, 115, 32, 98], [116, 101, 120, 116, 32, 115, 32, 120], [110, 105, 108, 32, 115], [102, 117, 110, 99, 32, 115, 32, 102], [109, 111, 118, 101, 32, 115, 32, 115], [111, 112, 32, 115, 32, 115, 32, 115, 32, 111], [99, 109, 112, 32, 115, 32, 115, 32, 115, 32, 99], [110, 101, 103, 32, 115, 32, 115], [110, 111, 116, 32, 115, 32, 115], [99, 97, 116, 32, 115, 32, 115, 32, 115], [108, 101, 110, 32, 115, 32, 115], [105, 110, 100, 101, 120, 32, 115, 32, 115, 32, 115], [115, 101, 116, 97, 116, 32, 115, 32, 115, 32, 115], [99, 117, 116, 32, 115, 32, 115, 32, 115, 32, 115], [97, 112, 112, 101, 110, 100, 32, 115, 32, 115, 32, 115], [108, 105, 115, 116, 32, 115, 32, 98, 97, 115, 101, 58, 50, 32, 97, 110, 121], [98, 111, 120, 32, 115, 32, 115], [103, 101, 116, 32, 115, 32, 115], [112, 117, 116, 32, 115, 32, 115], [99, 108, 111, 115, 101, 32, 115, 32, 103, 32, 98, 97, 115, 101, 58, 51, 32, 99, 97, 112, 115], [105, 115, 105, 110, 116, 32, 115, 32, 115], [116, 111, 105, 110, 116, 32, 115, 32, 115], [99, 104, 101, 99, 107], [116, 101, 115, 116, 32, 116], [106, 117, 109, 112, 32, 116], [102, 97, 108, 115, 101, 32, 115, 32, 116], [99, 97, 108, 108, 32, 115, 32, 115, 32, 98, 97, 115, 101, 58, 51, 32, 112], [114, 101, 116, 117, 114, 110, 32, 114], [108, 101, 97, 118, 101], [112, 97, 110, 105, 99, 32, 115], [114, 101, 99, 111, 118, 101, 114, 32, 115], [101, 120, 105, 116, 32, 115], [112, 114, 105, 110, 116, 32, 48, 32, 98, 97, 115, 101, 58, 50, 32, 97, 110, 121], [100, 101, 102, 101, 114, 32, 97, 32, 115, 32, 98, 97, 115, 101, 58, 51, 32, 112], [114, 117, 110, 32, 116], [98, 105, 116, 32, 107], [110, 111, 98, 105, 116, 32, 107, 32, 116], [115, 116, 97, 114, 116, 32, 107, 32, 115, 32, 98, 97, 115, 101, 58, 51, 32, 112, 32, 97], [101, 110, 100, 101, 100, 32, 116], [116, 97, 107, 101, 110, 32, 115, 32, 119]]
def crowsL : List (List UInt8) := [[115, 32, 115], [115, 32, 115], [115, 32, 115, 32, 115], [115], [115], [115], [115, 32, 112], [115, 32, 115], [115], [97], [115], [115]]
theorem rows_cut : cutG 59 tableB.data.toList [] = rowsL := by decide +kernel
theorem crows_cut : cutG 59 ctableB.data.toList [] = crowsL := by decide +kernel
/-- Is a number right for a field? -/
def fieldR (X : CX) (b c d : Int) (k : List UInt8) (n : Int) : Bool :=
  if k = [110] then true
  else if k = [97, 110, 121] then true
  else if k = [97] then decide (0 ≤ n)
  else if k = [115] then withinB n 0 (X.sl - 1)
  else if k = [114] then withinB n (-1) (X.sl - 1)
  else if k = [98] then withinB n 0 1
  else if k = [120] then withinB n 0 ((X.nt : Int) - 1)
  else if k = [102] then withinB n 0 ((X.nf : Int) - 1) && decide (X.caps n.toNat = 0)
  else if k = [103] then withinB n 0 ((X.nf : Int) - 1)
  else if k = [116] then withinB n 0 ((X.ni : Int) - 1)
  else if k = [111] then withinB n 1 10
  else if k = [99] then withinB n 11 16
  else if k = [107] then withinB n 0 7
  else if k = [112] then withinB n 0 4
  else if k = [119] then withinB n 0 (X.ca - 1)
  else if k = [98, 97, 115, 101, 58, 50] then withinB c 0 X.sl && withinB n 0 (X.sl - c)
  else if k = [98, 97, 115, 101, 58, 51] then withinB d 0 X.sl && withinB n 0 (X.sl - d)
  else if k = [99, 97, 112, 115] then withinB b 0 ((X.nf : Int) - 1) && decide (n = X.caps b.toNat)
  else withinB n 0 0
def kindsL : List (List UInt8) := [[110], [97, 110, 121], [97], [115], [114], [98], [120], [102], [103], [116], [111], [99], [107], [112], [119], [98, 97, 115, 101, 58, 50], [98, 97, 115, 101, 58, 51], [99, 97, 112, 115], [48]]
/-- The kinds of an instruction's fields. -/
def kindsOf (op : Int) : List (List UInt8) := (cutG 32 (rowsL.getD (op - 1).toNat []) []).tail
def ckindsOf (d : Int) : List (List UInt8) := cutG 32 (crowsL.getD (d - 1).toNat []) []
def okR (X : CX) (b c d : Int) (ks : List (List UInt8)) (l : Nat → Int) (j : Nat) : Bool := if j < ks.length then fieldR X b c d (ks.getD j []) (l j) else decide (l j = 0)
def numsR (a b c d e : Int) (j : Nat) : Int := [a, b, c, d, e].getD j 0
def insR (X : CX) (op a b c d e : Int) : Int :=
  if op < 1 ∨ 41 < op then 13
  else if op = 24 then (if d < 1 ∨ 12 < d then 13 else if (List.range 5).all (okR X b c d (ckindsOf d) (numsR a b c 0 e)) = true then 0 else 14)
  else if (List.range 5).all (okR X b c d (kindsOf op) (numsR a b c d e)) = true then 0 else 14
theorem kinds_mem : ∀ r ∈ rowsL, ∀ k ∈ (cutG 32 r []).tail, k ∈ kindsL := by decide +kernel
theorem ckinds_mem : ∀ r ∈ crowsL, ∀ k ∈ cutG 32 r [], k ∈ kindsL := by decide +kernel
theorem within0 (n : Int) : withinB n 0 0 = decide (n = 0) := by
  unfold withinB
  rw [Bool.eq_iff_iff]
  simp
  omega
theorem insV_none {X : CX} {op a b c d e : Int} (h : op < 1 ∨ 41 < op) : insV X op a b c d e = 13 := by
  unfold insV
  rw [if_pos]
  unfold formL fieldsL
  rw [if_neg (by omega)]
  split
  · have : op = 0 := by omega
    subst this
    rfl
  · rfl
theorem insV_one {X : CX} {op a b c d e : Int} {k0 k1 k2 k3 k4 : UInt8} (hf : formL op d = [k0, k1, k2, k3, k4]) :
    insV X op a b c d e = if (((((decide (k0 = 42) || fieldB X k0 a b) && (decide (k1 = 42) || fieldB X k1 b c)) && (decide (k2 = 42) || fieldB X k2 c d)) && (decide (k3 = 42) || fieldB X k3 d e)) && (decide (k4 = 42) || fieldB X k4 e 0)) = true then (if op = 21 ∧ d ≠ X.caps b.toNat then 14 else 0) else 14 := by
  unfold insV
  rw [hf, if_neg (by simp)]
  congr 1
  simp [List.range_succ, okF, numsF, Bool.and_assoc]
set_option maxHeartbeats 4000000 in
theorem insV_insR (X : CX) (op a b c d e : Int) : insV X op a b c d e = insR X op a b c d e := by
  by_cases h : op < 1 ∨ 41 < op
  · rw [insV_none h]
    unfold insR
    rw [if_pos h]
  · by_cases h24 : op = 24
    · subst h24
      by_cases hd : d < 1 ∨ 12 < d
      · have h1 : checksL d = [] := by
          unfold checksL
          split
          · have : d = 0 := by omega
            subst this
            rfl
          · rfl
        unfold insR insV
        rw [if_pos (by unfold formL; rw [if_pos rfl, if_pos h1]), if_neg (by omega), if_pos rfl, if_pos hd]
      · have h12 : d = 1 ∨ d = 2 ∨ d = 3 ∨ d = 4 ∨ d = 5 ∨ d = 6 ∨ d = 7 ∨ d = 8 ∨ d = 9 ∨ d = 10 ∨ d = 11 ∨ d = 12 := by omega
        unfold insR
        rw [if_neg (by omega), if_pos rfl, if_neg hd]
        clear hd h
        rcases h12 with rfl | rfl | rfl | rfl | rfl | rfl | rfl | rfl | rfl | rfl | rfl | rfl
        all_goals
          rw [insV_one rfl]
          simp [okR, ckindsOf, crowsL, cutG, numsR, List.range_succ, fieldR, fieldB, and_assoc]
    · have h41 : op = 1 ∨ op = 2 ∨ op = 3 ∨ op = 4 ∨ op = 5 ∨ op = 6 ∨ op = 7 ∨ op = 8 ∨ op = 9 ∨ op = 10 ∨ op = 11 ∨ op = 12 ∨ op = 13 ∨ op = 14 ∨ op = 15 ∨ op = 16 ∨ op = 17 ∨ op = 18 ∨ op = 19 ∨ op = 20 ∨ op = 21 ∨ op = 22 ∨ op = 23 ∨ op = 25 ∨ op = 26 ∨ op = 27 ∨ op = 28 ∨ op = 29 ∨ op = 30 ∨ op = 31 ∨ op = 32 ∨ op = 33 ∨ op = 34 ∨ op = 35 ∨ op = 36 ∨ op = 37 ∨ op = 38 ∨ op = 39 ∨ op = 40 ∨ op = 41 := by omega
      unfold insR
      rw [if_neg h, if_neg h24]
      clear h h24
      rcases h41 with rfl | rfl | rfl | rfl | rfl | rfl | rfl | rfl | rfl | rfl | rfl | rfl | rfl | rfl | rfl | rfl | rfl | rfl | rfl | rfl | rfl | rfl | rfl | rfl | rfl | rfl | rfl | rfl | rfl | rfl | rfl | rfl | rfl | rfl | rfl | rfl | rfl | rfl | rfl | rfl
      all_goals
        rw [insV_one rfl]
        simp [okR, kindsOf, rowsL, cutG, numsR, List.range_succ, fieldR, fieldB, and_assoc, within0]
      by_cases h1 : d = X.caps b.toNat
      · by_cases h2 : withinB b 0 ((X.nf : Int) - 1) = true
        · simp [h1, h2]
        · simp [h2]
      · simp [h1]
end Go.Proofs.YtjegfimagjmpdaaGreatDoor
