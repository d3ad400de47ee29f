/- Plain: the pieces of a function's type. Conditions: none. -/
import Derived.Test.YtmbljapjecclaabTyEach
set_option maxRecDepth 20000
namespace Go.Proofs.Ytmbljapjecclaab
open Go.ChangeShapes Go.WideShapes Go.ChangeAt Go.RowKit
def resP (f : Nat) (S : ByteArray) (k : Nat) : Option (List ByteArray × Nat) := (resAt f S k).map fun p => ([S.extract k p], p)
/-- The parameters and the result from k on, and where they end. -/
def pcs (f : Nat) (S : ByteArray) : Nat → Bool → Nat → Option (List ByteArray × Nat)
  | 0, _, k => if hasB S k ⟨#[41]⟩ = true then resP f S (k + 1) else none
  | j + 1, b, k => if hasB S k ⟨#[41]⟩ = true then resP f S (k + 1)
      else if b = true then (tyAt f S k).bind fun p => (pcs f S j false p).map fun q => (S.extract k p :: q.1, q.2)
      else if hasB S k ⟨#[44]⟩ = true then (tyAt f S (k + 1)).bind fun p => (pcs f S j false p).map fun q => (S.extract (k + 1) p :: q.1, q.2) else none
def pcsAt (f : Nat) (S : ByteArray) (m k : Nat) : Option (List ByteArray × Nat) := pcs f S (4 - m) (decide (m = 0)) k
def fnP (f : Nat) (S : ByteArray) (k : Nat) : Option (List ByteArray × Nat) := if hasB S k ⟨#[102, 117, 110, 99, 40]⟩ then pcsAt f S 0 (k + 5) else none
/-- What is gathered, ahead of what is still to come. -/
def addP (qs : List ByteArray) (o : Option (List ByteArray × Nat)) : Option (List ByteArray × Nat) := o.map fun q => (qs ++ q.1, q.2)
theorem addP_nil (o : Option (List ByteArray × Nat)) : addP [] o = o := by cases o <;> simp [addP]
theorem addP_cons (qs : List ByteArray) (x : ByteArray) (o : Option (List ByteArray × Nat)) : addP qs (o.map fun q => (x :: q.1, q.2)) = addP (qs ++ [x]) o := by cases o <;> simp [addP]
theorem pcsAt_close {f : Nat} {S : ByteArray} {m k : Nat} (h : hasB S k ⟨#[41]⟩ = true) : pcsAt f S m k = resP f S (k + 1) := by
  unfold pcsAt
  generalize 4 - m = j
  cases j <;> rw [pcs, if_pos h]
theorem pcsAt_full {f : Nat} {S : ByteArray} {m k : Nat} (h : hasB S k ⟨#[41]⟩ = false) (hm : 4 ≤ m) : pcsAt f S m k = none := by
  unfold pcsAt
  rw [show 4 - m = 0 by omega, pcs, if_neg (by rw [h]; simp)]
theorem pcsAt_first {f : Nat} {S : ByteArray} {k : Nat} (h : hasB S k ⟨#[41]⟩ = false) : pcsAt f S 0 k = (tyAt f S k).bind fun p => (pcsAt f S 1 p).map fun q => (S.extract k p :: q.1, q.2) := by
  unfold pcsAt
  rw [show 4 - 0 = 3 + 1 by omega, pcs, if_neg (by rw [h]; simp), if_pos (by simp)]
  rfl
theorem pcsAt_no {f : Nat} {S : ByteArray} {m k : Nat} (h : hasB S k ⟨#[41]⟩ = false) (hm : 0 < m) (hm4 : m < 4) (hc : hasB S k ⟨#[44]⟩ = false) : pcsAt f S m k = none := by
  unfold pcsAt
  obtain ⟨j, hj⟩ : ∃ j, 4 - m = j + 1 := ⟨3 - m, by omega⟩
  rw [hj, pcs, if_neg (by rw [h]; simp), if_neg (by simp; omega), if_neg (by rw [hc]; simp)]
theorem pcsAt_more {f : Nat} {S : ByteArray} {m k : Nat} (h : hasB S k ⟨#[41]⟩ = false) (hm : 0 < m) (hm4 : m < 4) (hc : hasB S k ⟨#[44]⟩ = true) : pcsAt f S m k = (tyAt f S (k + 1)).bind fun p => (pcsAt f S (m + 1) p).map fun q => (S.extract (k + 1) p :: q.1, q.2) := by
  unfold pcsAt
  obtain ⟨j, hj⟩ : ∃ j, 4 - m = j + 1 := ⟨3 - m, by omega⟩
  rw [hj, pcs, if_neg (by rw [h]; simp), if_neg (by simp; omega), if_pos hc, show 4 - (m + 1) = j by omega, show decide (m + 1 = 0) = false by simp]
/-- Where the pieces end, the type ends. -/
theorem pcsAt_end {f : Nat} {S : ByteArray} : ∀ (j m k : Nat), 4 - m = j → m ≤ 4 → (pcsAt f S m k).map Prod.snd = parsAt f S m k := by
  have close : ∀ m k, hasB S k ⟨#[41]⟩ = true → (pcsAt f S m k).map Prod.snd = parsAt f S m k := by
    intro m k h
    rw [pcsAt_close h, parsAt_close h]
    unfold resP
    cases resAt f S (k + 1) <;> rfl
  intro j
  induction j with
  | zero =>
    intro m k hj hm
    cases h : hasB S k ⟨#[41]⟩
    · rw [pcsAt_full h (by omega), parsAt_full h (by omega)]; rfl
    · exact close m k h
  | succ j ih =>
    intro m k hj hm
    cases h : hasB S k ⟨#[41]⟩
    · by_cases h0 : m = 0
      · subst h0
        rw [pcsAt_first h, parsAt_first h]
        cases tyAt f S k with
        | none => rfl
        | some p =>
          have := ih 1 p (by omega) (by omega)
          rw [Option.bind_some, Option.bind_some, ← this]
          cases pcsAt f S 1 p <;> rfl
      · cases hc : hasB S k ⟨#[44]⟩
        · rw [pcsAt_no h (by omega) (by omega) hc, parsAt_no h (by omega) (by omega) hc]; rfl
        · rw [pcsAt_more h (by omega) (by omega) hc, parsAt_more h (by omega) (by omega) hc]
          cases tyAt f S (k + 1) with
          | none => rfl
          | some p =>
            have := ih (m + 1) p (by omega) (by omega)
            rw [Option.bind_some, Option.bind_some, ← this]
            cases pcsAt f S (m + 1) p <;> rfl
    · exact close m k h
theorem fnP_end {f : Nat} {S : ByteArray} {k : Nat} : (fnP f S k).map Prod.snd = fnAt f S k := by
  unfold fnP fnAt
  split
  · exact pcsAt_end _ 0 (k + 5) rfl (by omega)
  · rfl
/-- What 'function' leaves, where the pieces are gathered. -/
def EachP (o : Option (List ByteArray × Nat)) (g bl bt base : Nat) (S : ByteArray) (w : World) (e : Ending) (w' : World) : Prop :=
  (∃ l p, o = some (l, p) ∧ e = .returned (.bool true) ∧ Rdr w' g S p ∧ Acc w' base bl l ∧ w'.cell? ⟨bt, 0, none⟩ = some (.string S) ∧ Ch base g bl w w') ∨ (o = none ∧ e = .returned (.bool false) ∧ Ch base g bl w w')
theorem EachP.yes {o : Option (List ByteArray × Nat)} {g bl bt base p : Nat} {l : List ByteArray} {S : ByteArray} {w w' : World} (h : o = some (l, p)) (hr : Rdr w' g S p) (ha : Acc w' base bl l) (ht : w'.cell? ⟨bt, 0, none⟩ = some (.string S)) (hc : Ch base g bl w w') : EachP o g bl bt base S w (.returned (.bool true)) w' := .inl ⟨l, p, h, rfl, hr, ha, ht, hc⟩
theorem EachP.no {o : Option (List ByteArray × Nat)} {g bl bt base : Nat} {S : ByteArray} {w w' : World} (h : o = none) (hc : Ch base g bl w w') : EachP o g bl bt base S w (.returned (.bool false)) w' := .inr ⟨h, rfl, hc⟩
theorem Acc.gb {w w' : World} {base bl g : Nat} {ps : List ByteArray} (h : Acc w base bl ps) (hg : w.grownBy w' (some g)) (hne : bl ≠ g) (hgb : g < base) (hbl : bl < base) (hb : base ≤ w.heap.size) : Acc w' base bl ps := by
  obtain ⟨v, h1, h2, h3⟩ := h
  have hk := hg.block bl (by omega) (by intro e; injection e with e; exact hne e)
  refine ⟨v, (World.cell?_of_block (a := ⟨bl, 0, none⟩) hk).trans h1, (World.frozen?_of_block (a := ⟨bl, 0, none⟩) hk).trans h2, h3.kept hg ?_⟩
  cases hv : v.ownBlock with
  | none => exact .inl rfl
  | some q => exact .inr (by intro e; injection e with e; have := (h3.lt q hv).1; omega)
theorem txt_gb {w w' : World} {bt g : Nat} {x : Value} (h : w.cell? ⟨bt, 0, none⟩ = some x) (hg : w.grownBy w' (some g)) (hne : bt ≠ g) : w'.cell? ⟨bt, 0, none⟩ = some x := by
  have hlt : bt < w.heap.size := World.block_lt_of_cell? w _ h
  exact (World.cell?_of_block (a := ⟨bt, 0, none⟩) (hg.block bt hlt (by intro e; injection e with e; exact hne e))).trans h
theorem Rdr.ch {w w' : World} {base bl g k : Nat} {S : ByteArray} (h : Rdr w g S k) (hc : Ch base bl bl w w') (hg : g < base) (hne : g ≠ bl) : Rdr w' g S k := by
  have hk := hc.block g hg hne hne
  exact ⟨(World.cell?_of_block (a := ⟨g, 0, none⟩) hk).trans h.1, (World.cell?_of_block (a := ⟨g, 1, none⟩) hk).trans h.2.1, (World.frozen?_of_block (a := ⟨g, 0, none⟩) hk).trans h.2.2.1, (World.frozen?_of_block (a := ⟨g, 1, none⟩) hk).trans h.2.2.2⟩
theorem Ch.wide {w w' : World} {base bl g : Nat} (hc : Ch base bl bl w w') : Ch base g bl w w' := ⟨hc.os, hc.tape, hc.output, hc.size, fun k h1 _ h3 => hc.block k h1 h3 h3⟩
theorem txt_ch {w w' : World} {base bl bt : Nat} {x : Value} (h : w.cell? ⟨bt, 0, none⟩ = some x) (hc : Ch base bl bl w w') (hb : bt < base) (hne : bt ≠ bl) : w'.cell? ⟨bt, 0, none⟩ = some x :=
  (World.cell?_of_block (a := ⟨bt, 0, none⟩) (hc.block bt hb hne hne)).trans h
end Go.Proofs.Ytmbljapjecclaab
