/- The document's word on a node's kids: counts. Conditions: none. -/
import Derived.Test.YtkpejdkffkhekaaGreatDoorPgT
import Derived.Test.YtkpejdkffkhekaaGreatDoorPgC
set_option maxRecDepth 100000
namespace Go.Proofs.YtkpejdkffkhekaaGreatDoor
open Go.ChangeShapes Go.WideShapes Go.ChangeAt Go.RowKit
def CtC (x : ND) (v : Value) (w : World) : Prop :=
  Calls Tryz.prog 28 #[.agg #[.int .i64 x.kind, .string x.text, .string x.typ, .int .i64 x.num, v]] w fun e w' => e = .returned (.bool (cntN x)) ∧ Below w.heap.size w w'
set_option maxHeartbeats 8000000 in
theorem counts_one {x : ND} {A4 : Option Addr} {c4 : Nat} {w : World} (hl : x.kids.length * 8 ≤ 140737488351232) (h : x.kind = 1 ∨ x.kind = 5 ∨ x.kind = 32 ∨ x.kind = 2 ∨ x.kind = 33 ∨ x.kind = 7 ∨ x.kind = 26 ∨ x.kind = 9 ∨ x.kind = 15 ∨ x.kind = 8 ∨ x.kind = 27 ∨ x.kind = 29 ∨ x.kind = 10 ∨ x.kind = 11 ∨ x.kind = 14 ∨ x.kind = 28 ∨ x.kind = 30) : CtC x (.slice A4 x.kids.length c4) w := by
  obtain ⟨kd, tx, ty, nm, ks⟩ := x
  unfold CtC
  generalize hres : cntN _ = R
  unfold cntN at hres
  simp only at hl h hres ⊢
  generalize ks.length = n at *
  have HRE := Lib.hid hres
  clear hres
  rcases h with rfl | rfl | rfl | rfl | rfl | rfl | rfl | rfl | rfl | rfl | rfl | rfl | rfl | rfl | rfl | rfl | rfl
  all_goals (
    have hres := HRE.out
    simp only [Int.reduceEq, if_true, if_false, or_self, or_true, true_or] at hres
    clear HRE
    have HRE := Lib.hid hres
    clear hres
    go_enter Tryz.func28, Tryz.ntmps28
    go_wp2_with fail)
  all_goals (
    go_ret
    refine ⟨?_, al _⟩
    rw [← HRE.out]
    refine congrArg (fun b => Ending.returned (Value.bool b)) (?_ : _ = _)
    first
      | rfl
      | (rw [Bool.eq_iff_iff]
         simp only [Bool.or_eq_true, beq_iff_eq, decide_eq_true_eq]
         omega)
      | (simp; omega)
      | trace_state)
set_option maxHeartbeats 8000000 in
theorem counts_two {x : ND} {A4 : Option Addr} {c4 : Nat} {w : World} (hl : x.kids.length * 8 ≤ 140737488351232) (h : x.kind = 3 ∨ x.kind = 4 ∨ x.kind = 6 ∨ x.kind = 12 ∨ x.kind = 13 ∨ x.kind = 21 ∨ x.kind = 22 ∨ x.kind = 24 ∨ x.kind = 25 ∨ x.kind = 31) : CtC x (.slice A4 x.kids.length c4) w := by
  obtain ⟨kd, tx, ty, nm, ks⟩ := x
  unfold CtC
  generalize hres : cntN _ = R
  unfold cntN at hres
  simp only at hl h hres ⊢
  generalize ks.length = n at *
  have HRE := Lib.hid hres
  clear hres
  rcases h with rfl | rfl | rfl | rfl | rfl | rfl | rfl | rfl | rfl | rfl
  all_goals (
    have hres := HRE.out
    simp only [Int.reduceEq, if_true, if_false, or_self, or_true, true_or] at hres
    clear HRE
    have HRE := Lib.hid hres
    clear hres
    go_enter Tryz.func28, Tryz.ntmps28
    go_wp2_with fail)
  all_goals (
    go_ret
    refine ⟨?_, al _⟩
    rw [← HRE.out]
    refine congrArg (fun b => Ending.returned (Value.bool b)) (?_ : _ = _)
    first
      | rfl
      | (rw [Bool.eq_iff_iff]
         simp only [beq_iff_eq, decide_eq_true_eq]
         omega)
      | (simp; omega)
      | trace_state)
end Go.Proofs.YtkpejdkffkhekaaGreatDoor
