/- What the program asks of a node by itself: right, without calls. Conditions: the node is in a tree of the right shape. -/
import Derived.Test.YtkpejdkffkhekaaGreatDoorPgR
set_option maxRecDepth 100000
namespace Go.Proofs.YtkpejdkffkhekaaGreatDoor
open Go.ChangeShapes Go.WideShapes Go.ChangeAt Go.RowKit
set_option maxHeartbeats 4000000 in
theorem right_plain {T : List ND} {A : Option Addr} {c : Nat} {x : ND} {v : Value} {w : World} (h : x.kind = 1 ∨ x.kind = 5 ∨ x.kind = 9 ∨ x.kind = 10 ∨ x.kind = 11 ∨ x.kind = 12 ∨ x.kind = 13 ∨ x.kind = 14 ∨ x.kind = 15 ∨ x.kind = 24 ∨ x.kind = 28 ∨ x.kind = 29 ∨ x.kind = 30 ∨ x.kind = 31 ∨ x.kind = 32 ∨ x.kind = 33 ∨ x.kind = 21 ∨ x.kind = 23) : RgC T A c x v w := by
  obtain ⟨kd, tx, ty, nm, ks⟩ := x
  unfold RgC
  generalize hres : rgP T _ = R
  unfold rgP emB at hres
  simp only at h hres ⊢
  have HRE := Lib.hid hres
  clear hres
  rcases h with rfl | rfl | rfl | rfl | rfl | rfl | rfl | rfl | rfl | rfl | rfl | rfl | rfl | rfl | rfl | rfl | rfl | rfl
  all_goals (
    have hres := HRE.out
    simp only [Int.reduceEq, if_true, if_false, or_self] at hres
    clear HRE
    have HRE := Lib.hid hres
    clear hres
    go_enter Tryz.func23, Tryz.ntmps23
    go_wp2_with fail)
  all_goals (
    go_ret
    refine ⟨?_, al _⟩
    rw [← HRE.out]
    first
      | (simp [*]; done)
      | (simp [*]; rfl))
end Go.Proofs.YtkpejdkffkhekaaGreatDoor
