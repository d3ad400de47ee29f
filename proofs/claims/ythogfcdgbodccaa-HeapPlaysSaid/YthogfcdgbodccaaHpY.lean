/- A heap's 'is': does a block begin there? Conditions: none. -/
import Derived.Test.YthogfcdgbodccaaHpX
set_option maxRecDepth 100000
namespace Go.Proofs.Ythogfcdgbodccaa
open Go.ChangeShapes Go.WideShapes Go.ChangeAt Go.RowKit
set_option maxHeartbeats 2000000 in
theorem is_low (P : Nat) (at_ : Int) (w : World) (hA : at_ < 0) :
    Calls Try.prog 37 #[.pointer (some ⟨P, 0, none⟩), .int .i64 at_] w fun e w' => e = .returned (.bool false) ∧ Below w.heap.size w w' := by
  have h0 : ¬ 0 ≤ at_ := by omega
  go_enter Try.func37, Try.ntmps37
  go_wp2_with fail
  refine bodyPost_ret (v := .bool (false)) (by simp [results, Try.results37, go_sem]) rfl ?_
  exact ⟨rfl, by first | exact Below.refl _ _ | exact al _⟩
set_option maxHeartbeats 2000000 in
theorem is_high (P room n0 : Nat) (A0 : Option Addr) (at_ : Int) (w : World) (d0 : w.cell? ⟨P, 0, none⟩ = some (.slice A0 room n0)) (h0 : 0 ≤ at_) (hA : (room : Int) ≤ at_) :
    Calls Try.prog 37 #[.pointer (some ⟨P, 0, none⟩), .int .i64 at_] w fun e w' => e = .returned (.bool false) ∧ Below w.heap.size w w' := by
  have h1 : ¬ at_ < (room : Int) := by omega
  go_enter Try.func37, Try.ntmps37
  go_wp2_with fail
  refine bodyPost_ret (v := .bool (false)) (by simp [results, Try.results37, go_sem]) rfl ?_
  exact ⟨rfl, by first | exact Below.refl _ _ | exact al _⟩
set_option maxHeartbeats 2000000 in
theorem is_in (P Z room n0 n1 a : Nat) (A0 : Option Addr) (v : Int) (w : World) (d0 : w.cell? ⟨P, 0, none⟩ = some (.slice A0 room n0)) (d1 : w.cell? ⟨P, 1, none⟩ = some (.slice (some ⟨Z, 0, none⟩) room n1)) (d2 : w.cell? ⟨Z, a, none⟩ = some (.int .i64 v)) (h1 : a < room) :
    Calls Try.prog 37 #[.pointer (some ⟨P, 0, none⟩), .int .i64 (a : Int)] w fun e w' => e = .returned (.bool (decide (0 < v))) ∧ Below w.heap.size w w' := by
  have h0 : (0 : Int) ≤ (a : Int) := by omega
  have h2 : (a : Int) < (room : Int) := by omega
  go_enter Try.func37, Try.ntmps37
  go_wp2_with fail
  refine bodyPost_ret (v := .bool (decide (0 < v))) (by simp [results, Try.results37, go_sem]) rfl ?_
  exact ⟨rfl, by first | exact Below.refl _ _ | exact al _⟩
end Go.Proofs.Ythogfcdgbodccaa
