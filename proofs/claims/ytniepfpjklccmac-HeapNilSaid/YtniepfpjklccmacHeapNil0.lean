/- The methods of a nil heap: the law HeapNil is true. Conditions: none. -/
import Derived.Test.YtniepfpjklccmacOpen
import Derived.Handy
import Derived.Deep.RegionHeld3
import Derived.Deep.QuietTactic
import Derived.BigQuiet
set_option maxRecDepth 20000
namespace Go.Proofs.Ytniepfpjklccmac
open Go.ChangeShapes Go.WideShapes Go.ChangeAt Go.RowKit
theorem nilIs (at' : Int) (w : World) : Calls Try.prog 86 #[.pointer none, .int .i64 at'] w fun e w' => e = .returned (.bool false) ∧ w = w' := by
  go_enter Try.func86, Try.ntmps86
  go_wp2_with fail
  go_ret
  exact ⟨rfl, rfl⟩
theorem nilAlloc (s n : Int) (w : World) : Calls Try.prog 45 #[.pointer none, .int .i64 s, .int .i64 n] w fun e w' => e = .returned (.tuple #[.int .i64 0, .int .i64 17]) ∧ w = w' := by
  go_enter Try.func45, Try.ntmps45
  go_wp2_with fail
  go_returns
  exact ⟨rfl, rfl⟩
theorem nilPlace (at' i : Int) (w : World) : Calls Try.prog 85 #[.pointer none, .int .i64 at', .int .i64 i] w fun e w' => e = .returned (.tuple #[.int .i64 0, .int .i64 16]) ∧ w = w' := by
  go_enter Try.func85, Try.ntmps85
  go_wp2_with fail
  refine (nilIs _ _).mono ?_
  rintro e w1 ⟨rfl, rfl⟩
  go_wp2_with fail
  go_returns
  exact ⟨rfl, rfl⟩
theorem nilLook (at' : Int) (w : World) : Calls Try.prog 47 #[.pointer none, .int .i64 at'] w fun e w' => e = .returned (.tuple #[.int .i64 0, .int .i64 0, .int .i64 16]) ∧ w = w' := by
  go_enter Try.func47, Try.ntmps47
  go_wp2_with fail
  refine (nilIs _ _).mono ?_
  rintro e w1 ⟨rfl, rfl⟩
  go_wp2_with fail
  go_returns
  exact ⟨rfl, rfl⟩
theorem nilLoad (at' i : Int) (w : World) : Calls Try.prog 46 #[.pointer none, .int .i64 at', .int .i64 i] w fun e w' => e = .returned (.tuple #[.agg #[.int .i64 0, .int .i64 0], .int .i64 16]) ∧ Below w.heap.size w w' := by
  go_enter Try.func46, Try.ntmps46
  go_wp2_with fail
  refine (nilPlace _ _ _).mono ?_
  rintro e w1 ⟨rfl, rfl⟩
  go_wp2_with fail
  exact bodyPost_ret (v := .tuple #[.agg #[.int .i64 0, .int .i64 0], .int .i64 16]) (by simp [results, Try.results46, go_sem]) rfl ⟨rfl, al _⟩
theorem nilStore (at' i t n : Int) (w : World) : Calls Try.prog 48 #[.pointer none, .int .i64 at', .int .i64 i, .agg #[.int .i64 t, .int .i64 n]] w fun e w' => e = .returned (.int .i64 16) ∧ Below w.heap.size w w' := by
  go_enter Try.func48, Try.ntmps48
  go_wp2_with fail
  refine (nilPlace _ _ _).mono ?_
  rintro e w1 ⟨rfl, rfl⟩
  go_wp2_with fail
  go_ret
  exact ⟨rfl, al _⟩
theorem nilCollect (A : Option Addr) (n c : Nat) (w : World) : Calls Try.prog 49 #[.pointer none, .slice A n c] w fun e w' => e = .returned (.int .i64 0) ∧ w = w' := by
  go_enter Try.func49, Try.ntmps49
  go_wp2_with fail
  go_ret
  exact ⟨rfl, rfl⟩
theorem nilFree (w : World) : Calls Try.prog 50 #[.pointer none] w fun e w' => e = .returned (.int .i64 0) ∧ w = w' := by
  go_enter Try.func50, Try.ntmps50
  go_wp2_with fail
  go_ret
  exact ⟨rfl, rfl⟩
theorem nilBlocks (w : World) : Calls Try.prog 51 #[.pointer none] w fun e w' => e = .returned (.slice none 0 0) ∧ w = w' := by
  go_enter Try.func51, Try.ntmps51
  go_wp2_with fail
  go_ret
  exact ⟨rfl, rfl⟩
def IsCell (v : Value) : Prop := ∃ t n : Int, v = .agg #[.int .i64 t, .int .i64 n] ∧ (-9223372036854775808 ≤ t ∧ t ≤ 9223372036854775807) ∧ (-9223372036854775808 ≤ n ∧ n ≤ 9223372036854775807)
section
variable {H : Type} {enc : TypeId × Value → H} {w : World}
theorem op_cell {base : Nat} {v : Value} {d : DataW H} {ps : List MemPlace} (hv : Value.okWide Try.prog w .any base 71 v) (h : DataW.Trod enc Try.prog w 0 (fun _ => true) true 71 v d ps) (hlt : ∀ x ∈ ps, x.block < w.heap.size) (hz : ∀ n ∈ d.weights Try.prog 71, n ≤ reachBytes) : IsCell v := by
  obtain ⟨cs, rfl, _⟩ := okWide_struct Try.underlying71 hv
  obtain ⟨hl, hf⟩ := op_fields Try.underlying71 (by kernel_rfl) (by kernel_rfl) (Opens.of h hlt hz)
  obtain ⟨l⟩ := cs
  simp only [Value.cells] at hl hf
  match l, hl with
  | [c0, c1], _ =>
    obtain ⟨_, _, e0, h0⟩ := hf 0 _ rfl
    obtain ⟨_, _, e1, h1⟩ := hf 1 _ rfl
    simp at e0 e1
    subst e0 e1
    obtain ⟨k, rfl, hk⟩ := cint1 (op_cint Try.underlying3 h0)
    obtain ⟨a, rfl, ha⟩ := cint1 (op_cint Try.underlying3 h1)
    exact ⟨k, a, rfl, hk, ha⟩
end
theorem walkHeapNil (v0 v1 v2 v3 v4 : Value) (w : World) (w0 : IsInt v0) (w1 : IsInt v1) (w2 : IsInt v2) (w3 : IsInt v3) (w4 : IsCell v4) : Calls Try.prog 14 #[v0, v1, v2, v3, v4] w fun e w' => e = .returned (.bool true) ∧ Below w.heap.size w w' := by
  obtain ⟨s, rfl, _⟩ := w0
  obtain ⟨n, rfl, _⟩ := w1
  obtain ⟨a, rfl, _⟩ := w2
  obtain ⟨i, rfl, _⟩ := w3
  obtain ⟨t, q, rfl, _, _⟩ := w4
  go_enter Try.func14, Try.ntmps14
  go_wp2_with (first
    | (go_at_call 45; refine (nilAlloc _ _ _).mono ?_; rintro e w1 ⟨rfl, rfl⟩))
  refine (nilLoad _ _ _).mono ?_
  rintro e w1 ⟨rfl, b1⟩
  have c0 := b1.cell (p := ⟨w.heap.size, 0, none⟩) (by go_size); have c1 := b1.cell (p := ⟨w.heap.size, 1, none⟩) (by go_size); (try simp at c0 c1)
  have s1 := b1.size
  simp at s1
  have s3 : ¬ w.heap.size = w1.heap.size := by omega
  have hB : Below w.heap.size w w1 := sq (al _) b1
  go_wp2_with fail
  generalize hW : w1.alloc (Obj.cells #[Value.int .i64 0, Value.int .i64 0] 71) = W
  have hBW : Below w.heap.size w W := by rw [← hW]; exact al2 hB _
  have c0' : W.cell? ⟨w.heap.size, 0, none⟩ = some (.int .i64 t) := by rw [← hW, World.cell?_alloc_lt _ _ _ (by simp; omega)]; exact c0
  have c1' : W.cell? ⟨w.heap.size, 1, none⟩ = some (.int .i64 q) := by rw [← hW, World.cell?_alloc_lt _ _ _ (by simp; omega)]; exact c1
  have hgW : w.heap.size < W.heap.size := by rw [← hW]; simp; omega
  clear hW
  refine (nilLook _ _).mono ?_
  rintro e w2 ⟨rfl, rfl⟩
  go_wp2_with fail
  refine (nilStore _ _ _ _ _).mono ?_
  rintro e w3 ⟨rfl, b3⟩
  have d0 := (b3.cell (p := ⟨w.heap.size, 0, none⟩) hgW).trans c0'
  have d1 := (b3.cell (p := ⟨w.heap.size, 1, none⟩) hgW).trans c1'
  go_wp2_with fail
  refine (nilCollect _ _ _ _).mono ?_
  rintro e w4 ⟨rfl, rfl⟩
  go_wp2_with fail
  refine (nilFree _).mono ?_
  rintro e w5 ⟨rfl, rfl⟩
  go_wp2_with fail
  refine (nilBlocks _).mono ?_
  rintro e w6 ⟨rfl, rfl⟩
  go_wp2_with fail
  go_ret
  exact ⟨rfl, al2 (sq hBW b3) _⟩
end Go.Proofs.Ytniepfpjklccmac
