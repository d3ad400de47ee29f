/- The law FaultTexts is true. Conditions: none. -/
import Derived.Test.YtniepfpjklccmaaFText
import Derived.Test.YtniepfpjklccmaaOpen
set_option maxRecDepth 20000
namespace Go.Proofs.Ytniepfpjklccmaa
open Go.ChangeShapes Go.WideShapes Go.ChangeAt Go.RowKit
def IsFault (v : Value) : Prop := ∃ k a b c : Int, v = f4 k a b c ∧ In64 k ∧ In64 a ∧ In64 b ∧ In64 c
section
variable {H : Type} {enc : TypeId × Value → H} {w : World}
theorem op_fault {base : Nat} {v : Value} {d : DataW H} {ps : List MemPlace} (hv : Value.okWide Try.prog w .any base 38 v) (h : DataW.Trod enc Try.prog w 0 (fun _ => true) true 38 v d ps) (hlt : ∀ x ∈ ps, x.block < w.heap.size) (hz : ∀ n ∈ d.weights Try.prog 38, n ≤ reachBytes) : IsFault v := by
  obtain ⟨cs, rfl, _⟩ := okWide_struct Try.underlying38 hv
  obtain ⟨hl, hf⟩ := op_fields Try.underlying38 (by kernel_rfl) (by kernel_rfl) (Opens.of h hlt hz)
  obtain ⟨l⟩ := cs
  simp only [Value.cells] at hl hf
  match l, hl with
  | [c0, c1, c2, c3], _ =>
    obtain ⟨_, _, e0, h0⟩ := hf 0 _ rfl
    obtain ⟨_, _, e1, h1⟩ := hf 1 _ rfl
    obtain ⟨_, _, e2, h2⟩ := hf 2 _ rfl
    obtain ⟨_, _, e3, h3⟩ := hf 3 _ rfl
    simp at e0 e1 e2 e3
    subst e0 e1 e2 e3
    obtain ⟨k, rfl, hk⟩ := cint1 (op_cint Try.underlying3 h0)
    obtain ⟨a, rfl, ha⟩ := cint1 (op_cint Try.underlying3 h1)
    obtain ⟨b, rfl, hb⟩ := cint1 (op_cint Try.underlying3 h2)
    obtain ⟨c, rfl, hc⟩ := cint1 (op_cint Try.underlying3 h3)
    exact ⟨k, a, b, c, rfl, hk, ha, hb, hc⟩
end
theorem faultText_ag (k a b c : Int) (ha : In64 a) (hb : In64 b) (hc : In64 c) (w : World) : Calls Try.prog 32 #[.agg #[.int .i64 k, .int .i64 a, .int .i64 b, .int .i64 c]] w fun e w' => e = .returned (.string (faultS k a b c)) ∧ Below w.heap.size w w' := faultText_any k a b c ha hb hc w
theorem refFaultText_ag (k a b c : Int) (ha : In64 a) (hb : In64 b) (hc : In64 c) (w : World) : Calls Try.prog 33 #[.agg #[.int .i64 k, .int .i64 a, .int .i64 b, .int .i64 c]] w fun e w' => e = .returned (.string (faultS k a b c)) ∧ Below w.heap.size w w' := refFaultText_any k a b c ha hb hc w
theorem walkFaultTexts (v0 : Value) (w : World) (w0 : IsFault v0) : Calls Try.prog 11 #[v0] w fun e w' => e = .returned (.bool true) ∧ Below w.heap.size w w' := by
  obtain ⟨k, a, b, c, rfl, hk, ha, hb, hc⟩ := w0
  have h0 : In64 0 := by unfold In64; omega
  have e6 : faultS 6 0 0 0 = ⟨#[114, 117, 110, 116, 105, 109, 101, 32, 101, 114, 114, 111, 114, 58, 32, 110, 111, 32, 105, 110, 116, 32, 105, 110, 32, 97, 110, 121]⟩ := by unfold faultS fixedS; simp only [if_pos, reduceIte, Int.reduceEq]
  unfold f4
  go_enter Try.func11, Try.ntmps11
  go_wp2_with fail
  generalize hW : w.alloc (Obj.cells #[Value.int .i64 k, Value.int .i64 a, Value.int .i64 b, Value.int .i64 c] 38) = W
  have hWb : Below w.heap.size w W := by rw [← hW]; exact al _
  have hWs : W.heap.size = w.heap.size + 1 := by rw [← hW]; simp
  have hg : w.heap.size < W.heap.size := by omega
  have hI : W.cell? ⟨w.heap.size, 0, none⟩ = some (.int .i64 k) ∧ W.cell? ⟨w.heap.size, 1, none⟩ = some (.int .i64 a) ∧ W.cell? ⟨w.heap.size, 2, none⟩ = some (.int .i64 b) ∧ W.cell? ⟨w.heap.size, 3, none⟩ = some (.int .i64 c) ∧ Below W.heap.size W W := by
    rw [← hW]; simp; exact Below.refl _ _
  clear hW hWs
  have hId : W.drew.cell? ⟨w.heap.size, 0, none⟩ = some (.int .i64 k) ∧ W.drew.cell? ⟨w.heap.size, 1, none⟩ = some (.int .i64 a) ∧ W.drew.cell? ⟨w.heap.size, 2, none⟩ = some (.int .i64 b) ∧ W.drew.cell? ⟨w.heap.size, 3, none⟩ = some (.int .i64 c) ∧ Below W.heap.size W W.drew :=
    ⟨hI.1, hI.2.1, hI.2.2.1, hI.2.2.2.1, hI.2.2.2.2.drew⟩
  go_region_held3 (fun w' => w'.cell? ⟨w.heap.size, 0, none⟩ = some (.int .i64 k) ∧ w'.cell? ⟨w.heap.size, 1, none⟩ = some (.int .i64 a) ∧ w'.cell? ⟨w.heap.size, 2, none⟩ = some (.int .i64 b) ∧ w'.cell? ⟨w.heap.size, 3, none⟩ = some (.int .i64 c) ∧ Below W.heap.size W w')
    (first | exact hId | exact held_stay hg (by assumption) (by assumption))
    (first
      | (go_at_call 32; refine (faultText_ag _ _ _ _ (by with_reducible assumption) (by with_reducible assumption) (by with_reducible assumption) _).mono ?_; rintro e w1 ⟨rfl, b1⟩)
      | (go_at_call 33; refine (refFaultText_ag _ _ _ _ (by with_reducible assumption) (by with_reducible assumption) (by with_reducible assumption) _).mono ?_; rintro e w1 ⟨rfl, b1⟩))
  go_wp2
  go_ret
  exact ⟨rfl, sq hWb (last5 (by assumption))⟩
end Go.Proofs.Ytniepfpjklccmaa
