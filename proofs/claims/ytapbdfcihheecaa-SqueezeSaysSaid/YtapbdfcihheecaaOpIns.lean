/- What an instruction is that comes in. Conditions: none. -/
import Derived.Test.YtapbdfcihheecaaBase
namespace Go.Proofs.Ytapbdfcihheecaa
open Go.ChangeShapes Go.WideShapes Go.ChangeAt Go.RowKit Go.Deep
@[reducible] def ins (o a b c d e : Int) : Value := .agg #[.int .i64 o, .int .i64 a, .int .i64 b, .int .i64 c, .int .i64 d, .int .i64 e]
def IsIns (v : Value) : Prop := ∃ o a b c d e : Int, v = ins o a b c d e
set_option maxRecDepth 100000 in
theorem op_ins {H : Type} {enc : TypeId × Value → H} {w : World} {base : Nat} {v : Value} {d : DataW H} {ps : List MemPlace}
    (hv : Value.okWide Try.prog w .any base 126 v) (h : DataW.Trod enc Try.prog w 0 (fun _ => true) true 126 v d ps) (hlt : ∀ x ∈ ps, x.block < w.heap.size) (hz : ∀ n ∈ d.weights Try.prog 126, n ≤ reachBytes) : IsIns v := by
  obtain ⟨cs, rfl, _⟩ := okWide_struct Try.underlying126 hv
  have ho := Opens.of h hlt hz
  obtain ⟨hl, hf⟩ := op_fields Try.underlying126 (by kernel_rfl) (by kernel_rfl) ho
  obtain ⟨l⟩ := cs
  simp only [Value.cells] at hl hf
  match l, hl with
  | [c0, c1, c2, c3, c4, c5], _ =>
    obtain ⟨_, _, e0, h0⟩ := hf 0 _ rfl
    obtain ⟨_, _, e1, h1⟩ := hf 1 _ rfl
    obtain ⟨_, _, e2, h2⟩ := hf 2 _ rfl
    obtain ⟨_, _, e3, h3⟩ := hf 3 _ rfl
    obtain ⟨_, _, e4, h4⟩ := hf 4 _ rfl
    obtain ⟨_, _, e5, h5⟩ := hf 5 _ rfl
    simp at e0 e1 e2 e3 e4 e5
    subst e0 e1 e2 e3 e4 e5
    obtain ⟨a0, rfl, _⟩ := cint1 (op_cint Try.underlying3 h0)
    obtain ⟨a1, rfl, _⟩ := cint1 (op_cint Try.underlying3 h1)
    obtain ⟨a2, rfl, _⟩ := cint1 (op_cint Try.underlying3 h2)
    obtain ⟨a3, rfl, _⟩ := cint1 (op_cint Try.underlying3 h3)
    obtain ⟨a4, rfl, _⟩ := cint1 (op_cint Try.underlying3 h4)
    obtain ⟨a5, rfl, _⟩ := cint1 (op_cint Try.underlying3 h5)
    exact ⟨a0, a1, a2, a3, a4, a5, rfl⟩
end Go.Proofs.Ytapbdfcihheecaa
