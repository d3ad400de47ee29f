/- A code that comes in. Conditions: none. -/
import Derived.Test.YtapbdfcihheecaaCdV
set_option maxRecDepth 20000
namespace Go.Proofs.Ytapbdfcihheecaa
open Go.ChangeShapes Go.WideShapes Go.ChangeAt Go.RowKit Go.Deep
def IsCode (w : World) (v : Value) : Prop := ∃ (K : KK) (FA TA : Option Addr) (fc tc : Nat), v = .agg #[.slice FA K.funcs.length fc, .slice TA K.texts.length tc] ∧ KK.sh.rd w (· < w.heap.size) [.slice FA K.funcs.length fc, .slice TA K.texts.length tc] K ∧ K.fits
theorem op_code {H : Type} {enc : TypeId × Value → H} {w : World} {base : Nat} {v : Value} {d : DataW H} {ps : List MemPlace} (hv : Value.okWide Try.prog w .any base 71 v) (h : DataW.Trod enc Try.prog w 0 (fun _ => true) true 71 v d ps) (hlt : ∀ x ∈ ps, x.block < w.heap.size) (hz : ∀ n ∈ d.weights Try.prog 71, n ≤ reachBytes) : IsCode w v := by
  obtain ⟨cs, rfl, _⟩ := okWide_struct Try.underlying71 hv
  obtain ⟨K, h1, h2, _⟩ := KK.op (Opens.of h hlt hz)
  obtain ⟨FA, fc, TA, tc, e, _⟩ := KR.of h1 h2
  obtain ⟨l⟩ := cs
  simp only [Value.cells] at e h1
  subst e
  exact ⟨K, FA, TA, fc, tc, rfl, h1, h2⟩
theorem KR.of' {w : World} {B : Nat} {K : KK} {FA TA : Option Addr} {fc tc : Nat} (h : KK.sh.rd w (· < B) [.slice FA K.funcs.length fc, .slice TA K.texts.length tc] K) (hf : K.fits) : KR w B FA TA K := by
  obtain ⟨FA', fc', TA', tc', e, hk⟩ := KR.of h hf
  simp at e
  obtain ⟨⟨rfl, rfl⟩, rfl, rfl⟩ := e
  exact hk
end Go.Proofs.Ytapbdfcihheecaa
