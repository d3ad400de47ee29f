/- Lists of texts that come in. Conditions: none. -/
import Derived.Test.YtmbljapjecclaabOpShape
set_option maxRecDepth 20000
namespace Go.Proofs.Ytmbljapjecclaab
open Go.ChangeShapes Go.WideShapes Go.ChangeAt Go.RowKit Go.Deep
theorem strs_flat {w : World} {M : Nat → Prop} : ∀ {ess : List (List Value)} {l : List ByteArray}, Shp.str.all w M ess l → ess.flatten = l.map Value.string
  | [], [], _ => rfl
  | [], _ :: _, h => by have := h.1; simp at this
  | _ :: _, [], h => by have := h.1; simp at this
  | c :: ess, z :: l, h => by
    have h1 : c = [.string z] := h.2 0 c z rfl rfl
    have h4 := strs_flat (ess := ess) (l := l) ⟨by have := h.1; simpa using this, fun i c z hc hz => h.2 (i + 1) c z hc hz⟩
    rw [List.flatten_cons, h4, h1]; rfl
theorem strs_elim {w : World} {M : Nat → Prop} {cs : List Value} {l : List ByteArray} (h : (Shp.slice Shp.str).rd w M cs l) :
    ∃ A c, cs = [.slice A l.length c] ∧ RdM w M 1 A l.length (l.map Value.string) ∧ l.length ≤ c ∧ c ≤ maxLen ∧ (c = 0 ∨ A ≠ none) := by
  obtain ⟨A, c, ess, rfl, h1, h2, h3, h4, h5⟩ := h
  rw [strs_flat h5] at h4
  exact ⟨A, c, rfl, h4, h1, h2, h3⟩
/-- A list of texts that comes in. -/
def IsStrs (w : World) (v : Value) : Prop := ∃ (A : Option Addr) (c : Nat) (l : List ByteArray), v = .slice A l.length c ∧ Rd w w.heap.size 1 A l.length (l.map Value.string) ∧ l.length * 16 ≤ 140737488351232 ∧ ∀ s ∈ l, s.size ≤ 140737488351232
theorem op_strs {H : Type} {enc : TypeId × Value → H} {w : World} {base : Nat} {v : Value} {d : DataW H} {ps : List MemPlace} (hv : Value.okWide Try.prog w .any base 23 v) (h : DataW.Trod enc Try.prog w 0 (fun _ => true) true 23 v d ps) (hlt : ∀ x ∈ ps, x.block < w.heap.size) (hz : ∀ n ∈ d.weights Try.prog 23, n ≤ reachBytes) : IsStrs w v := by
  obtain ⟨A, len, cap, rfl⟩ := okWide_slice Try.underlying23 hv
  obtain ⟨l, h1, h2, _⟩ := op_slice' (S := Shp.str) (bytes := 16) Try.underlying23 (by kernel_rfl) (by kernel_rfl) (by show 0 < 1; omega) (op_str' Try.underlying9) (Opens.of h hlt hz)
  obtain ⟨A', c', e, hr, _⟩ := strs_elim h1
  change [Value.slice A len cap] = _ at e
  simp at e
  obtain ⟨rfl, rfl, rfl⟩ := e
  exact ⟨A, cap, l, rfl, hr, h2⟩
end Go.Proofs.Ytmbljapjecclaab
