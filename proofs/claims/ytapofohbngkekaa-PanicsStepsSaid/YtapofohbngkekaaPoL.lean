/- The document's StepState, whatever the event, and the state at the start. Conditions: the state is one that is come to. -/
import Derived.Test.YtapofohbngkekaaPoD
import Derived.Test.YtapofohbngkekaaPoF
import Derived.Test.YtapofohbngkekaaPoG
import Derived.Test.YtapofohbngkekaaPoI
import Derived.Test.YtapofohbngkekaaPoJ
import Derived.Test.YtapofohbngkekaaPoK
set_option maxRecDepth 100000
namespace Go.Proofs.Ytapofohbngkekaa
open Go.ChangeShapes Go.WideShapes Go.ChangeAt Go.RowKit
theorem stepState_any (FA PA : Option Addr) (nf fc np pc k : Nat) (s : ST) (v : EV) (A : Option Addr) (len cap : Nat) (w : World) (hs : STr w w.heap.size (.slice FA nf fc) (.slice PA np pc) s) (hi : Inv k s) (hk : k ≤ 50000) (he : s.en = 0) :
    Calls Try.prog 22 #[stV (.slice FA nf fc) (.slice PA np pc) s, evA v A len cap] w (SpP s v w) := by
  by_cases h1 : v.kind = 1
  · exact step_call FA PA nf fc np pc k s v A len cap w hs hi hk he h1
  by_cases h2 : v.kind = 2
  · exact step_ret FA PA nf fc np pc k s v A len cap w hs hi hk he h2
  by_cases h3 : v.kind = 3
  · exact step_defer FA PA nf fc np pc k s v A len cap w hs hi hk he h3
  by_cases h4 : v.kind = 4
  · exact step_panic FA PA nf fc np pc k s v A len cap w hs hi hk he h4
  by_cases h5 : v.kind = 5
  · exact step_recover FA PA nf fc np pc k s v A len cap w hs hi hk he h5
  by_cases h6 : v.kind = 6
  · exact step_exit FA PA nf fc np pc k s v A len cap w hs hi hk he h6
  exact step_bad FA PA nf fc np pc k s v A len cap w hs hi hk he ⟨h1, h2, h3, h4, h5, h6⟩
theorem refBegin_new (w : World) : Calls Try.prog 42 #[] w fun e w' => ∃ g, e = .returned (.agg #[.slice (some ⟨g, 0, none⟩) 1 1, .slice none 0 0, .int .i64 1, .int .i64 0, .int .i64 0, .int .i64 0]) ∧ w'.heap[g]? = some (.cells #[.int .i64 0, .int .i64 0, .int .i64 (-1), .int .i64 0, .slice none 0 0] 93 (0, 0)) ∧ w.heap.size ≤ g ∧ Below w.heap.size w w' := by
  go_enter Try.func42, Try.ntmps42
  go_wp2_with fail
  go_returns
  exact ⟨w.heap.size + 1, rfl, heap_atN _ (by simp), by omega, sq (al _) (al _)⟩
theorem STm.begin {w : World} {M : Nat → Prop} {g : Nat} (h : w.heap[g]? = some (.cells #[.int .i64 0, .int .i64 0, .int .i64 (-1), .int .i64 0, .slice none 0 0] 93 (0, 0))) (hM : M g) : STm w M (.slice (some ⟨g, 0, none⟩) 1 1) (.slice none 0 0) beginS := by
  refine ⟨⟨some ⟨g, 0, none⟩, 1, [.slice none 0 0], rfl, Nat.le_refl _, by unfold maxLen; omega, ⟨rfl, fun _ => ⟨g, 0, rfl, hM, fun j u hu => ?_⟩⟩, rfl, fun i f d hf hd => ?_⟩, none, 0, rfl, Nat.le_refl _, by unfold maxLen; omega, RdM.nil⟩
  · rw [Nat.zero_add, Lib.cell_of_heap h]
    simpa [frL, frC, beginS] using hu
  · have hi := (List.getElem?_eq_some_iff.1 hd).1
    obtain rfl : i = 0 := by simp at hi; omega
    simp [beginS] at hf hd
    subst hf hd
    exact ⟨none, 0, rfl, Nat.le_refl _, by unfold maxLen; omega, RdM.nil⟩
end Go.Proofs.Ytapofohbngkekaa
