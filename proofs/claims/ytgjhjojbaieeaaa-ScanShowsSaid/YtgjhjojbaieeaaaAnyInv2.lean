/- A region that draws its order: an invariant over what is done, what is done being closed under what it waits for. Conditions: none. -/
import Derived.Test.YtgjhjojbaieeaaaAnyInv
namespace Go.Proofs.Ytgjhjojbaieeaaa
open Go.ChangeShapes Go.WideShapes Go.ChangeAt Go.RowKit
/-- What is done has had all done that it waits for. -/
def Shut' (md : Region.Mode) (ops : Array Oper) (L : Array Bool) : Prop :=
  ∀ j oj, ops[j]? = some oj → L.getD j false = true → ∀ e ∈ oj.after, Region.binds md e = true → L.getD e.on false = true
theorem getD_t {L : Array Bool} {i j : Nat} (h : L.getD j false = true) : (L.setIfInBounds i true).getD j false = true := by
  rw [Array.getD_eq_getD_getElem?] at h ⊢
  rw [Array.getElem?_setIfInBounds]
  split
  · rename_i hij
    subst hij
    split
    · rfl
    · rename_i hlt
      rw [Array.getElem?_eq_none (by omega)] at h
      exact h
  · exact h
theorem wpAny_inv2 {P : Program} {md : Region.Mode} {ops : Array Oper} {Q : Exit → Act → World → Prop} (I : Array Bool → Act → World → Prop)
    (hdone : ∀ L a w, I L a w → Shut' md ops L → L.size = ops.size → Region.ready md ops L = [] → Q .normal a w)
    (hstep : ∀ L a w i, I L a w → Shut' md ops L → L.size = ops.size → i ∈ Region.ready md ops L → wpOp P ops Q i (I (L.setIfInBounds i true)) a w)
    (fuel : Nat) (L : Array Bool) (a : Act) (w : World) (hs : L.size = ops.size) (hl : left L ≤ fuel) (hI : I L a w) (hc : Shut' md ops L) : wpAny P md ops Q fuel L a w := by
  refine wpAny_inv (fun L a w => I L a w ∧ Shut' md ops L) (fun L a w h => hdone L a w h.1 h.2) (fun L a w i h hs hi => ?_) fuel L a w hs hl ⟨hI, hc⟩
  refine wpOp_mono (fun a' w' h' => ⟨h', ?_⟩) (hstep L a w i h.1 h.2 hs hi)
  intro j oj hj hl e he hb
  by_cases hij : i = j
  · subst hij
    obtain ⟨_, oi, hoi, hall⟩ := mem_ready.1 hi
    obtain rfl : oj = oi := Option.some.inj (hj.symm.trans hoi)
    exact getD_t (hall e he hb)
  · refine getD_t (h.2 j oj hj ?_ e he hb)
    rw [Array.getD_eq_getD_getElem?] at hl ⊢
    rwa [Array.getElem?_setIfInBounds_ne hij] at hl
theorem shut_start (md : Region.Mode) (ops : Array Oper) (n : Nat) : Shut' md ops (Array.replicate n false) := by
  intro j oj _ hl
  rw [Array.getD_eq_getD_getElem?, Array.getElem?_replicate] at hl
  split at hl <;> simp at hl
def pkd (b : Bool) (v d : Value) : Value := bif b then v else d
theorem pkd_t (v d : Value) : pkd true v d = v := rfl
end Go.Proofs.Ytgjhjojbaieeaaa
