/- A region that draws its order: an invariant over what is done serves every order. Conditions: none. -/
import Derived.Test.YtgjhjojbaieeaaaBase
import Derived.Orders
namespace Go.Proofs.Ytgjhjojbaieeaaa
open Go.ChangeShapes Go.WideShapes Go.ChangeAt Go.RowKit
theorem ready_mem {md : Region.Mode} {ops : Array Oper} {L : Array Bool} {i : Nat} (h : i ∈ Region.ready md ops L) : i < ops.size ∧ L.getD i true = false := by
  unfold Region.ready at h
  rw [List.mem_filter] at h
  obtain ⟨h1, h2⟩ := h
  rw [Bool.and_eq_true] at h2
  exact ⟨List.mem_range.1 h1, by simpa using h2.1⟩
/-- How many operations are still to be done. -/
def left (L : Array Bool) : Nat := L.toList.count false
theorem left_set : ∀ (l : List Bool) (i : Nat), l[i]? = some false → (l.set i true).count false + 1 = l.count false
  | [], i, h => by simp at h
  | b :: l, 0, h => by simp at h; subst h; simp
  | b :: l, i + 1, h => by
    have := left_set l i (by simpa using h)
    simp only [List.set_cons_succ, List.count_cons]
    omega
theorem wpAny_inv {P : Program} {md : Region.Mode} {ops : Array Oper} {Q : Exit → Act → World → Prop} (I : Array Bool → Act → World → Prop)
    (hdone : ∀ L a w, I L a w → L.size = ops.size → Region.ready md ops L = [] → Q .normal a w)
    (hstep : ∀ L a w i, I L a w → L.size = ops.size → i ∈ Region.ready md ops L → wpOp P ops Q i (I (L.setIfInBounds i true)) a w) :
    ∀ (fuel : Nat) (L : Array Bool) (a : Act) (w : World), L.size = ops.size → left L ≤ fuel → I L a w → wpAny P md ops Q fuel L a w := by
  intro fuel
  induction fuel with
  | zero =>
    intro L a w hs hl hI
    have hr : Region.ready md ops L = [] := by
      apply List.eq_nil_iff_forall_not_mem.2
      intro i hi
      obtain ⟨h1, h2⟩ := ready_mem hi
      have h3 : i < L.toList.length := by simpa [hs] using h1
      have h4 : false ∈ L.toList := by
        have : L.toList[i] = false := by
          have h5 : i < L.size := by simpa using h3
          simpa [Array.getD, h5] using h2
        rw [← this]
        exact List.getElem_mem _
      have := List.count_pos_iff.2 h4
      unfold left at hl
      omega
    exact ⟨hr, hdone L a w hI hs hr⟩
  | succ fuel ih =>
    intro L a w hs hl hI
    refine ⟨hdone L a w hI hs, fun i hi => wpOp_mono (fun a' w' h => ih _ a' w' (by simpa using hs) ?_ h) (hstep L a w i hI hs hi)⟩
    obtain ⟨h1, h2⟩ := ready_mem hi
    have h5 : i < L.size := by omega
    have h6 : L.toList[i]? = some false := by
      rw [List.getElem?_eq_getElem (by simpa using h5)]
      simpa [Array.getD, h5] using h2
    have := left_set L.toList i h6
    unfold left at *
    rw [Array.toList_setIfInBounds]
    omega
theorem wpOp_run {P : Program} {ops : Array Oper} {Q : Exit → Act → World → Prop} {i : Nat} {a : Act} {w : World} {K : Act → World → Prop} {o : Oper} (ho : ops[i]? = some o) (hg : o.guard = none) (h : o.wp P a w K Q) : wpOp P ops Q i K a w := by
  unfold wpOp
  rw [ho]
  have hw : Region.wanted o (yielded ops a.tmps) = true := by simp [Region.wanted, hg]
  simp only [hw, if_true]
  exact .inl h
end Go.Proofs.Ytgjhjojbaieeaaa
