/- The plain side of a heap: how many cells are free; the blocks listed, place by place. Conditions: none. -/
import Derived.Test.YthogfcdgbodccaaHpU
namespace Go.Proofs.Ythogfcdgbodccaa
def sumI : List Int → Int
  | [] => 0
  | a :: l => a + sumI l
theorem sumI_app (a b : List Int) : sumI (a ++ b) = sumI a + sumI b := by
  induction a with
  | nil => simp [sumI]
  | cons x a ih =>
    rw [List.cons_append]
    simp only [sumI]
    omega
theorem sumI_zero (n : Nat) : sumI (List.replicate n 0) = 0 := by
  induction n with
  | zero => rfl
  | succ n ih =>
    rw [List.replicate_succ]
    simp only [sumI]
    omega
/-- The blocks' cells, those that tell of them too. -/
def usedB : List BK → Nat
  | [] => 0
  | b :: bs => (b.cells.length + 1) + usedB bs
theorem szL_sum (lo : Nat) (bs : List BK) (room : Nat) : sumI (szL lo bs room) = (usedB bs : Int) := by
  induction bs generalizing lo with
  | nil =>
    simp only [szL, usedB]
    rw [sumI_zero]
    rfl
  | cons b bs ih =>
    simp only [szL, usedB]
    rw [sumI_app, sumI_zero]
    simp only [sumI]
    rw [sumI_app, sumI_zero, ih]
    omega
theorem usedB_le {lo : Nat} {bs : List BK} {room : Nat} (h : FitB lo bs room) : usedB bs ≤ room - lo := by
  induction bs generalizing lo with
  | nil => exact Nat.zero_le _
  | cons b bs ih =>
    have h1 := ih h.2
    have h2 := h.1
    have h4 := h.2.le
    have h3 : b.fin = b.at_ + 1 + b.cells.length := rfl
    simp only [usedB]
    omega
/-- The blocks ahead of a place. -/
def upB (bs : List BK) (k : Nat) : List BK := bs.filter fun b => decide (b.at_ < k)
theorem upB_zero (bs : List BK) : upB bs 0 = [] := by
  unfold upB
  apply List.filter_eq_nil_iff.2
  intro b _
  simp
theorem upB_all {lo : Nat} {bs : List BK} {room : Nat} (h : FitB lo bs room) : upB bs room = bs := by
  unfold upB
  apply List.filter_eq_self.2
  intro b hb
  have := (h.ge b hb).2
  have h3 : b.fin = b.at_ + 1 + b.cells.length := rfl
  simp
  omega
theorem upB_none {bs : List BK} {k : Nat} (h : blkAt bs k = none) : upB bs (k + 1) = upB bs k := by
  unfold upB
  apply List.filter_congr
  intro b hb
  have := List.find?_eq_none.1 h b hb
  have hne : b.at_ ≠ k := by simpa using this
  by_cases e : b.at_ < k
  · have e2 : b.at_ < k + 1 := by omega
    simp [e, e2]
  · have e2 : ¬ b.at_ < k + 1 := by omega
    simp [e, e2]
theorem upB_some {lo : Nat} {bs : List BK} {room : Nat} (hf : FitB lo bs room) {k : Nat} {b : BK} (h : blkAt bs k = some b) : upB bs (k + 1) = upB bs k ++ [b] := by
  induction bs generalizing lo with
  | nil => cases h
  | cons c bs ih =>
    have h3 : c.fin = c.at_ + 1 + c.cells.length := rfl
    have hge := hf.2.ge
    by_cases e : c.at_ = k
    · have e2 : b = c := by
        unfold blkAt at h
        rw [List.find?_cons_of_pos (by simpa using e)] at h
        injection h with h
        exact h.symm
      subst e2
      have n1 : ∀ m, m ≤ k + 1 → upB bs m = [] := by
        intro m hm
        unfold upB
        apply List.filter_eq_nil_iff.2
        intro d hd
        have := (hge d hd).1
        simp
        omega
      have n2 : upB (b :: bs) (k + 1) = b :: upB bs (k + 1) := by
        unfold upB
        rw [List.filter_cons, if_pos (by simp; omega)]
      have n3 : upB (b :: bs) k = upB bs k := by
        unfold upB
        rw [List.filter_cons, if_neg (by simp; omega)]
      rw [n2, n3, n1 _ (Nat.le_refl _), n1 _ (by omega)]
      rfl
    · have h' : blkAt bs k = some b := by
        unfold blkAt at h ⊢
        rwa [List.find?_cons_of_neg (by simpa using e)] at h
      obtain ⟨hm, he⟩ := blkAt_mem h'
      have hlt : c.at_ < k := by
        have := (hge b hm).1
        omega
      have n2 : ∀ m, k ≤ m → upB (c :: bs) m = c :: upB bs m := by
        intro m hm
        unfold upB
        rw [List.filter_cons, if_pos (by simp; omega)]
      rw [n2 _ (by omega), n2 _ (Nat.le_refl _), ih hf.2 h', List.cons_append]
end Go.Proofs.Ythogfcdgbodccaa
