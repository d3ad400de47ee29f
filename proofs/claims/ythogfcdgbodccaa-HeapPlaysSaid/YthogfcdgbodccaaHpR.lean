/- The plain side of a heap: what the row of sizes tells at a place, and a block taken out. Conditions: none. -/
import Derived.Test.YthogfcdgbodccaaHpQ
namespace Go.Proofs.Ythogfcdgbodccaa
theorem szL_gap {lo mid : Nat} {bs : List BK} {room : Nat} (hl : lo ≤ mid) (h : FitB mid bs room) : szL lo bs room = List.replicate (mid - lo) 0 ++ szL mid bs room := by
  cases bs with
  | nil =>
    have h1 : mid ≤ room := h
    simp only [szL]
    rw [List.replicate_append_replicate]
    congr 1
    omega
  | cons b bs =>
    have h1 := h.1
    simp only [szL]
    rw [← List.append_assoc, List.replicate_append_replicate]
    congr 2
    omega
theorem FitB.from {lo mid : Nat} {bs : List BK} {room : Nat} (hl : lo ≤ mid) (h : FitB mid bs room) : FitB lo bs room := by
  cases bs with
  | nil => exact Nat.le_trans hl h
  | cons b bs => exact ⟨Nat.le_trans hl h.1, h.2⟩
theorem FitB.ge {lo : Nat} {bs : List BK} {room : Nat} (h : FitB lo bs room) : ∀ b ∈ bs, lo ≤ b.at_ ∧ b.fin ≤ room := by
  induction bs generalizing lo with
  | nil => intro b hb; cases hb
  | cons c bs ih =>
    intro b hb
    have h3 : c.fin = c.at_ + 1 + c.cells.length := rfl
    have h1 := h.1
    have h2 := h.2.le
    rcases List.mem_cons.1 hb with e | hb
    · subst e; exact ⟨h1, h2⟩
    · have := ih h.2 b hb
      exact ⟨by omega, this.2⟩
theorem FitB.filter {lo : Nat} {bs : List BK} {room : Nat} (p : BK → Bool) (h : FitB lo bs room) : FitB lo (bs.filter p) room := by
  induction bs generalizing lo with
  | nil => exact h
  | cons c bs ih =>
    have h3 : c.fin = c.at_ + 1 + c.cells.length := rfl
    have h1 := h.1
    have h2 := ih h.2
    rw [List.filter_cons]
    split
    · exact ⟨h1, h2⟩
    · exact FitB.from (by omega) h2
/-- A block taken out: its entry is cleared. -/
theorem szL_rm {lo : Nat} {bs : List BK} {room : Nat} (p : BK → Bool) (a : Nat) (hp : ∀ b ∈ bs, p b = (b.at_ != a)) (h : FitB lo bs room) (ha : ∃ b ∈ bs, b.at_ = a) : szL lo (bs.filter p) room = (szL lo bs room).set (a - lo) 0 := by
  induction bs generalizing lo with
  | nil => obtain ⟨b, hb, _⟩ := ha; cases hb
  | cons c bs ih =>
    have h3 : c.fin = c.at_ + 1 + c.cells.length := rfl
    have h1 := h.1
    have hc := hp c (List.mem_cons_self)
    by_cases e : c.at_ = a
    · subst e
      have hn : bs.filter p = bs := by
        apply List.filter_eq_self.2
        intro b hb
        have := (h.2.ge b hb).1
        rw [hp b (List.mem_cons_of_mem _ hb)]
        simp
        omega
      rw [List.filter_cons, hc, hn]
      simp only [bne_self_eq_false, Bool.false_eq_true, if_false]
      rw [szL_gap (mid := c.fin) (by omega) h.2]
      simp only [szL]
      rw [List.set_append_right _ _ (by simp), List.length_replicate, Nat.sub_self, List.set_cons_zero]
      rw [show c.fin - lo = (c.at_ - lo) + (c.cells.length + 1) by omega, ← List.replicate_append_replicate, List.replicate_succ, List.append_assoc, List.cons_append]
    · have hc' : p c = true := by rw [hc]; simp [e]
      obtain ⟨b, hb, hba⟩ := ha
      have hb' : b ∈ bs := by
        rcases List.mem_cons.1 hb with e' | hb'
        · subst e'; exact absurd hba e
        · exact hb'
      have hq := ih (fun b hb => hp b (List.mem_cons_of_mem _ hb)) h.2 ⟨b, hb', hba⟩
      have hg := (h.2.ge b hb').1
      rw [List.filter_cons, if_pos hc']
      simp only [szL]
      rw [hq, List.set_append_right _ _ (by simp; omega), List.length_replicate]
      have e4 : a - lo - (c.at_ - lo) = (c.cells.length + (a - c.fin)) + 1 := by omega
      rw [e4, List.set_cons_succ, List.set_append_right _ _ (by simp), List.length_replicate, Nat.add_sub_cancel_left]
/-- What the row tells at a place: 0, and no block begins there; or a block's cells. -/
theorem szL_at {lo : Nat} {bs : List BK} {room : Nat} (h : FitB lo bs room) {a : Nat} (h1 : lo ≤ a) (h2 : a < room) : (szL lo bs room)[a - lo]? = some (match blkAt bs a with | some b => ((b.cells.length + 1 : Nat) : Int) | none => 0) := by
  induction bs generalizing lo with
  | nil =>
    simp only [szL, blkAt, List.find?_nil]
    rw [List.getElem?_replicate, if_pos (by omega)]
  | cons c bs ih =>
    have h3 : c.fin = c.at_ + 1 + c.cells.length := rfl
    have h4 := h.1
    have hge := h.2.ge
    by_cases e : c.at_ = a
    · subst e
      rw [szL_head]
      simp [blkAt]
    · have e1 : blkAt (c :: bs) a = blkAt bs a := by simp [blkAt, e]
      rw [e1]
      by_cases e2 : a < c.fin
      · have e3 : blkAt bs a = none := by
          apply List.find?_eq_none.2
          intro b hb
          have := (hge b hb).1
          simp
          omega
        rw [e3]
        by_cases e5 : a < c.at_
        · simp only [szL]
          rw [List.getElem?_append_left (by simp; omega), List.getElem?_replicate, if_pos (by omega)]
        · simp only [szL]
          rw [List.getElem?_append_right (by simp; omega), List.length_replicate, show a - lo - (c.at_ - lo) = (a - c.at_ - 1) + 1 by omega, List.getElem?_cons_succ, List.getElem?_append_left (by simp; omega), List.getElem?_replicate, if_pos (by omega)]
      · have := ih h.2 (by omega)
        rw [← this, ← szL_drop h]
        congr 1
        omega
end Go.Proofs.Ythogfcdgbodccaa
