/- The plain side of a heap: the search for a free place, step by step. Conditions: none. -/
import Derived.Test.YthogfcdgbodccaaHpR
namespace Go.Proofs.Ythogfcdgbodccaa
/-- Where the search stands: behind the block that ended at 'from', at a place 'a' of the gap. -/
structure FI (n : Nat) (bs : List BK) (room fr a : Nat) (post : List BK) : Prop where
  fit : FitB fr post room
  le : fr ≤ a
  lt : a - fr < n
  top : a ≤ room
  gap : ∀ b ∈ post.head?, a ≤ b.at_
  row : ∀ k, (szL 0 bs room)[fr + k]? = (szL fr post room)[k]?
  ans : fndB 0 bs room n = fndB fr post room n
theorem FI.start {n : Nat} {bs : List BK} {room : Nat} (hn : 0 < n) (h : FitB 0 bs room) : FI n bs room 0 0 bs :=
  ⟨h, Nat.le_refl _, by omega, Nat.zero_le _, fun _ _ => Nat.zero_le _, fun k => by rw [Nat.zero_add], rfl⟩
/-- At a free place: one on, or found. -/
theorem FI.free {n : Nat} {bs : List BK} {room fr a : Nat} {post : List BK} (h : FI n bs room fr a post) (ha : a < room) (hv : (szL 0 bs room)[a]? = some 0) : (a + 1 - fr ≠ n → FI n bs room fr (a + 1) post) ∧ (a + 1 - fr = n → fndB 0 bs room n = some fr) := by
  have h1 := h.le
  have h2 := h.lt
  have hr := h.row (a - fr)
  rw [show fr + (a - fr) = a by omega, hv] at hr
  have hg : ∀ b ∈ post.head?, a + 1 ≤ b.at_ := by
    intro b hb
    have hab := h.gap b hb
    cases hp : post with
    | nil => rw [hp] at hb; cases hb
    | cons c cs =>
      rw [hp] at hb hr
      have hb : c = b := by simpa using hb
      subst hb
      rcases Nat.lt_or_ge a c.at_ with hlt | hge
      · exact hlt
      · have e : a = c.at_ := by omega
        rw [e, szL_head] at hr
        simp at hr
        omega
  refine ⟨fun hne => ⟨h.fit, by omega, by omega, ha, hg, h.row, h.ans⟩, fun he => ?_⟩
  rw [h.ans]
  cases hp : post with
  | nil =>
    simp only [fndB]
    rw [if_pos (by omega)]
  | cons c cs =>
    have := hg c (by simp [hp])
    simp only [fndB]
    rw [if_pos (by omega)]
/-- At a block: behind it. -/
theorem FI.blk {n : Nat} {bs : List BK} {room fr a : Nat} {post : List BK} (h : FI n bs room fr a post) (hn : 0 < n) {v : Int} (hv : (szL 0 bs room)[a]? = some v) (hp0 : 0 < v) : ∃ b cs, post = b :: cs ∧ b.at_ = a ∧ v = ((b.cells.length + 1 : Nat) : Int) ∧ FI n bs room b.fin b.fin cs := by
  have h1 := h.le
  have h2 := h.lt
  have hr := h.row (a - fr)
  rw [show fr + (a - fr) = a by omega, hv] at hr
  cases hp : post with
  | nil =>
    rw [hp] at hr
    simp only [szL, List.getElem?_replicate] at hr
    split at hr
    · injection hr with hr; omega
    · cases hr
  | cons c cs =>
    have hgc := h.gap c (by simp [hp])
    rw [hp] at hr
    have hf := h.fit
    rw [hp] at hf
    have h3 : c.fin = c.at_ + 1 + c.cells.length := rfl
    rcases Nat.lt_or_ge a c.at_ with hlt | hge
    · simp only [szL] at hr
      rw [List.getElem?_append_left (by simp; omega), List.getElem?_replicate, if_pos (by omega)] at hr
      injection hr with hr
      omega
    · have e : a = c.at_ := by omega
      rw [e, szL_head] at hr
      injection hr with hr
      refine ⟨c, cs, rfl, e.symm, hr, hf.2, Nat.le_refl _, by omega, hf.2.le, ?_, ?_, ?_⟩
      · intro b hb
        exact (hf.2.ge b (List.mem_of_mem_head? hb)).1
      · intro k
        have := h.row (c.fin - fr + k)
        rw [hp, szL_drop hf] at this
        rw [← this]
        congr 1
        have := hf.1
        omega
      · rw [h.ans, hp]
        simp only [fndB]
        rw [if_neg (by omega)]
/-- At the end: none. -/
theorem FI.stop {n : Nat} {bs : List BK} {room fr a : Nat} {post : List BK} (h : FI n bs room fr a post) (ha : room ≤ a) : fndB 0 bs room n = none := by
  have h2 := h.lt
  rw [h.ans]
  cases hp : post with
  | nil =>
    simp only [fndB]
    have := h.top
    rw [if_neg (by omega)]
  | cons c cs =>
    have hgc := h.gap c (by simp [hp])
    have hf := h.fit
    rw [hp] at hf
    have := (hf.ge c List.mem_cons_self).2
    have h3 : c.fin = c.at_ + 1 + c.cells.length := rfl
    omega
end Go.Proofs.Ythogfcdgbodccaa
