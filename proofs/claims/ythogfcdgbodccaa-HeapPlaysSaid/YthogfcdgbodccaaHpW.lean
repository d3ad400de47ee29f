/- The plain side of a heap: the cells behind a block put in and behind a cell stored. Conditions: none. -/
import Derived.Test.YthogfcdgbodccaaHpV
namespace Go.Proofs.Ythogfcdgbodccaa
/-- The rows tell the blocks' cells and shapes. -/
structure RowB (cells : List (Int × Int)) (shapes : List Int) (bs : List BK) : Prop where
  cel : ∀ b ∈ bs, ∀ j, j < b.cells.length → cells[b.at_ + 1 + j]? = b.cells[j]?
  sha : ∀ b ∈ bs, shapes[b.at_]? = some b.shape
/-- A block put in lies apart from all others. -/
theorem insB_mem {sh : Int} {n : Nat} : ∀ {lo : Nat} {bs : List BK} {room a : Nat} {bs' : List BK}, FitB lo bs room → insB sh n lo bs room = some (a, bs') → (∀ b ∈ bs', b ∈ bs ∧ (b.fin ≤ a ∨ a + n + 1 ≤ b.at_) ∨ b = ⟨a, sh, List.replicate n (0, 0)⟩) ∧ lo ≤ a ∧ a + n + 1 ≤ room
  | lo, [], room, a, bs', h, e => by
    simp only [insB] at e
    split at e
    · injection e with e
      injection e with e1 e2
      subst e1 e2
      exact ⟨fun b hb => .inr (by simpa using hb), Nat.le_refl _, by omega⟩
    · cases e
  | lo, c :: bs, room, a, bs', h, e => by
    have h1 := h.1
    have h3 : c.fin = c.at_ + 1 + c.cells.length := rfl
    have h5 := h.2.le
    simp only [insB] at e
    split at e
    · rename_i hn
      injection e with e
      injection e with e1 e2
      subst e1 e2
      refine ⟨fun b hb => ?_, Nat.le_refl _, by omega⟩
      rcases List.mem_cons.1 hb with e | hb
      · exact .inr e
      · refine .inl ⟨hb, .inr ?_⟩
        rcases List.mem_cons.1 hb with e | hb
        · rw [e]; omega
        · have := (h.2.ge b hb).1
          omega
    · cases hi : insB sh n c.fin bs room with
      | none => rw [hi] at e; cases e
      | some p =>
        rw [hi] at e
        injection e with e
        injection e with e1 e2
        subst e1 e2
        obtain ⟨q1, q2, q3⟩ := insB_mem h.2 (show insB sh n c.fin bs room = some (p.1, p.2) from hi)
        refine ⟨fun b hb => ?_, by omega, q3⟩
        rcases List.mem_cons.1 hb with e | hb
        · rw [e]; exact .inl ⟨List.mem_cons_self, .inl q2⟩
        · rcases q1 b hb with ⟨m, o⟩ | e
          · exact .inl ⟨List.mem_cons_of_mem _ m, o⟩
          · exact .inr e
theorem RowB.ins {cells cells' : List (Int × Int)} {shapes : List Int} {bs bs' : List BK} {sh : Int} {n room a : Nat} (h : RowB cells shapes bs) (hf : FitB 0 bs room) (hi : insB sh n 0 bs room = some (a, bs')) (hs : a < shapes.length) (hz : ∀ j, j < n → cells'[a + 1 + j]? = some (0, 0)) (hk : ∀ k, k < a ∨ a + n + 1 ≤ k → cells'[k]? = cells[k]?) : RowB cells' (shapes.set a sh) bs' := by
  obtain ⟨q1, _, _⟩ := insB_mem hf hi
  refine ⟨fun b hb j hj => ?_, fun b hb => ?_⟩
  · rcases q1 b hb with ⟨m, o⟩ | e
    · have h3 : b.fin = b.at_ + 1 + b.cells.length := rfl
      rw [hk _ (by omega), h.cel b m j hj]
    · subst e
      have hj' : j < n := by simpa using hj
      rw [hz j hj', List.getElem?_replicate, if_pos hj']
  · rcases q1 b hb with ⟨m, o⟩ | e
    · have h3 : b.fin = b.at_ + 1 + b.cells.length := rfl
      rw [List.getElem?_set_ne (by omega), h.sha b m]
    · subst e
      rw [List.getElem?_set_self hs]
/-- A cell stored in the block at a place. -/
def putB (a i : Nat) (c : Int × Int) (bs : List BK) : List BK := bs.map fun b => if b.at_ = a then { b with cells := b.cells.set i c } else b
theorem putB_one (a i : Nat) (c : Int × Int) (b : BK) : ∃ b', (if b.at_ = a then { b with cells := b.cells.set i c } else b) = b' ∧ b'.at_ = b.at_ ∧ b'.shape = b.shape ∧ b'.cells.length = b.cells.length := by
  by_cases e : b.at_ = a
  · exact ⟨_, if_pos e, rfl, rfl, by simp⟩
  · exact ⟨_, if_neg e, rfl, rfl, rfl⟩
theorem putB_fit {a i : Nat} {c : Int × Int} {lo : Nat} {bs : List BK} {room : Nat} (h : FitB lo bs room) : FitB lo (putB a i c bs) room ∧ szL lo (putB a i c bs) room = szL lo bs room := by
  induction bs generalizing lo with
  | nil => exact ⟨h, rfl⟩
  | cons b bs ih =>
    obtain ⟨i1, i2⟩ := ih h.2
    obtain ⟨b', e, e1, _, e3⟩ := putB_one a i c b
    have hc : putB a i c (b :: bs) = b' :: putB a i c bs := by
      unfold putB
      rw [List.map_cons, e]
    have hfin : b'.fin = b.fin := by simp only [BK.fin, e1, e3]
    rw [hc]
    refine ⟨⟨by rw [e1]; exact h.1, by rw [hfin]; exact i1⟩, ?_⟩
    simp only [szL, e1, e3, hfin, i2]
/-- Two blocks lie apart. -/
theorem fit_apart {lo : Nat} {bs : List BK} {room : Nat} (hf : FitB lo bs room) {x y : BK} (hx : x ∈ bs) (hy : y ∈ bs) (hne : x ≠ y) : x.fin ≤ y.at_ ∨ y.fin ≤ x.at_ := by
  induction bs generalizing lo with
  | nil => cases hx
  | cons c bs ih =>
    rcases List.mem_cons.1 hx with e | hx'
    · rcases List.mem_cons.1 hy with e' | hy'
      · exact absurd (e.trans e'.symm) hne
      · subst e
        exact .inl (hf.2.ge y hy').1
    · rcases List.mem_cons.1 hy with e' | hy'
      · subst e'
        exact .inr (hf.2.ge x hx').1
      · exact ih hf.2 hx' hy'
theorem RowB.put {cells : List (Int × Int)} {shapes : List Int} {lo : Nat} {bs : List BK} {room a i : Nat} {b : BK} {c : Int × Int} (h : RowB cells shapes bs) (hf : FitB lo bs room) (hb : blkAt bs a = some b) (hi : i < b.cells.length) (hl : room ≤ cells.length) : RowB (cells.set (a + 1 + i) c) shapes (putB a i c bs) := by
  obtain ⟨hm, he⟩ := blkAt_mem hb
  have hfb := (hf.ge b hm).2
  have h3 : b.fin = b.at_ + 1 + b.cells.length := rfl
  refine ⟨fun d hd j hj => ?_, fun d hd => ?_⟩
  · obtain ⟨e, hem, hed⟩ := List.mem_map.1 hd
    by_cases hea : e.at_ = a
    · have e2 : e = b := by
        have := blkAt_of hf hem
        rw [hea, hb] at this
        injection this with this
        exact this.symm
      subst e2
      rw [if_pos hea] at hed
      subst hed
      have hj' : j < e.cells.length := by simpa using hj
      show (cells.set (a + 1 + i) c)[e.at_ + 1 + j]? = (e.cells.set i c)[j]?
      by_cases hij : i = j
      · subst hij
        rw [he, List.getElem?_set_self (by omega), List.getElem?_set_self hi]
      · rw [List.getElem?_set_ne (by omega), List.getElem?_set_ne hij, h.cel e hem j hj']
    · rw [if_neg hea] at hed
      subst hed
      have hne : a + 1 + i ≠ e.at_ + 1 + j := by
        have h4 : e.fin = e.at_ + 1 + e.cells.length := rfl
        rcases fit_apart hf hm hem (fun hh => hea (hh ▸ he)) with o | o <;> omega
      rw [List.getElem?_set_ne hne, h.cel e hem j hj]
  · obtain ⟨e, hem, hed⟩ := List.mem_map.1 hd
    obtain ⟨b', e0, e1, e2, _⟩ := putB_one a i c e
    rw [← hed, e0, e1, e2]
    exact h.sha e hem
/-- Blocks let go: the others' cells and shapes stand. -/
theorem RowB.sub {cells : List (Int × Int)} {shapes shapes' : List Int} {bs bs' : List BK} (h : RowB cells shapes bs) (hm : ∀ b ∈ bs', b ∈ bs) (hs : ∀ b ∈ bs', shapes'[b.at_]? = shapes[b.at_]?) : RowB cells shapes' bs' :=
  ⟨fun b hb => h.cel b (hm b hb), fun b hb => by rw [hs b hb, h.sha b (hm b hb)]⟩
end Go.Proofs.Ythogfcdgbodccaa
