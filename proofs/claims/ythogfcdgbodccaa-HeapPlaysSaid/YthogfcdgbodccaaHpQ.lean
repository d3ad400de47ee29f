/- The plain side of a heap: a block is put in. Conditions: none. -/
import Derived.Test.YthogfcdgbodccaaHpP
namespace Go.Proofs.Ythogfcdgbodccaa
/-- A block of n cells in the first free place, and where. -/
def insB (sh : Int) (n : Nat) : Nat → List BK → Nat → Option (Nat × List BK)
  | lo, [], room => if n + 1 ≤ room - lo then some (lo, [⟨lo, sh, List.replicate n (0, 0)⟩]) else none
  | lo, b :: bs, room => if n + 1 ≤ b.at_ - lo then some (lo, ⟨lo, sh, List.replicate n (0, 0)⟩ :: b :: bs) else (insB sh n b.fin bs room).map fun p => (p.1, b :: p.2)
theorem insB_fnd (sh : Int) (n : Nat) : ∀ (lo : Nat) (bs : List BK) (room : Nat), (insB sh n lo bs room).map (·.1) = fndB lo bs room (n + 1)
  | lo, [], room => by
    simp only [insB, fndB]
    split <;> rfl
  | lo, b :: bs, room => by
    simp only [insB, fndB]
    split
    · rfl
    · rw [← insB_fnd sh n b.fin bs room, Option.map_map]
      rfl
theorem insB_fit {sh : Int} {n : Nat} : ∀ {lo : Nat} {bs : List BK} {room a : Nat} {bs' : List BK}, FitB lo bs room → insB sh n lo bs room = some (a, bs') → FitB lo bs' room ∧ lo ≤ a ∧ a + n + 1 ≤ room
  | lo, [], room, a, bs', h, e => by
    simp only [insB] at e
    split at e
    · injection e with e
      injection e with e1 e2
      subst e1 e2
      refine ⟨⟨Nat.le_refl _, ?_⟩, Nat.le_refl _, by omega⟩
      show lo + 1 + (List.replicate n ((0 : Int), (0 : Int))).length ≤ room
      rw [List.length_replicate]
      omega
    · cases e
  | lo, b :: bs, room, a, bs', h, e => by
    simp only [insB] at e
    split at e
    · injection e with e
      injection e with e1 e2
      subst e1 e2
      have h1 := h.2.le
      have h2 := h.1
      have h3 : b.fin = b.at_ + 1 + b.cells.length := rfl
      refine ⟨⟨Nat.le_refl _, ?_, h.2⟩, Nat.le_refl _, by omega⟩
      show lo + 1 + (List.replicate n ((0 : Int), (0 : Int))).length ≤ b.at_
      rw [List.length_replicate]
      omega
    · cases hi : insB sh n b.fin bs room with
      | none => rw [hi] at e; cases e
      | some p =>
        rw [hi] at e
        injection e with e
        injection e with e1 e2
        subst e1 e2
        obtain ⟨q1, q2, q3⟩ := insB_fit h.2 (show insB sh n b.fin bs room = some (p.1, p.2) from hi)
        have h2 := h.1
        have h3 : b.fin = b.at_ + 1 + b.cells.length := rfl
        exact ⟨⟨h.1, q1⟩, by omega, q3⟩
/-- The row of sizes behind it. -/
theorem insB_sz {sh : Int} {n : Nat} : ∀ {lo : Nat} {bs : List BK} {room a : Nat} {bs' : List BK}, FitB lo bs room → insB sh n lo bs room = some (a, bs') → szL lo bs' room = (szL lo bs room).set (a - lo) ((n + 1 : Nat) : Int)
  | lo, [], room, a, bs', h, e => by
    simp only [insB] at e
    split at e
    · injection e with e
      injection e with e1 e2
      subst e1 e2
      rename_i hn
      have e3 : room - lo = (n + (room - (lo + 1 + n))) + 1 := by omega
      simp only [szL, BK.fin, List.length_replicate, Nat.sub_self, List.replicate_zero, List.nil_append]
      rw [e3, List.replicate_succ, List.set_cons_zero, ← List.replicate_append_replicate]
    · cases e
  | lo, b :: bs, room, a, bs', h, e => by
    simp only [insB] at e
    split at e
    · injection e with e
      injection e with e1 e2
      subst e1 e2
      rename_i hn
      have e3 : b.at_ - lo = (n + (b.at_ - (lo + 1 + n))) + 1 := by omega
      simp only [szL, BK.fin, List.length_replicate, Nat.sub_self, List.replicate_zero, List.nil_append]
      rw [e3, List.replicate_succ, List.cons_append, List.set_cons_zero, ← List.replicate_append_replicate, List.append_assoc]
    · cases hi : insB sh n b.fin bs room with
      | none => rw [hi] at e; cases e
      | some p =>
        rw [hi] at e
        injection e with e
        injection e with e1 e2
        subst e1 e2
        have hi' : insB sh n b.fin bs room = some (p.1, p.2) := hi
        have hq := insB_sz h.2 hi'
        obtain ⟨_, q2, q3⟩ := insB_fit h.2 hi'
        have h2 := h.1
        have h3 : b.fin = b.at_ + 1 + b.cells.length := rfl
        simp only [szL]
        rw [hq, List.set_append_right _ _ (by simp; omega), List.length_replicate]
        have e4 : p.1 - lo - (b.at_ - lo) = (b.cells.length + (p.1 - b.fin)) + 1 := by omega
        rw [e4, List.set_cons_succ, List.set_append_right _ _ (by simp), List.length_replicate, Nat.add_sub_cancel_left]
end Go.Proofs.Ythogfcdgbodccaa
