/- 'clear' over a part of a row of cells of the call's own. Conditions: the part lies within. -/
import Derived.Test.YthogfcdgbodccaaHpD
import Derived.Laws.CopyRow
set_option maxRecDepth 100000
namespace Go.Proofs.Ythogfcdgbodccaa
open Go.ChangeShapes Go.WideShapes Go.ChangeAt Go.RowKit
theorem zero_cell (w : World) : (zeroValue 36).run Try.prog w = .ok (.agg #[.int .i64 0, .int .i64 0]) w := by kernel_rfl
theorem zeroCells_two (n : Nat) : (Builtin.zeroCells #[Value.int .i64 0, .int .i64 0] n).toList = List.replicate (n * 2) (Value.int .i64 0) := by
  apply List.ext_getElem
  · simp [Builtin.zeroCells]
  · intro i h1 h2
    simp only [Builtin.zeroCells, Array.toList_map, List.getElem_map, List.getElem_replicate, Array.getElem_toList, Array.getElem_range]
    have : i % 2 = 0 ∨ i % 2 = 1 := by omega
    rcases this with h | h
    · simp [h]
    · simp [h]
theorem clear_row {w : World} {base g n c : Nat} {xs : List Value} (h : w.ownsRow base 36 2 (.slice (some ⟨g, 0, none⟩) n c) n xs) (a m cc : Nat) (hm : 0 < m) (ham : a + m ≤ n) :
    ∃ w', (∀ ty, (Builtin.clear_ #[37] ty #[.slice (some ⟨g, a * 2, none⟩) m cc]).run Try.prog w = .ok (.tuple #[]) w') ∧ w'.ownsRow base 36 2 (.slice (some ⟨g, 0, none⟩) n c) n (xs.take (a * 2) ++ List.replicate (m * 2) (Value.int .i64 0) ++ xs.drop (a * 2 + m * 2)) ∧ w.grownBy w' (some g) := by
  obtain ⟨hl, h⟩ := h
  rcases h with ⟨h, _⟩ | ⟨g', cap, cur, h1, h2, h3, h4, h5, h6, h7⟩
  · cases h
  · injection h1 with h1 _ h1'
    injection h1 with h1
    injection h1 with h1
    subst h1 h1'
    have hst := run_storeCells_at (P := Try.prog) g (a * 2) 36 (List.replicate (m * 2) (Value.int .i64 0)) 0 cur w h3 (by rw [h6, List.length_replicate]; omega) (by intro v hv; rw [List.eq_of_mem_replicate hv]; rfl)
    simp only [Nat.add_zero, List.length_replicate] at hst
    obtain ⟨k, rfl⟩ : ∃ k, m = k + 1 := ⟨m - 1, by omega⟩
    have hz := zeroCells_two (k + 1)
    refine ⟨w.setRow g (cur.toList.take (a * 2) ++ List.replicate ((k + 1) * 2) (Value.int .i64 0) ++ cur.toList.drop (a * 2 + (k + 1) * 2)).toArray, fun ty => ?_, ⟨?_, .inr ⟨g, c, _, rfl, h2, setRow_heap w g _ _ _ _ h3, h4, h5, ?_, ?_⟩⟩, ⟨rfl, rfl, rfl, by simp, fun q hq hne => setRow_other w g q _ (fun e => hne (by rw [e]))⟩⟩
    · have hzv : Value.cells (.agg #[.int .i64 0, .int .i64 0]) = #[Value.int .i64 0, .int .i64 0] := rfl
      simp [Builtin.clear_, run_underlying Try.underlying37, hzv, hz, hst]
    · have hl' := hl
      simp only [List.length_append, List.length_take, List.length_replicate, List.length_drop]
      omega
    · simp only [List.size_toArray, List.length_append, List.length_take, List.length_replicate, List.length_drop, Array.length_toList, h6]
      omega
    · have hcl : cur.toList.length = c * 2 := by rw [Array.length_toList, h6]
      rw [← h7]
      generalize cur.toList = cl at *
      have hl1 : (cl.take (a * 2) ++ List.replicate ((k + 1) * 2) (Value.int .i64 0)).length = a * 2 + (k + 1) * 2 := by rw [List.length_append, List.length_take, List.length_replicate, hcl]; omega
      rw [List.take_append, List.take_of_length_le (by rw [hl1]; omega), hl1, List.take_take, Nat.min_eq_left (by omega), List.drop_take]
/-- The cells behind it. -/
theorem ceL_clear (l : List (Int × Int)) (a m : Nat) : (ceL l).take (a * 2) ++ List.replicate (m * 2) (Value.int .i64 0) ++ (ceL l).drop (a * 2 + m * 2) = ceL (l.take a ++ List.replicate m (0, 0) ++ l.drop (a + m)) := by
  have e2 : ∀ c ∈ (l.map fun c => [Value.int .i64 c.1, .int .i64 c.2]), c.length = 2 := fun c hc => by obtain ⟨p, _, rfl⟩ := List.mem_map.1 hc; rfl
  have e3 : List.replicate (m * 2) (Value.int .i64 0) = ceL (List.replicate m (0, 0)) := by
    induction m with
    | zero => rfl
    | succ m ih =>
      have : ceL (List.replicate (m + 1) (0, 0)) = [.int .i64 0, .int .i64 0] ++ ceL (List.replicate m (0, 0)) := by simp [ceL, List.replicate_succ]
      rw [this, ← ih, show (m + 1) * 2 = m * 2 + 1 + 1 by omega, List.replicate_succ, List.replicate_succ]
      rfl
  have e4 : ∀ k, (ceL l).drop (k * 2) = ceL (l.drop k) := by
    intro k
    have h1 : ceL l = ceL (l.take k) ++ ceL (l.drop k) := by
      unfold ceL
      rw [← List.flatten_append, ← List.map_append, List.take_append_drop]
    rw [h1]
    rcases Nat.le_total k l.length with hk | hk
    · rw [List.drop_left' (by rw [ceL_len, List.length_take, Nat.min_eq_left hk])]
    · have : l.drop k = [] := List.drop_of_length_le hk
      rw [this, show ceL [] = [] from rfl, List.append_nil, List.drop_of_length_le (by rw [ceL_len, List.length_take]; have := Nat.min_le_left k l.length; omega)]
  have e5 : (ceL l).take (a * 2) = ceL (l.take a) := by
    unfold ceL
    rw [← flat_take e2, List.map_take]
  rw [e5, e3, show a * 2 + m * 2 = (a + m) * 2 by omega, e4]
  simp [ceL]
end Go.Proofs.Ythogfcdgbodccaa
