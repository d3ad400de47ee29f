/- 'word.Holds' and the document's Holds answer alike; so the law over them is true. Conditions: none. -/
import Derived.Test.YtniepfpjklccmaaMapI
namespace Go.Proofs.Ytniepfpjklccmaa
open Go.ChangeShapes Go.WideShapes Go.ChangeAt Go.RowKit

def holdsB (op c : Int) : Bool := if op == 11 then c == 0 else if op == 12 then c != 0 else if op == 13 then decide (c < 0) else if op == 14 then decide (c ≤ 0) else if op == 15 then decide (0 < c) else decide (0 ≤ c)
theorem wordHolds_range (op c : Int) (h : c < -1 ∨ 1 < c) (w : World) : Calls Try.prog 16 #[.int .i64 op, .int .i64 c] w fun e w' => e = .returned (.tuple #[.bool false, .int .i64 14]) ∧ w' = w := by
  by_cases h1 : c < -1
  · clear h
    go_enter Try.func16, Try.ntmps16
    go_wp2
    go_ret2
    exact ⟨rfl, rfl⟩
  · have h2 : 1 < c := by omega
    clear h
    go_enter Try.func16, Try.ntmps16
    go_wp2
    go_ret2
    exact ⟨rfl, rfl⟩
theorem wordHolds_yes (op c : Int) (h1 : -1 ≤ c) (h2 : c ≤ 1) (h3 : 11 ≤ op) (h4 : op ≤ 16) (w : World) : Calls Try.prog 16 #[.int .i64 op, .int .i64 c] w fun e w' => e = .returned (.tuple #[.bool (holdsB op c), .int .i64 0]) ∧ w' = w := by
  have ho : op = 11 ∨ op = 12 ∨ op = 13 ∨ op = 14 ∨ op = 15 ∨ op = 16 := by omega
  rcases ho with rfl | rfl | rfl | rfl | rfl | rfl
  all_goals
    go_enter Try.func16, Try.ntmps16
    go_wp2
    go_ret2
    exact ⟨by simp [holdsB], rfl⟩
theorem wordHolds_no (op c : Int) (h1 : -1 ≤ c) (h2 : c ≤ 1) (h3 : op < 11 ∨ 16 < op) (w : World) : Calls Try.prog 16 #[.int .i64 op, .int .i64 c] w fun e w' => e = .returned (.tuple #[.bool false, .int .i64 13]) ∧ w' = w := by
  have e1 : (op == 11) = false := by simp; omega
  have e2 : (op == 12) = false := by simp; omega
  have e3 : (op == 13) = false := by simp; omega
  have e4 : (op == 14) = false := by simp; omega
  have e5 : (op == 15) = false := by simp; omega
  have e6 : (op == 16) = false := by simp; omega
  clear h3
  go_enter Try.func16, Try.ntmps16
  go_wp2
  go_ret2
  exact ⟨rfl, rfl⟩
theorem refHolds_range (op c : Int) (h : c < -1 ∨ 1 < c) (w : World) : Calls Try.prog 17 #[.int .i64 op, .int .i64 c] w fun e w' => e = .returned (.tuple #[.bool false, .int .i64 14]) ∧ w' = w := by
  by_cases h1 : c < -1
  · clear h
    go_enter Try.func17, Try.ntmps17
    go_wp2
    all_goals
      go_ret2
      exact ⟨rfl, rfl⟩
  · have h2 : 1 < c := by omega
    clear h
    go_enter Try.func17, Try.ntmps17
    go_wp2
    all_goals
      go_ret2
      exact ⟨rfl, rfl⟩


set_option maxHeartbeats 2000000 in
theorem refHolds_11 (c : Int) (h1 : -1 ≤ c) (h2 : c ≤ 1) (w : World) : Calls Try.prog 17 #[.int .i64 11, .int .i64 c] w fun e w' => e = .returned (.tuple #[.bool (holdsB 11 c), .int .i64 0]) ∧ Below w.heap.size w w' := by
  have hmm := @run_makeMap Try.prog
  have hM0 := MapIs.made w
  have hS0 : Below w.heap.size w (w.alloc (.map #[] 0)) := al _
  have tokn : True := trivial
  have hc : c = -1 ∨ c = 0 ∨ c = 1 := by omega
  rcases hc with rfl | rfl | rfl
  all_goals
    go_enter Try.func17, Try.ntmps17
    go_wp2_with (first
      | (have _t := tokn; refine wpList_insert_i rfl _ _ _ 51 rfl 3 50 .i64 Try.underlying51 Try.underlying3 w.heap.size _ rfl (MapIs.alloc (by with_reducible assumption) _) _ _ rfl rfl ?_; intro wn hMn hgn; have hB := bstep (w := w) (by with_reducible assumption) hgn (Nat.le_refl _); have hS := (SlAt.new _ w.heap.size _ _ (MapIs.lt (by with_reducible assumption))).grown hgn; (try simp only [World.size_alloc] at hS); clear tokn)
      | (refine wpList_insert_i rfl _ _ _ 51 rfl 3 50 .i64 Try.underlying51 Try.underlying3 w.heap.size _ rfl (MapIs.alloc (by with_reducible assumption) _) _ _ rfl rfl ?_; intro wn hMn hgn; have hB := bstep (w := w) (by with_reducible assumption) hgn (Nat.le_refl _); have hS' := SlAt.grown (SlAt.alloc (by with_reducible assumption) _) hgn)
      | (refine wpList_lookup_sl rfl _ _ 51 rfl 3 50 .i64 Try.underlying51 Try.underlying3 w.heap.size _ rfl (by with_reducible assumption) 11 _ _ _ (by with_reducible assumption) rfl (by rfl) ?_; intro hs; have d0 := hs.cell 0; simp at d0; clear hs))
    go_rounds 3
    all_goals
      go_ret2
      refine ⟨by simp [holdsB], ?_⟩
      with_reducible assumption
set_option maxHeartbeats 2000000 in
theorem refHolds_12 (c : Int) (h1 : -1 ≤ c) (h2 : c ≤ 1) (w : World) : Calls Try.prog 17 #[.int .i64 12, .int .i64 c] w fun e w' => e = .returned (.tuple #[.bool (holdsB 12 c), .int .i64 0]) ∧ Below w.heap.size w w' := by
  have hmm := @run_makeMap Try.prog
  have hM0 := MapIs.made w
  have hS0 : Below w.heap.size w (w.alloc (.map #[] 0)) := al _
  have tok0 : True := trivial
  have tokn : True := trivial
  have hc : c = -1 ∨ c = 0 ∨ c = 1 := by omega
  rcases hc with rfl | rfl | rfl
  all_goals
    go_enter Try.func17, Try.ntmps17
    go_wp2_with (first
      | (have _t := tok0; refine wpList_insert_i rfl _ _ _ 51 rfl 3 50 .i64 Try.underlying51 Try.underlying3 w.heap.size _ rfl (MapIs.alloc (by with_reducible assumption) _) _ _ rfl rfl ?_; intro wn hMn hgn; have hB := bstep (w := w) (by with_reducible assumption) hgn (Nat.le_refl _); clear tok0)
      | (have _t := tokn; refine wpList_insert_i rfl _ _ _ 51 rfl 3 50 .i64 Try.underlying51 Try.underlying3 w.heap.size _ rfl (MapIs.alloc (by with_reducible assumption) _) _ _ rfl rfl ?_; intro wn hMn hgn; have hB := bstep (w := w) (by with_reducible assumption) hgn (Nat.le_refl _); have hS := (SlAt.new _ w.heap.size _ _ (MapIs.lt (by with_reducible assumption))).grown hgn; (try simp only [World.size_alloc] at hS); clear tokn)
      | (refine wpList_insert_i rfl _ _ _ 51 rfl 3 50 .i64 Try.underlying51 Try.underlying3 w.heap.size _ rfl (MapIs.alloc (by with_reducible assumption) _) _ _ rfl rfl ?_; intro wn hMn hgn; have hB := bstep (w := w) (by with_reducible assumption) hgn (Nat.le_refl _); have hS' := SlAt.grown (SlAt.alloc (by with_reducible assumption) _) hgn)
      | (refine wpList_lookup_sl rfl _ _ 51 rfl 3 50 .i64 Try.underlying51 Try.underlying3 w.heap.size _ rfl (by with_reducible assumption) 12 _ _ _ (by with_reducible assumption) rfl (by rfl) ?_; intro hs; have d0 := hs.cell 0; have d1 := hs.cell 1; simp at d0 d1; clear hs))
    go_rounds 3
    all_goals
      go_ret2
      refine ⟨by simp [holdsB], ?_⟩
      with_reducible assumption
set_option maxHeartbeats 2000000 in
theorem refHolds_13 (c : Int) (h1 : -1 ≤ c) (h2 : c ≤ 1) (w : World) : Calls Try.prog 17 #[.int .i64 13, .int .i64 c] w fun e w' => e = .returned (.tuple #[.bool (holdsB 13 c), .int .i64 0]) ∧ Below w.heap.size w w' := by
  have hmm := @run_makeMap Try.prog
  have hM0 := MapIs.made w
  have hS0 : Below w.heap.size w (w.alloc (.map #[] 0)) := al _
  have tok0 : True := trivial
  have tok1 : True := trivial
  have tokn : True := trivial
  have hc : c = -1 ∨ c = 0 ∨ c = 1 := by omega
  rcases hc with rfl | rfl | rfl
  all_goals
    go_enter Try.func17, Try.ntmps17
    go_wp2_with (first
      | (have _t := tok0; refine wpList_insert_i rfl _ _ _ 51 rfl 3 50 .i64 Try.underlying51 Try.underlying3 w.heap.size _ rfl (MapIs.alloc (by with_reducible assumption) _) _ _ rfl rfl ?_; intro wn hMn hgn; have hB := bstep (w := w) (by with_reducible assumption) hgn (Nat.le_refl _); clear tok0)
      | (have _t := tok1; refine wpList_insert_i rfl _ _ _ 51 rfl 3 50 .i64 Try.underlying51 Try.underlying3 w.heap.size _ rfl (MapIs.alloc (by with_reducible assumption) _) _ _ rfl rfl ?_; intro wn hMn hgn; have hB := bstep (w := w) (by with_reducible assumption) hgn (Nat.le_refl _); clear tok1)
      | (have _t := tokn; refine wpList_insert_i rfl _ _ _ 51 rfl 3 50 .i64 Try.underlying51 Try.underlying3 w.heap.size _ rfl (MapIs.alloc (by with_reducible assumption) _) _ _ rfl rfl ?_; intro wn hMn hgn; have hB := bstep (w := w) (by with_reducible assumption) hgn (Nat.le_refl _); have hS := (SlAt.new _ w.heap.size _ _ (MapIs.lt (by with_reducible assumption))).grown hgn; (try simp only [World.size_alloc] at hS); clear tokn)
      | (refine wpList_insert_i rfl _ _ _ 51 rfl 3 50 .i64 Try.underlying51 Try.underlying3 w.heap.size _ rfl (MapIs.alloc (by with_reducible assumption) _) _ _ rfl rfl ?_; intro wn hMn hgn; have hB := bstep (w := w) (by with_reducible assumption) hgn (Nat.le_refl _); have hS' := SlAt.grown (SlAt.alloc (by with_reducible assumption) _) hgn)
      | (refine wpList_lookup_sl rfl _ _ 51 rfl 3 50 .i64 Try.underlying51 Try.underlying3 w.heap.size _ rfl (by with_reducible assumption) 13 _ _ _ (by with_reducible assumption) rfl (by rfl) ?_; intro hs; have d0 := hs.cell 0; simp at d0; clear hs))
    go_rounds 3
    all_goals
      go_ret2
      refine ⟨by simp [holdsB], ?_⟩
      with_reducible assumption
set_option maxHeartbeats 2000000 in
theorem refHolds_14 (c : Int) (h1 : -1 ≤ c) (h2 : c ≤ 1) (w : World) : Calls Try.prog 17 #[.int .i64 14, .int .i64 c] w fun e w' => e = .returned (.tuple #[.bool (holdsB 14 c), .int .i64 0]) ∧ Below w.heap.size w w' := by
  have hmm := @run_makeMap Try.prog
  have hM0 := MapIs.made w
  have hS0 : Below w.heap.size w (w.alloc (.map #[] 0)) := al _
  have tok0 : True := trivial
  have tok1 : True := trivial
  have tok2 : True := trivial
  have tokn : True := trivial
  have hc : c = -1 ∨ c = 0 ∨ c = 1 := by omega
  rcases hc with rfl | rfl | rfl
  all_goals
    go_enter Try.func17, Try.ntmps17
    go_wp2_with (first
      | (have _t := tok0; refine wpList_insert_i rfl _ _ _ 51 rfl 3 50 .i64 Try.underlying51 Try.underlying3 w.heap.size _ rfl (MapIs.alloc (by with_reducible assumption) _) _ _ rfl rfl ?_; intro wn hMn hgn; have hB := bstep (w := w) (by with_reducible assumption) hgn (Nat.le_refl _); clear tok0)
      | (have _t := tok1; refine wpList_insert_i rfl _ _ _ 51 rfl 3 50 .i64 Try.underlying51 Try.underlying3 w.heap.size _ rfl (MapIs.alloc (by with_reducible assumption) _) _ _ rfl rfl ?_; intro wn hMn hgn; have hB := bstep (w := w) (by with_reducible assumption) hgn (Nat.le_refl _); clear tok1)
      | (have _t := tok2; refine wpList_insert_i rfl _ _ _ 51 rfl 3 50 .i64 Try.underlying51 Try.underlying3 w.heap.size _ rfl (MapIs.alloc (by with_reducible assumption) _) _ _ rfl rfl ?_; intro wn hMn hgn; have hB := bstep (w := w) (by with_reducible assumption) hgn (Nat.le_refl _); clear tok2)
      | (have _t := tokn; refine wpList_insert_i rfl _ _ _ 51 rfl 3 50 .i64 Try.underlying51 Try.underlying3 w.heap.size _ rfl (MapIs.alloc (by with_reducible assumption) _) _ _ rfl rfl ?_; intro wn hMn hgn; have hB := bstep (w := w) (by with_reducible assumption) hgn (Nat.le_refl _); have hS := (SlAt.new _ w.heap.size _ _ (MapIs.lt (by with_reducible assumption))).grown hgn; (try simp only [World.size_alloc] at hS); clear tokn)
      | (refine wpList_insert_i rfl _ _ _ 51 rfl 3 50 .i64 Try.underlying51 Try.underlying3 w.heap.size _ rfl (MapIs.alloc (by with_reducible assumption) _) _ _ rfl rfl ?_; intro wn hMn hgn; have hB := bstep (w := w) (by with_reducible assumption) hgn (Nat.le_refl _); have hS' := SlAt.grown (SlAt.alloc (by with_reducible assumption) _) hgn)
      | (refine wpList_lookup_sl rfl _ _ 51 rfl 3 50 .i64 Try.underlying51 Try.underlying3 w.heap.size _ rfl (by with_reducible assumption) 14 _ _ _ (by with_reducible assumption) rfl (by rfl) ?_; intro hs; have d0 := hs.cell 0; have d1 := hs.cell 1; simp at d0 d1; clear hs))
    go_rounds 3
    all_goals
      go_ret2
      refine ⟨by simp [holdsB], ?_⟩
      with_reducible assumption
set_option maxHeartbeats 2000000 in
theorem refHolds_15 (c : Int) (h1 : -1 ≤ c) (h2 : c ≤ 1) (w : World) : Calls Try.prog 17 #[.int .i64 15, .int .i64 c] w fun e w' => e = .returned (.tuple #[.bool (holdsB 15 c), .int .i64 0]) ∧ Below w.heap.size w w' := by
  have hmm := @run_makeMap Try.prog
  have hM0 := MapIs.made w
  have hS0 : Below w.heap.size w (w.alloc (.map #[] 0)) := al _
  have tok0 : True := trivial
  have tok1 : True := trivial
  have tok2 : True := trivial
  have tok3 : True := trivial
  have tokn : True := trivial
  have hc : c = -1 ∨ c = 0 ∨ c = 1 := by omega
  rcases hc with rfl | rfl | rfl
  all_goals
    go_enter Try.func17, Try.ntmps17
    go_wp2_with (first
      | (have _t := tok0; refine wpList_insert_i rfl _ _ _ 51 rfl 3 50 .i64 Try.underlying51 Try.underlying3 w.heap.size _ rfl (MapIs.alloc (by with_reducible assumption) _) _ _ rfl rfl ?_; intro wn hMn hgn; have hB := bstep (w := w) (by with_reducible assumption) hgn (Nat.le_refl _); clear tok0)
      | (have _t := tok1; refine wpList_insert_i rfl _ _ _ 51 rfl 3 50 .i64 Try.underlying51 Try.underlying3 w.heap.size _ rfl (MapIs.alloc (by with_reducible assumption) _) _ _ rfl rfl ?_; intro wn hMn hgn; have hB := bstep (w := w) (by with_reducible assumption) hgn (Nat.le_refl _); clear tok1)
      | (have _t := tok2; refine wpList_insert_i rfl _ _ _ 51 rfl 3 50 .i64 Try.underlying51 Try.underlying3 w.heap.size _ rfl (MapIs.alloc (by with_reducible assumption) _) _ _ rfl rfl ?_; intro wn hMn hgn; have hB := bstep (w := w) (by with_reducible assumption) hgn (Nat.le_refl _); clear tok2)
      | (have _t := tok3; refine wpList_insert_i rfl _ _ _ 51 rfl 3 50 .i64 Try.underlying51 Try.underlying3 w.heap.size _ rfl (MapIs.alloc (by with_reducible assumption) _) _ _ rfl rfl ?_; intro wn hMn hgn; have hB := bstep (w := w) (by with_reducible assumption) hgn (Nat.le_refl _); clear tok3)
      | (have _t := tokn; refine wpList_insert_i rfl _ _ _ 51 rfl 3 50 .i64 Try.underlying51 Try.underlying3 w.heap.size _ rfl (MapIs.alloc (by with_reducible assumption) _) _ _ rfl rfl ?_; intro wn hMn hgn; have hB := bstep (w := w) (by with_reducible assumption) hgn (Nat.le_refl _); have hS := (SlAt.new _ w.heap.size _ _ (MapIs.lt (by with_reducible assumption))).grown hgn; (try simp only [World.size_alloc] at hS); clear tokn)
      | (refine wpList_insert_i rfl _ _ _ 51 rfl 3 50 .i64 Try.underlying51 Try.underlying3 w.heap.size _ rfl (MapIs.alloc (by with_reducible assumption) _) _ _ rfl rfl ?_; intro wn hMn hgn; have hB := bstep (w := w) (by with_reducible assumption) hgn (Nat.le_refl _); have hS' := SlAt.grown (SlAt.alloc (by with_reducible assumption) _) hgn)
      | (refine wpList_lookup_sl rfl _ _ 51 rfl 3 50 .i64 Try.underlying51 Try.underlying3 w.heap.size _ rfl (by with_reducible assumption) 15 _ _ _ (by with_reducible assumption) rfl (by rfl) ?_; intro hs; have d0 := hs.cell 0; simp at d0; clear hs))
    go_rounds 3
    all_goals
      go_ret2
      refine ⟨by simp [holdsB], ?_⟩
      with_reducible assumption
set_option maxHeartbeats 2000000 in
theorem refHolds_16 (c : Int) (h1 : -1 ≤ c) (h2 : c ≤ 1) (w : World) : Calls Try.prog 17 #[.int .i64 16, .int .i64 c] w fun e w' => e = .returned (.tuple #[.bool (holdsB 16 c), .int .i64 0]) ∧ Below w.heap.size w w' := by
  have hmm := @run_makeMap Try.prog
  have hM0 := MapIs.made w
  have hS0 : Below w.heap.size w (w.alloc (.map #[] 0)) := al _
  have tok0 : True := trivial
  have tok1 : True := trivial
  have tok2 : True := trivial
  have tok3 : True := trivial
  have tok4 : True := trivial
  have tokn : True := trivial
  have hc : c = -1 ∨ c = 0 ∨ c = 1 := by omega
  rcases hc with rfl | rfl | rfl
  all_goals
    go_enter Try.func17, Try.ntmps17
    go_wp2_with (first
      | (have _t := tok0; refine wpList_insert_i rfl _ _ _ 51 rfl 3 50 .i64 Try.underlying51 Try.underlying3 w.heap.size _ rfl (MapIs.alloc (by with_reducible assumption) _) _ _ rfl rfl ?_; intro wn hMn hgn; have hB := bstep (w := w) (by with_reducible assumption) hgn (Nat.le_refl _); clear tok0)
      | (have _t := tok1; refine wpList_insert_i rfl _ _ _ 51 rfl 3 50 .i64 Try.underlying51 Try.underlying3 w.heap.size _ rfl (MapIs.alloc (by with_reducible assumption) _) _ _ rfl rfl ?_; intro wn hMn hgn; have hB := bstep (w := w) (by with_reducible assumption) hgn (Nat.le_refl _); clear tok1)
      | (have _t := tok2; refine wpList_insert_i rfl _ _ _ 51 rfl 3 50 .i64 Try.underlying51 Try.underlying3 w.heap.size _ rfl (MapIs.alloc (by with_reducible assumption) _) _ _ rfl rfl ?_; intro wn hMn hgn; have hB := bstep (w := w) (by with_reducible assumption) hgn (Nat.le_refl _); clear tok2)
      | (have _t := tok3; refine wpList_insert_i rfl _ _ _ 51 rfl 3 50 .i64 Try.underlying51 Try.underlying3 w.heap.size _ rfl (MapIs.alloc (by with_reducible assumption) _) _ _ rfl rfl ?_; intro wn hMn hgn; have hB := bstep (w := w) (by with_reducible assumption) hgn (Nat.le_refl _); clear tok3)
      | (have _t := tok4; refine wpList_insert_i rfl _ _ _ 51 rfl 3 50 .i64 Try.underlying51 Try.underlying3 w.heap.size _ rfl (MapIs.alloc (by with_reducible assumption) _) _ _ rfl rfl ?_; intro wn hMn hgn; have hB := bstep (w := w) (by with_reducible assumption) hgn (Nat.le_refl _); clear tok4)
      | (have _t := tokn; refine wpList_insert_i rfl _ _ _ 51 rfl 3 50 .i64 Try.underlying51 Try.underlying3 w.heap.size _ rfl (MapIs.alloc (by with_reducible assumption) _) _ _ rfl rfl ?_; intro wn hMn hgn; have hB := bstep (w := w) (by with_reducible assumption) hgn (Nat.le_refl _); have hS := (SlAt.new _ w.heap.size _ _ (MapIs.lt (by with_reducible assumption))).grown hgn; (try simp only [World.size_alloc] at hS); clear tokn)
      | (refine wpList_insert_i rfl _ _ _ 51 rfl 3 50 .i64 Try.underlying51 Try.underlying3 w.heap.size _ rfl (MapIs.alloc (by with_reducible assumption) _) _ _ rfl rfl ?_; intro wn hMn hgn; have hB := bstep (w := w) (by with_reducible assumption) hgn (Nat.le_refl _); have hS' := SlAt.grown (SlAt.alloc (by with_reducible assumption) _) hgn)
      | (refine wpList_lookup_sl rfl _ _ 51 rfl 3 50 .i64 Try.underlying51 Try.underlying3 w.heap.size _ rfl (by with_reducible assumption) 16 _ _ _ (by with_reducible assumption) rfl (by rfl) ?_; intro hs; have d0 := hs.cell 0; have d1 := hs.cell 1; simp at d0 d1; clear hs))
    go_rounds 3
    all_goals
      go_ret2
      refine ⟨by simp [holdsB], ?_⟩
      with_reducible assumption
set_option maxHeartbeats 2000000 in
theorem refHolds_no (op c : Int) (h1 : -1 ≤ c) (h2 : c ≤ 1) (h3 : op < 11 ∨ 16 < op) (w : World) : Calls Try.prog 17 #[.int .i64 op, .int .i64 c] w fun e w' => e = .returned (.tuple #[.bool false, .int .i64 13]) ∧ Below w.heap.size w w' := by
  have hmm := @run_makeMap Try.prog
  have hM0 := MapIs.made w
  have hS0 : Below w.heap.size w (w.alloc (.map #[] 0)) := al _
  have e1 : 11 ≠ op := by omega
  have e2 : 12 ≠ op := by omega
  have e3 : 13 ≠ op := by omega
  have e4 : 14 ≠ op := by omega
  have e5 : 15 ≠ op := by omega
  have e6 : 16 ≠ op := by omega
  have hz : ∀ W : World, (zeroValue 50).run Try.prog W = .ok (.slice none 0 0) W := fun _ => by kernel_rfl
  clear h3
  have hc : c = -1 ∨ c = 0 ∨ c = 1 := by omega
  rcases hc with rfl | rfl | rfl
  all_goals
    go_enter Try.func17, Try.ntmps17
    go_wp2_with (first
      | (refine wpList_insert_i rfl _ _ _ 51 rfl 3 50 .i64 Try.underlying51 Try.underlying3 w.heap.size _ rfl (MapIs.alloc (by with_reducible assumption) _) _ _ rfl rfl ?_; intro wn hMn hgn; have hB := bstep (w := w) (by with_reducible assumption) hgn (Nat.le_refl _))
      | (refine wpList_lookup_i_no rfl _ _ 51 rfl 3 50 .i64 Try.underlying51 Try.underlying3 w.heap.size _ rfl (by assumption) op _ rfl (hz _) (by simp [setM, getM, *]) ?_))
    go_ret2
    exact ⟨rfl, by assumption⟩
theorem refHolds_yes (op c : Int) (h1 : -1 ≤ c) (h2 : c ≤ 1) (h3 : 11 ≤ op) (h4 : op ≤ 16) (w : World) : Calls Try.prog 17 #[.int .i64 op, .int .i64 c] w fun e w' => e = .returned (.tuple #[.bool (holdsB op c), .int .i64 0]) ∧ Below w.heap.size w w' := by
  have ho : op = 11 ∨ op = 12 ∨ op = 13 ∨ op = 14 ∨ op = 15 ∨ op = 16 := by omega
  rcases ho with rfl | rfl | rfl | rfl | rfl | rfl
  · exact refHolds_11 c h1 h2 w
  · exact refHolds_12 c h1 h2 w
  · exact refHolds_13 c h1 h2 w
  · exact refHolds_14 c h1 h2 w
  · exact refHolds_15 c h1 h2 w
  · exact refHolds_16 c h1 h2 w
theorem walkWordHolds (v0 v1 : Value) (w : World) (w0 : IsInt v0) (w1 : IsInt v1) : Calls Try.prog 4 #[v0, v1] w fun e w' => e = .returned (.bool true) ∧ Below w.heap.size w w' := by
  obtain ⟨op, rfl, _⟩ := w0
  obtain ⟨c, rfl, _⟩ := w1
  by_cases hr : c < -1 ∨ 1 < c
  · go_enter Try.func4, Try.ntmps4
    go_wp2_with fail
    refine (wordHolds_range op c hr _).mono ?_
    rintro e w1 ⟨rfl, rfl⟩
    go_wp2_with fail
    refine (refHolds_range op c hr _).mono ?_
    rintro e w1 ⟨rfl, rfl⟩
    go_wp2_with fail
    go_ret
    exact ⟨rfl, Below.refl _ _⟩
  · have h1 : -1 ≤ c := by omega
    have h2 : c ≤ 1 := by omega
    clear hr
    by_cases ho : 11 ≤ op ∧ op ≤ 16
    · obtain ⟨h3, h4⟩ := ho
      have hE : (holdsB op c == holdsB op c) = true := by simp
      go_enter Try.func4, Try.ntmps4
      go_wp2_with fail
      refine (wordHolds_yes op c h1 h2 h3 h4 _).mono ?_
      rintro e w1 ⟨rfl, rfl⟩
      go_wp2_with fail
      refine (refHolds_yes op c h1 h2 h3 h4 _).mono ?_
      rintro e w2 ⟨rfl, b2⟩
      go_wp2_with fail
      go_ret
      exact ⟨rfl, b2⟩
    · have h3 : op < 11 ∨ 16 < op := by omega
      clear ho
      go_enter Try.func4, Try.ntmps4
      go_wp2_with fail
      refine (wordHolds_no op c h1 h2 h3 _).mono ?_
      rintro e w1 ⟨rfl, rfl⟩
      go_wp2_with fail
      refine (refHolds_no op c h1 h2 h3 _).mono ?_
      rintro e w2 ⟨rfl, b2⟩
      go_wp2_with fail
      go_ret
      exact ⟨rfl, b2⟩
end Go.Proofs.Ytniepfpjklccmaa
