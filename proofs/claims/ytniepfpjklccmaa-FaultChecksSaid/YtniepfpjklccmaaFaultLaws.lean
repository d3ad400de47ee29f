/- The laws over 'fault.Operation', 'fault.Check' and the check of two texts are true. Conditions: none. -/
import Derived.Test.YtniepfpjklccmaaFaultOp
import Derived.Deep.RegionHeld3
namespace Go.Proofs.Ytniepfpjklccmaa
open Go.ChangeShapes Go.WideShapes Go.ChangeAt Go.RowKit
attribute [local go_sem] eqF eqG

theorem eqF_same (w : World) (k a b c : Int) : (binOp .eql 38 (f4 k a b c) (f4 k a b c)).run Try.prog w = .ok (.bool true) w := by rw [eqF]; simp
attribute [local go_sem] eqF_same
theorem opK_40 : opK 4 0 = 2 := rfl
theorem run_kind (w : World) (k a b c : Int) : (Instr.field 38 (f4 k a b c) 0).run Try.prog w = .ok (.int .i64 k) w := by unfold f4; kernel_rfl
attribute [local go_sem] run_kind
theorem walkFaultOperations (v0 v1 : Value) (w : World) (w0 : IsInt v0) (w1 : IsInt v1) : Calls Try.prog 10 #[v0, v1] w fun e w' => e = .returned (.bool true) ∧ Below w.heap.size w w' := by
  obtain ⟨op, rfl, _⟩ := w0
  obtain ⟨b, rfl, _⟩ := w1
  go_enter Try.func10, Try.ntmps10
  go_wp2_with fail
  refine (faultOperation_any _ _ _).mono ?_
  rintro e w1 ⟨rfl, b1⟩
  go_wp2_with fail
  refine (refOperation_any _ _ _).mono ?_
  rintro e w2 ⟨rfl, b2⟩
  go_wp2_with fail
  refine (faultOperation_any _ _ _).mono ?_
  rintro e w3 ⟨rfl, b3⟩
  rw [opK_40]
  go_wp2_with fail
  go_ret
  exact ⟨rfl, sq (sq b1 b2) b3⟩

theorem faultIndex_any (i n : Int) (w : World) : Calls Try.prog 58 #[.int .i64 i, .int .i64 n] w fun e w' => e = .returned (if 0 ≤ i ∧ i < n then f4 0 0 0 0 else f4 1 i n 0) ∧ Below w.heap.size w w' := by
  by_cases h : 0 ≤ i ∧ i < n
  · rw [if_pos h]; exact faultIndex_yes i n w h.1 h.2
  · rw [if_neg h]; exact faultIndex_no i n w (by omega)
theorem refIndex_any (i n : Int) (w : World) : Calls Try.prog 61 #[.int .i64 i, .int .i64 n] w fun e w' => e = .returned (if 0 ≤ i ∧ i < n then f4 0 0 0 0 else f4 1 i n 0) ∧ Below w.heap.size w w' := by
  by_cases h : 0 ≤ i ∧ i < n
  · rw [if_pos h]; exact refIndex_yes i n w h.1 h.2
  · rw [if_neg h]; exact refIndex_no i n w (by omega)
theorem faultBounds_any (l h n : Int) (w : World) : Calls Try.prog 59 #[.int .i64 l, .int .i64 h, .int .i64 n] w fun e w' => e = .returned (if 0 ≤ l ∧ l ≤ h ∧ h ≤ n then f4 0 0 0 0 else f4 5 l h n) ∧ Below w.heap.size w w' := by
  by_cases q : 0 ≤ l ∧ l ≤ h ∧ h ≤ n
  · rw [if_pos q]; exact faultBounds_yes l h n w q.1 q.2.1 q.2.2
  · rw [if_neg q]; exact faultBounds_no l h n w (by omega)
theorem refBounds_any (l h n : Int) (w : World) : Calls Try.prog 62 #[.int .i64 l, .int .i64 h, .int .i64 n] w fun e w' => e = .returned (if 0 ≤ l ∧ l ≤ h ∧ h ≤ n then f4 0 0 0 0 else f4 5 l h n) ∧ Below w.heap.size w w' := by
  by_cases q : 0 ≤ l ∧ l ≤ h ∧ h ≤ n
  · rw [if_pos q]; exact refBounds_yes l h n w q.1 q.2.1 q.2.2
  · rw [if_neg q]; exact refBounds_no l h n w (by omega)
/-- A Fault, whichever. -/
def IsF4 (x : Value) : Prop := ∃ k a b c : Int, x = f4 k a b c
theorem isF4_ite {c : Prop} [Decidable c] {x y : Value} (hx : IsF4 x) (hy : IsF4 y) : IsF4 (if c then x else y) := by split <;> assumption
theorem isF4 (k a b c : Int) : IsF4 (f4 k a b c) := ⟨k, a, b, c, rfl⟩
def ChkPost (x : Value) (v : Int) (w : World) (e : Ending) (w' : World) : Prop := e = .returned (.tuple #[x, .int .i64 v]) ∧ Below w.heap.size w w'
theorem faultCheck_1 (k a b c q r s t : Int) (hk : k = 1 ∨ k = 2) (hx : Hid ((if 0 ≤ b ∧ b < a then f4 0 0 0 0 else f4 1 b a 0) = f4 q r s t)) (w : World) : Calls Try.prog 34 #[.int .i64 k, .int .i64 a, .int .i64 b, .int .i64 c] w (ChkPost (f4 q r s t) 0 w) := by
  rcases hk with rfl | rfl
  all_goals
    go_enter Try.func34, Try.ntmps34
    go_wp2_with fail
    refine (faultIndex_any _ _ _).mono ?_
    rintro e w1 ⟨rfl, b1⟩
    rw [hx.out]
    unfold f4
    have hs := b1.size
    simp at hs
    have c0 := b1.cell (p := ⟨w.heap.size, 0, none⟩) (by go_size); have c1 := b1.cell (p := ⟨w.heap.size, 1, none⟩) (by go_size); have c2 := b1.cell (p := ⟨w.heap.size, 2, none⟩) (by go_size); have c3 := b1.cell (p := ⟨w.heap.size, 3, none⟩) (by go_size); simp at c0 c1 c2 c3
    have d0 := b1.frozen (p := ⟨w.heap.size, 0, none⟩) (by go_size); have d1 := b1.frozen (p := ⟨w.heap.size, 1, none⟩) (by go_size); have d2 := b1.frozen (p := ⟨w.heap.size, 2, none⟩) (by go_size); have d3 := b1.frozen (p := ⟨w.heap.size, 3, none⟩) (by go_size); simp at d0 d1 d2 d3
    clear hx
    go_wp2
    exact bodyPost_ret (v := .tuple #[f4 q r s t, .int .i64 0]) (by simp [results, Try.results34, go_sem, f4, c0, c1, c2, c3]) rfl ⟨rfl, (((((al _).trans (b1.mono (by simp))).setCell (Nat.le_refl _) _).setCell (Nat.le_refl _) _).setCell (Nat.le_refl _) _).setCell (Nat.le_refl _) _⟩
theorem faultCheck_3 (a b c q r s t : Int) (hx : Hid ((if 0 ≤ b ∧ b ≤ c ∧ c ≤ a then f4 0 0 0 0 else f4 5 b c a) = f4 q r s t)) (w : World) : Calls Try.prog 34 #[.int .i64 3, .int .i64 a, .int .i64 b, .int .i64 c] w (ChkPost (f4 q r s t) 0 w) := by
  go_enter Try.func34, Try.ntmps34
  go_wp2_with fail
  refine (faultBounds_any _ _ _ _).mono ?_
  rintro e w1 ⟨rfl, b1⟩
  rw [hx.out]
  unfold f4
  have hs := b1.size
  simp at hs
  have c0 := b1.cell (p := ⟨w.heap.size, 0, none⟩) (by go_size); have c1 := b1.cell (p := ⟨w.heap.size, 1, none⟩) (by go_size); have c2 := b1.cell (p := ⟨w.heap.size, 2, none⟩) (by go_size); have c3 := b1.cell (p := ⟨w.heap.size, 3, none⟩) (by go_size); simp at c0 c1 c2 c3
  have d0 := b1.frozen (p := ⟨w.heap.size, 0, none⟩) (by go_size); have d1 := b1.frozen (p := ⟨w.heap.size, 1, none⟩) (by go_size); have d2 := b1.frozen (p := ⟨w.heap.size, 2, none⟩) (by go_size); have d3 := b1.frozen (p := ⟨w.heap.size, 3, none⟩) (by go_size); simp at d0 d1 d2 d3
  clear hx
  go_wp2
  exact bodyPost_ret (v := .tuple #[f4 q r s t, .int .i64 0]) (by simp [results, Try.results34, go_sem, f4, c0, c1, c2, c3]) rfl ⟨rfl, (((((al _).trans (b1.mono (by simp))).setCell (Nat.le_refl _) _).setCell (Nat.le_refl _) _).setCell (Nat.le_refl _) _).setCell (Nat.le_refl _) _⟩
theorem faultCheck_4 (a b c q r s t : Int) (hx : Hid (f4 (opK 4 a) 0 0 0 = f4 q r s t)) (w : World) : Calls Try.prog 34 #[.int .i64 4, .int .i64 a, .int .i64 b, .int .i64 c] w (ChkPost (f4 q r s t) 0 w) := by
  go_enter Try.func34, Try.ntmps34
  go_wp2_with fail
  refine (faultOperation_any _ _ _).mono ?_
  rintro e w1 ⟨rfl, b1⟩
  rw [hx.out]
  unfold f4
  have hs := b1.size
  simp at hs
  have c0 := b1.cell (p := ⟨w.heap.size, 0, none⟩) (by go_size); have c1 := b1.cell (p := ⟨w.heap.size, 1, none⟩) (by go_size); have c2 := b1.cell (p := ⟨w.heap.size, 2, none⟩) (by go_size); have c3 := b1.cell (p := ⟨w.heap.size, 3, none⟩) (by go_size); simp at c0 c1 c2 c3
  have d0 := b1.frozen (p := ⟨w.heap.size, 0, none⟩) (by go_size); have d1 := b1.frozen (p := ⟨w.heap.size, 1, none⟩) (by go_size); have d2 := b1.frozen (p := ⟨w.heap.size, 2, none⟩) (by go_size); have d3 := b1.frozen (p := ⟨w.heap.size, 3, none⟩) (by go_size); simp at d0 d1 d2 d3
  clear hx
  go_wp2
  exact bodyPost_ret (v := .tuple #[f4 q r s t, .int .i64 0]) (by simp [results, Try.results34, go_sem, f4, c0, c1, c2, c3]) rfl ⟨rfl, (((((al _).trans (b1.mono (by simp))).setCell (Nat.le_refl _) _).setCell (Nat.le_refl _) _).setCell (Nat.le_refl _) _).setCell (Nat.le_refl _) _⟩
theorem faultCheck_5 (a b c q r s t : Int) (hx : Hid (f4 (opK 6 a) 0 0 0 = f4 q r s t)) (w : World) : Calls Try.prog 34 #[.int .i64 5, .int .i64 a, .int .i64 b, .int .i64 c] w (ChkPost (f4 q r s t) 0 w) := by
  go_enter Try.func34, Try.ntmps34
  go_wp2_with fail
  refine (faultOperation_any _ _ _).mono ?_
  rintro e w1 ⟨rfl, b1⟩
  rw [hx.out]
  unfold f4
  have hs := b1.size
  simp at hs
  have c0 := b1.cell (p := ⟨w.heap.size, 0, none⟩) (by go_size); have c1 := b1.cell (p := ⟨w.heap.size, 1, none⟩) (by go_size); have c2 := b1.cell (p := ⟨w.heap.size, 2, none⟩) (by go_size); have c3 := b1.cell (p := ⟨w.heap.size, 3, none⟩) (by go_size); simp at c0 c1 c2 c3
  have d0 := b1.frozen (p := ⟨w.heap.size, 0, none⟩) (by go_size); have d1 := b1.frozen (p := ⟨w.heap.size, 1, none⟩) (by go_size); have d2 := b1.frozen (p := ⟨w.heap.size, 2, none⟩) (by go_size); have d3 := b1.frozen (p := ⟨w.heap.size, 3, none⟩) (by go_size); simp at d0 d1 d2 d3
  clear hx
  go_wp2
  exact bodyPost_ret (v := .tuple #[f4 q r s t, .int .i64 0]) (by simp [results, Try.results34, go_sem, f4, c0, c1, c2, c3]) rfl ⟨rfl, (((((al _).trans (b1.mono (by simp))).setCell (Nat.le_refl _) _).setCell (Nat.le_refl _) _).setCell (Nat.le_refl _) _).setCell (Nat.le_refl _) _⟩
theorem faultCheck_no (k a b c : Int) (hk : k < 1 ∨ 5 < k) (h8 : (k == 8) = false) (w : World) : Calls Try.prog 34 #[.int .i64 k, .int .i64 a, .int .i64 b, .int .i64 c] w (ChkPost (f4 0 0 0 0) 13 w) := by
  have e1 : (k == 1) = false := by simp; omega
  have e2 : (k == 2) = false := by simp; omega
  have e3 : (k == 3) = false := by simp; omega
  have e4 : (k == 4) = false := by simp; omega
  have e5 : (k == 5) = false := by simp; omega
  clear hk
  go_enter Try.func34, Try.ntmps34
  go_wp2
  exact bodyPost_ret (v := .tuple #[f4 0 0 0 0, .int .i64 13]) (by simp [results, Try.results34, go_sem, f4]) rfl ⟨rfl, by go_grown⟩
theorem refCheck_1 (k a b c q r s t : Int) (hk : k = 1 ∨ k = 2) (hx : Hid ((if 0 ≤ b ∧ b < a then f4 0 0 0 0 else f4 1 b a 0) = f4 q r s t)) (w : World) : Calls Try.prog 35 #[.int .i64 k, .int .i64 a, .int .i64 b, .int .i64 c] w (ChkPost (f4 q r s t) 0 w) := by
  rcases hk with rfl | rfl
  all_goals
    go_enter Try.func35, Try.ntmps35
    go_wp2_with fail
    refine (refIndex_any _ _ _).mono ?_
    rintro e w1 ⟨rfl, b1⟩
    rw [hx.out]
    unfold f4
    have hs := b1.size
    simp at hs
    have c0 := b1.cell (p := ⟨w.heap.size, 0, none⟩) (by go_size); have c1 := b1.cell (p := ⟨w.heap.size, 1, none⟩) (by go_size); have c2 := b1.cell (p := ⟨w.heap.size, 2, none⟩) (by go_size); have c3 := b1.cell (p := ⟨w.heap.size, 3, none⟩) (by go_size); simp at c0 c1 c2 c3
    have d0 := b1.frozen (p := ⟨w.heap.size, 0, none⟩) (by go_size); have d1 := b1.frozen (p := ⟨w.heap.size, 1, none⟩) (by go_size); have d2 := b1.frozen (p := ⟨w.heap.size, 2, none⟩) (by go_size); have d3 := b1.frozen (p := ⟨w.heap.size, 3, none⟩) (by go_size); simp at d0 d1 d2 d3
    clear hx
    go_wp2
    exact bodyPost_ret (v := .tuple #[f4 q r s t, .int .i64 0]) (by simp [results, Try.results35, go_sem, f4, c0, c1, c2, c3]) rfl ⟨rfl, (((((al _).trans (b1.mono (by simp))).setCell (Nat.le_refl _) _).setCell (Nat.le_refl _) _).setCell (Nat.le_refl _) _).setCell (Nat.le_refl _) _⟩
theorem refCheck_3 (a b c q r s t : Int) (hx : Hid ((if 0 ≤ b ∧ b ≤ c ∧ c ≤ a then f4 0 0 0 0 else f4 5 b c a) = f4 q r s t)) (w : World) : Calls Try.prog 35 #[.int .i64 3, .int .i64 a, .int .i64 b, .int .i64 c] w (ChkPost (f4 q r s t) 0 w) := by
  go_enter Try.func35, Try.ntmps35
  go_wp2_with fail
  refine (refBounds_any _ _ _ _).mono ?_
  rintro e w1 ⟨rfl, b1⟩
  rw [hx.out]
  unfold f4
  have hs := b1.size
  simp at hs
  have c0 := b1.cell (p := ⟨w.heap.size, 0, none⟩) (by go_size); have c1 := b1.cell (p := ⟨w.heap.size, 1, none⟩) (by go_size); have c2 := b1.cell (p := ⟨w.heap.size, 2, none⟩) (by go_size); have c3 := b1.cell (p := ⟨w.heap.size, 3, none⟩) (by go_size); simp at c0 c1 c2 c3
  have d0 := b1.frozen (p := ⟨w.heap.size, 0, none⟩) (by go_size); have d1 := b1.frozen (p := ⟨w.heap.size, 1, none⟩) (by go_size); have d2 := b1.frozen (p := ⟨w.heap.size, 2, none⟩) (by go_size); have d3 := b1.frozen (p := ⟨w.heap.size, 3, none⟩) (by go_size); simp at d0 d1 d2 d3
  clear hx
  go_wp2
  exact bodyPost_ret (v := .tuple #[f4 q r s t, .int .i64 0]) (by simp [results, Try.results35, go_sem, f4, c0, c1, c2, c3]) rfl ⟨rfl, (((((al _).trans (b1.mono (by simp))).setCell (Nat.le_refl _) _).setCell (Nat.le_refl _) _).setCell (Nat.le_refl _) _).setCell (Nat.le_refl _) _⟩
theorem refCheck_4 (a b c q r s t : Int) (hx : Hid (f4 (opK 5 a) 0 0 0 = f4 q r s t)) (w : World) : Calls Try.prog 35 #[.int .i64 4, .int .i64 a, .int .i64 b, .int .i64 c] w (ChkPost (f4 q r s t) 0 w) := by
  go_enter Try.func35, Try.ntmps35
  go_wp2_with fail
  refine (refOperation_any _ _ _).mono ?_
  rintro e w1 ⟨rfl, b1⟩
  rw [hx.out]
  unfold f4
  have hs := b1.size
  simp at hs
  have c0 := b1.cell (p := ⟨w.heap.size, 0, none⟩) (by go_size); have c1 := b1.cell (p := ⟨w.heap.size, 1, none⟩) (by go_size); have c2 := b1.cell (p := ⟨w.heap.size, 2, none⟩) (by go_size); have c3 := b1.cell (p := ⟨w.heap.size, 3, none⟩) (by go_size); simp at c0 c1 c2 c3
  have d0 := b1.frozen (p := ⟨w.heap.size, 0, none⟩) (by go_size); have d1 := b1.frozen (p := ⟨w.heap.size, 1, none⟩) (by go_size); have d2 := b1.frozen (p := ⟨w.heap.size, 2, none⟩) (by go_size); have d3 := b1.frozen (p := ⟨w.heap.size, 3, none⟩) (by go_size); simp at d0 d1 d2 d3
  clear hx
  go_wp2
  exact bodyPost_ret (v := .tuple #[f4 q r s t, .int .i64 0]) (by simp [results, Try.results35, go_sem, f4, c0, c1, c2, c3]) rfl ⟨rfl, (((((al _).trans (b1.mono (by simp))).setCell (Nat.le_refl _) _).setCell (Nat.le_refl _) _).setCell (Nat.le_refl _) _).setCell (Nat.le_refl _) _⟩
theorem refCheck_5 (a b c q r s t : Int) (hx : Hid (f4 (opK 7 a) 0 0 0 = f4 q r s t)) (w : World) : Calls Try.prog 35 #[.int .i64 5, .int .i64 a, .int .i64 b, .int .i64 c] w (ChkPost (f4 q r s t) 0 w) := by
  go_enter Try.func35, Try.ntmps35
  go_wp2_with fail
  refine (refOperation_any _ _ _).mono ?_
  rintro e w1 ⟨rfl, b1⟩
  rw [hx.out]
  unfold f4
  have hs := b1.size
  simp at hs
  have c0 := b1.cell (p := ⟨w.heap.size, 0, none⟩) (by go_size); have c1 := b1.cell (p := ⟨w.heap.size, 1, none⟩) (by go_size); have c2 := b1.cell (p := ⟨w.heap.size, 2, none⟩) (by go_size); have c3 := b1.cell (p := ⟨w.heap.size, 3, none⟩) (by go_size); simp at c0 c1 c2 c3
  have d0 := b1.frozen (p := ⟨w.heap.size, 0, none⟩) (by go_size); have d1 := b1.frozen (p := ⟨w.heap.size, 1, none⟩) (by go_size); have d2 := b1.frozen (p := ⟨w.heap.size, 2, none⟩) (by go_size); have d3 := b1.frozen (p := ⟨w.heap.size, 3, none⟩) (by go_size); simp at d0 d1 d2 d3
  clear hx
  go_wp2
  exact bodyPost_ret (v := .tuple #[f4 q r s t, .int .i64 0]) (by simp [results, Try.results35, go_sem, f4, c0, c1, c2, c3]) rfl ⟨rfl, (((((al _).trans (b1.mono (by simp))).setCell (Nat.le_refl _) _).setCell (Nat.le_refl _) _).setCell (Nat.le_refl _) _).setCell (Nat.le_refl _) _⟩
theorem refCheck_no (k a b c : Int) (hk : k < 1 ∨ 5 < k) (w : World) : Calls Try.prog 35 #[.int .i64 k, .int .i64 a, .int .i64 b, .int .i64 c] w (ChkPost (f4 0 0 0 0) 13 w) := by
  have e1 : (k == 1) = false := by simp; omega
  have e2 : (k == 2) = false := by simp; omega
  have e3 : (k == 3) = false := by simp; omega
  have e4 : (k == 4) = false := by simp; omega
  have e5 : (k == 5) = false := by simp; omega
  clear hk
  go_enter Try.func35, Try.ntmps35
  go_wp2
  exact bodyPost_ret (v := .tuple #[f4 0 0 0 0, .int .i64 13]) (by simp [results, Try.results35, go_sem, f4]) rfl ⟨rfl, by go_grown⟩
theorem opK_45 (a : Int) : opK 5 a = opK 4 a := by simp [opK]
theorem opK_67 (a : Int) : opK 7 a = opK 6 a := by simp [opK]
/-- The law, from what both answer. -/
theorem walk_check (k kk a b c : Int) (x : Value) (v : Int) (hx : IsF4 x) (hkk : (k == 8) = true ∧ kk = 4 ∨ (k == 8) = false ∧ kk = k)
    (h1 : ∀ w, Calls Try.prog 34 #[.int .i64 kk, .int .i64 a, .int .i64 b, .int .i64 c] w (ChkPost x v w)) (h2 : ∀ w, Calls Try.prog 35 #[.int .i64 kk, .int .i64 a, .int .i64 b, .int .i64 c] w (ChkPost x v w)) (w : World) :
    Calls Try.prog 12 #[.int .i64 k, .int .i64 a, .int .i64 b, .int .i64 c] w fun e w' => e = .returned (.bool true) ∧ Below w.heap.size w w' := by
  obtain ⟨q, r, s, t, rfl⟩ := hx
  have H1 := Lib.hid h1
  have H2 := Lib.hid h2
  clear h1 h2
  rcases hkk with ⟨hk, rfl⟩ | ⟨hk, rfl⟩
  all_goals
    go_enter Try.func12, Try.ntmps12
    go_wp2_with fail
    refine (H1.out _).mono ?_
    rintro e w1 ⟨rfl, b1⟩
    unfold f4
    go_wp2_with fail
    refine (H2.out _).mono ?_
    rintro e w2 ⟨rfl, b2⟩
    unfold f4
    have hs := b2.size
    simp at hs
    have hlt : w1.heap.size < w2.heap.size := by omega
    have c0 := b2.cell (p := ⟨w1.heap.size, 0, none⟩) (by go_size); have c1 := b2.cell (p := ⟨w1.heap.size, 1, none⟩) (by go_size); have c2 := b2.cell (p := ⟨w1.heap.size, 2, none⟩) (by go_size); have c3 := b2.cell (p := ⟨w1.heap.size, 3, none⟩) (by go_size); simp at c0 c1 c2 c3
    have d0 := b2.frozen (p := ⟨w1.heap.size, 0, none⟩) (by go_size); have d1 := b2.frozen (p := ⟨w1.heap.size, 1, none⟩) (by go_size); have d2 := b2.frozen (p := ⟨w1.heap.size, 2, none⟩) (by go_size); have d3 := b2.frozen (p := ⟨w1.heap.size, 3, none⟩) (by go_size); simp at d0 d1 d2 d3
    go_wp2_with fail
    go_ret
    exact ⟨rfl, (sq (al2 b1 _) b2).alloc (by have := b1.size; omega) _⟩
theorem walkFaultChecks (v0 v1 v2 v3 : Value) (w : World) (w0 : IsInt v0) (w1 : IsInt v1) (w2 : IsInt v2) (w3 : IsInt v3) : Calls Try.prog 12 #[v0, v1, v2, v3] w fun e w' => e = .returned (.bool true) ∧ Below w.heap.size w w' := by
  obtain ⟨k, rfl, _⟩ := w0
  obtain ⟨a, rfl, _⟩ := w1
  obtain ⟨b, rfl, _⟩ := w2
  obtain ⟨c, rfl, _⟩ := w3
  by_cases h8 : k = 8
  · subst h8
    exact walk_check 8 4 a b c _ 0 (isF4 _ _ _ _) (.inl ⟨rfl, rfl⟩) (fun w => faultCheck_4 a b c _ _ _ _ rfl w) (fun w => refCheck_4 a b c _ _ _ _ (by rw [opK_45]; rfl) w) w
  · have e8 : (k == 8) = false := by simpa using h8
    by_cases h : 1 ≤ k ∧ k ≤ 5
    · have hk : (k = 1 ∨ k = 2) ∨ k = 3 ∨ k = 4 ∨ k = 5 := by omega
      rcases hk with hk | rfl | rfl | rfl
      · obtain ⟨q, r, s, t, hx⟩ : IsF4 (if 0 ≤ b ∧ b < a then f4 0 0 0 0 else f4 1 b a 0) := isF4_ite (isF4 _ _ _ _) (isF4 _ _ _ _)
        exact walk_check k k a b c _ 0 (isF4 _ _ _ _) (.inr ⟨e8, rfl⟩) (fun w => faultCheck_1 k a b c q r s t hk hx w) (fun w => refCheck_1 k a b c q r s t hk hx w) w
      · obtain ⟨q, r, s, t, hx⟩ : IsF4 (if 0 ≤ b ∧ b ≤ c ∧ c ≤ a then f4 0 0 0 0 else f4 5 b c a) := isF4_ite (isF4 _ _ _ _) (isF4 _ _ _ _)
        exact walk_check 3 3 a b c _ 0 (isF4 _ _ _ _) (.inr ⟨e8, rfl⟩) (fun w => faultCheck_3 a b c q r s t hx w) (fun w => refCheck_3 a b c q r s t hx w) w
      · exact walk_check 4 4 a b c _ 0 (isF4 _ _ _ _) (.inr ⟨e8, rfl⟩) (fun w => faultCheck_4 a b c _ _ _ _ rfl w) (fun w => refCheck_4 a b c _ _ _ _ (by rw [opK_45]; rfl) w) w
      · exact walk_check 5 5 a b c _ 0 (isF4 _ _ _ _) (.inr ⟨e8, rfl⟩) (fun w => faultCheck_5 a b c _ _ _ _ rfl w) (fun w => refCheck_5 a b c _ _ _ _ (by rw [opK_67]; rfl) w) w
    · exact walk_check k k a b c _ 13 (isF4 _ _ _ _) (.inr ⟨e8, rfl⟩) (fun w => faultCheck_no k a b c (by omega) e8 w) (fun w => refCheck_no k a b c (by omega) w) w

theorem refLong_any (n m : Int) (w : World) : Calls Try.prog 37 #[.int .i64 n, .int .i64 m] w fun e w' => e = .returned (if n ≤ m then f4 0 0 0 0 else f4 7 n m 0) ∧ Below w.heap.size w w' := by
  by_cases h : n ≤ m
  · rw [if_pos h]; exact refLong_yes n m w h
  · rw [if_neg h]; exact refLong_no n m w (by omega)
def halfI (n : Int) : Int := (if n < 0 then -(n + 1) else n) / 2
theorem half_neg (n : Int) (h : n < 0) (h1 : -9223372036854775808 ≤ n) : wrap64 (-((n + 1).tdiv 2)) = -(n + 1) / 2 := by
  obtain ⟨m, hm⟩ : ∃ m : Int, n + 1 = -m ∧ 0 ≤ m := ⟨-(n + 1), by omega, by omega⟩
  rw [hm.1, Int.neg_tdiv, Int.tdiv_eq_ediv_of_nonneg hm.2]
  unfold wrap64
  omega
theorem half_any (n : Int) (h1 : -9223372036854775808 ≤ n) (h2 : n ≤ 9223372036854775807) (w : World) : Calls Try.prog 36 #[.int .i64 n] w fun e w' => e = .returned (.int .i64 (halfI n)) ∧ w' = w := by
  unfold halfI
  by_cases h : n < 0
  · rw [if_pos h]
    go_enter Try.func36, Try.ntmps36
    go_wp2
    go_ret
    exact ⟨by rw [half_neg n h h1]; rfl, rfl⟩
  · rw [if_neg h]
    go_enter Try.func36, Try.ntmps36
    go_wp2
    go_ret
    exact ⟨rfl, rfl⟩
theorem faultCheck_8yes (a b : Int) (ha : 0 ≤ a) (hb : 0 ≤ b) (ha2 : a ≤ 4611686018427387903) (hb2 : b ≤ 4611686018427387903) (h : a + b ≤ 200) (w : World) : Calls Try.prog 34 #[.int .i64 8, .int .i64 a, .int .i64 b, .int .i64 0] w (ChkPost (f4 0 0 0 0) 0 w) := by
  go_enter Try.func34, Try.ntmps34
  go_wp2
  exact bodyPost_ret (v := .tuple #[f4 0 0 0 0, .int .i64 0]) (by simp [results, Try.results34, go_sem, f4]) rfl ⟨rfl, by go_grown⟩
theorem faultCheck_8no (a b : Int) (ha : 0 ≤ a) (hb : 0 ≤ b) (ha2 : a ≤ 4611686018427387903) (hb2 : b ≤ 4611686018427387903) (h : 200 < a + b) (w : World) : Calls Try.prog 34 #[.int .i64 8, .int .i64 a, .int .i64 b, .int .i64 0] w (ChkPost (f4 7 (a + b) 200 0) 0 w) := by
  have hw : wrap64 (a + b) = a + b := by unfold wrap64; omega
  by_cases h1 : 200 < a
  all_goals
    go_enter Try.func34, Try.ntmps34
    go_wp2_with fail
    refine (faultLong_no _ _ _ h).mono ?_
    rintro e w1 ⟨rfl, b1⟩
    unfold f4
    have hs := b1.size
    simp at hs
    have c0 := b1.cell (p := ⟨w.heap.size, 0, none⟩) (by go_size); have c1 := b1.cell (p := ⟨w.heap.size, 1, none⟩) (by go_size); have c2 := b1.cell (p := ⟨w.heap.size, 2, none⟩) (by go_size); have c3 := b1.cell (p := ⟨w.heap.size, 3, none⟩) (by go_size); simp at c0 c1 c2 c3
    have d0 := b1.frozen (p := ⟨w.heap.size, 0, none⟩) (by go_size); have d1 := b1.frozen (p := ⟨w.heap.size, 1, none⟩) (by go_size); have d2 := b1.frozen (p := ⟨w.heap.size, 2, none⟩) (by go_size); have d3 := b1.frozen (p := ⟨w.heap.size, 3, none⟩) (by go_size); simp at d0 d1 d2 d3
    go_wp2
    exact bodyPost_ret (v := .tuple #[f4 7 (a + b) 200 0, .int .i64 0]) (by simp [results, Try.results34, go_sem, f4, c0, c1, c2, c3]) rfl ⟨rfl, (((((al _).trans (b1.mono (by simp))).setCell (Nat.le_refl _) _).setCell (Nat.le_refl _) _).setCell (Nat.le_refl _) _).setCell (Nat.le_refl _) _⟩
theorem faultCheck_8 (a b : Int) (ha : 0 ≤ a) (hb : 0 ≤ b) (ha2 : a ≤ 4611686018427387903) (hb2 : b ≤ 4611686018427387903) (q r s t : Int) (hx : Hid ((if a + b ≤ 200 then f4 0 0 0 0 else f4 7 (a + b) 200 0) = f4 q r s t)) (w : World) : Calls Try.prog 34 #[.int .i64 8, .int .i64 a, .int .i64 b, .int .i64 0] w (ChkPost (f4 q r s t) 0 w) := by
  rw [← hx.out]
  by_cases h : a + b ≤ 200
  · rw [if_pos h]; exact faultCheck_8yes a b ha hb ha2 hb2 h w
  · rw [if_neg h]; exact faultCheck_8no a b ha hb ha2 hb2 (by omega) w
theorem walkFaultCats (v0 v1 : Value) (w : World) (w0 : IsInt v0) (w1 : IsInt v1) : Calls Try.prog 13 #[v0, v1] w fun e w' => e = .returned (.bool true) ∧ Below w.heap.size w w' := by
  obtain ⟨m, rfl, hm1, hm2⟩ := w0
  obtain ⟨n, rfl, hn1, hn2⟩ := w1
  have e1 : 0 ≤ halfI m ∧ halfI m ≤ 4611686018427387903 := by unfold halfI; split <;> omega
  have e2 : 0 ≤ halfI n ∧ halfI n ≤ 4611686018427387903 := by unfold halfI; split <;> omega
  go_enter Try.func13, Try.ntmps13
  go_wp2_with fail
  refine (half_any m hm1 hm2 _).mono ?_
  rintro e w1 ⟨rfl, rfl⟩
  go_wp2_with fail
  refine (half_any n hn1 hn2 _).mono ?_
  rintro e w1 ⟨rfl, rfl⟩
  generalize halfI m = a at *
  generalize halfI n = b at *
  obtain ⟨ha1, ha2⟩ := e1
  obtain ⟨hb1, hb2⟩ := e2
  obtain ⟨q, r, s, t, hx⟩ : IsF4 (if a + b ≤ 200 then f4 0 0 0 0 else f4 7 (a + b) 200 0) := isF4_ite (isF4 _ _ _ _) (isF4 _ _ _ _)
  have Hx := Lib.hid hx
  clear hx
  go_wp2_with fail
  refine (faultCheck_8 a b ha1 hb1 ha2 hb2 q r s t Hx _).mono ?_
  rintro e w1 ⟨rfl, b1⟩
  unfold f4
  go_wp2_with fail
  have hw : IntKind.i64.wrap (a + b) = a + b := IntWalk.i64_in _ (by omega)
  generalize hW : w1.alloc (Obj.cells #[Value.int .i64 q, Value.int .i64 r, Value.int .i64 s, Value.int .i64 t] 38) = W
  have hWb : Below w1.heap.size w1 W := by rw [← hW]; exact al _
  have hg : w1.heap.size < W.heap.size := by rw [← hW]; simp
  have hId : W.drew.cell? ⟨w1.heap.size, 0, none⟩ = some (.int .i64 q) ∧ W.drew.cell? ⟨w1.heap.size, 1, none⟩ = some (.int .i64 r) ∧ W.drew.cell? ⟨w1.heap.size, 2, none⟩ = some (.int .i64 s) ∧ W.drew.cell? ⟨w1.heap.size, 3, none⟩ = some (.int .i64 t) ∧ Below W.heap.size W W.drew := by
    rw [← hW]; simp; exact (Below.refl _ _).drew
  clear hW
  go_region_held3 (fun w' => w'.cell? ⟨w1.heap.size, 0, none⟩ = some (.int .i64 q) ∧ w'.cell? ⟨w1.heap.size, 1, none⟩ = some (.int .i64 r) ∧ w'.cell? ⟨w1.heap.size, 2, none⟩ = some (.int .i64 s) ∧ w'.cell? ⟨w1.heap.size, 3, none⟩ = some (.int .i64 t) ∧ Below W.heap.size W w')
    (first | exact hId | exact held_stay hg (by assumption) (by assumption))
    (first
      | (go_at_call 37; refine (refLong_any _ _ _).mono ?_; rintro e w3 ⟨rfl, b3⟩; rw [Hx.out]; unfold f4))
  go_wp2
  go_ret
  exact ⟨rfl, sq (b1.trans (hWb.mono b1.size)) (last5 (by assumption))⟩
end Go.Proofs.Ytniepfpjklccmaa
