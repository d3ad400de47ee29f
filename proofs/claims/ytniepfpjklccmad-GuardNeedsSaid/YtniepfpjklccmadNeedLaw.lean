/- The law over 'guard.Need' and the document's NeedOf is true. Conditions: none. -/
import Derived.Test.YtniepfpjklccmadNeed
import Derived.Laws.StructEq
namespace Go.Proofs.Ytniepfpjklccmad
open Go.ChangeShapes Go.WideShapes Go.ChangeAt Go.RowKit

set_option maxRecDepth 100000 in
set_option maxHeartbeats 1000000 in
theorem walk_need (o a b c d e p q r s t u : Int) (x : Bool) (h1 : ∀ w, Calls Try.prog 23 #[ins o a b c d e] w (NeedPost (ins p q r s t u) x w)) (h2 : ∀ w, Calls Try.prog 24 #[ins o a b c d e] w (NeedPost (ins p q r s t u) x w)) (w : World) :
    Calls Try.prog 8 #[ins o a b c d e] w fun e w' => e = .returned (.bool true) ∧ Below w.heap.size w w' := by
  have H1 := Lib.hid h1
  have H2 := Lib.hid h2
  have H3 := Lib.hid (guardNeed_get 0 0 0 0 0)
  clear h1 h2
  go_enter Try.func8, Try.ntmps8
  go_wp2_with fail
  refine (H1.out _).mono ?_
  rintro e1 w1 ⟨rfl, b1⟩
  have hs := b1.size
  simp at hs
  have hl : w.heap.size < w1.heap.size := by omega
  have c0 := b1.cell (p := ⟨w.heap.size, 0, none⟩) (by go_size); have c1 := b1.cell (p := ⟨w.heap.size, 1, none⟩) (by go_size); have c2 := b1.cell (p := ⟨w.heap.size, 2, none⟩) (by go_size); have c3 := b1.cell (p := ⟨w.heap.size, 3, none⟩) (by go_size); have c4 := b1.cell (p := ⟨w.heap.size, 4, none⟩) (by go_size); have c5 := b1.cell (p := ⟨w.heap.size, 5, none⟩) (by go_size); simp at c0 c1 c2 c3 c4 c5
  go_wp2_with fail
  refine (H2.out _).mono ?_
  rintro e2 w2 ⟨rfl, b2⟩
  have hs2 := b2.size
  simp at hs2
  have hl2 : w1.heap.size < w2.heap.size := by omega
  have g0 := b2.cell (p := ⟨w1.heap.size, 0, none⟩) (by go_size); have g1 := b2.cell (p := ⟨w1.heap.size, 1, none⟩) (by go_size); have g2 := b2.cell (p := ⟨w1.heap.size, 2, none⟩) (by go_size); have g3 := b2.cell (p := ⟨w1.heap.size, 3, none⟩) (by go_size); have g4 := b2.cell (p := ⟨w1.heap.size, 4, none⟩) (by go_size); have g5 := b2.cell (p := ⟨w1.heap.size, 5, none⟩) (by go_size); simp at g0 g1 g2 g3 g4 g5
  go_wp2_with fail
  refine (H3.out _).mono ?_
  rintro e3 w3 ⟨rfl, b3⟩
  have hs3 := b3.size
  simp at hs3
  have hl3 : w2.heap.size < w3.heap.size := by omega
  have k0 := b3.cell (p := ⟨w2.heap.size, 0, none⟩) (by go_size); have k1 := b3.cell (p := ⟨w2.heap.size, 1, none⟩) (by go_size); have k2 := b3.cell (p := ⟨w2.heap.size, 2, none⟩) (by go_size); have k3 := b3.cell (p := ⟨w2.heap.size, 3, none⟩) (by go_size); have k4 := b3.cell (p := ⟨w2.heap.size, 4, none⟩) (by go_size); have k5 := b3.cell (p := ⟨w2.heap.size, 5, none⟩) (by go_size); simp at k0 k1 k2 k3 k4 k5
  have hA : ∀ j, w3.cell? ⟨w1.heap.size, j, none⟩ = w2.cell? ⟨w1.heap.size, j, none⟩ := fun j => by
    rw [b3.cell (p := ⟨w1.heap.size, j, none⟩) (by simp; omega)]
    exact World.cell?_alloc_lt _ _ _ hl2
  have f0 := (hA 0).trans g0
  have f1 := (hA 1).trans g1
  have f2 := (hA 2).trans g2
  have f3 := (hA 3).trans g3
  have f4 := (hA 4).trans g4
  have f5 := (hA 5).trans g5
  have hl4 : w1.heap.size < w3.heap.size := by omega
  clear hA hs hs2 hs3
  go_wp2
  go_ret
  have hB := sq (al2 (sq (al2 (sq (al _) b1) _) b2) _) b3
  refine ⟨rfl, ?_⟩
  first
    | exact al2 hB _
    | exact hB
theorem walkGuardNeeds (v0 : Value) (w : World) (w0 : IsIns v0) : Calls Try.prog 8 #[v0] w fun e w' => e = .returned (.bool true) ∧ Below w.heap.size w w' := by
  obtain ⟨o, a, b, c, d, e, rfl⟩ := w0
  by_cases h7 : o = 7
  · subst h7
    by_cases hd : d = 4 ∨ d = 5
    · exact walk_need 7 a b c d e _ _ _ _ _ _ _ (guardNeed_div a b c d e hd) (refNeed_div a b c d e hd) w
    · by_cases hd2 : d = 6 ∨ d = 7
      · exact walk_need 7 a b c d e _ _ _ _ _ _ _ (guardNeed_shf a b c d e hd2) (refNeed_shf a b c d e hd2) w
      · have h4 : (d == 4) = false := by simp; omega
        have h5 : (d == 5) = false := by simp; omega
        have h6 : (d == 6) = false := by simp; omega
        have h7 : (d == 7) = false := by simp; omega
        exact walk_need 7 a b c d e _ _ _ _ _ _ _ (guardNeed_op0 a b c d e h4 h5 h6 h7) (refNeed_op0 a b c d e h4 h5 h6 h7) w
  · by_cases h17 : o = 17
    · subst h17
      by_cases hc : 100 < c
      · exact walk_need 17 a b c d e _ _ _ _ _ _ _ (guardNeed_lst a b c d e hc) (refNeed_lst a b c d e hc) w
      · exact walk_need 17 a b c d e _ _ _ _ _ _ _ (guardNeed_ls0 a b c d e (by omega)) (refNeed_ls0 a b c d e (by omega)) w
    · by_cases h11 : o = 11
      · subst h11
        exact walk_need 11 a b c d e _ _ _ _ _ _ _ (guardNeed_cat a b c d e) (refNeed_cat a b c d e) w
      · by_cases h13 : o = 13
        · subst h13
          exact walk_need 13 a b c d e _ _ _ _ _ _ _ (guardNeed_idx a b c d e) (refNeed_idx a b c d e) w
        · by_cases h14 : o = 14
          · subst h14
            exact walk_need 14 a b c d e _ _ _ _ _ _ _ (guardNeed_set a b c d e) (refNeed_set a b c d e) w
          · by_cases h15 : o = 15
            · subst h15
              exact walk_need 15 a b c d e _ _ _ _ _ _ _ (guardNeed_cut a b c d e) (refNeed_cut a b c d e) w
            · by_cases h16 : o = 16
              · subst h16
                exact walk_need 16 a b c d e _ _ _ _ _ _ _ (guardNeed_app a b c d e) (refNeed_app a b c d e) w
              · by_cases h19 : o = 19
                · subst h19
                  exact walk_need 19 a b c d e _ _ _ _ _ _ _ (guardNeed_get a b c d e) (refNeed_get a b c d e) w
                · by_cases h20 : o = 20
                  · subst h20
                    exact walk_need 20 a b c d e _ _ _ _ _ _ _ (guardNeed_put a b c d e) (refNeed_put a b c d e) w
                  · by_cases h23 : o = 23
                    · subst h23
                      exact walk_need 23 a b c d e _ _ _ _ _ _ _ (guardNeed_toi a b c d e) (refNeed_toi a b c d e) w
                    · by_cases h28 : o = 28
                      · subst h28
                        exact walk_need 28 a b c d e _ _ _ _ _ _ _ (guardNeed_cal a b c d e) (refNeed_cal a b c d e) w
                      · by_cases h31 : o = 31
                        · subst h31
                          exact walk_need 31 a b c d e _ _ _ _ _ _ _ (guardNeed_pan a b c d e) (refNeed_pan a b c d e) w
                        · exact walk_need o a b c d e _ _ _ _ _ _ _ (guardNeed_els o a b c d e (by simpa using h7) (by simpa using h11) (by simpa using h13) (by simpa using h14) (by simpa using h15) (by simpa using h16) (by simpa using h17) (by simpa using h19) (by simpa using h23) (by simpa using h20) (by simpa using h28) (by simpa using h31)) (refNeed_els o a b c d e (by simpa using h7) (by simpa using h11) (by simpa using h13) (by simpa using h14) (by simpa using h15) (by simpa using h16) (by simpa using h17) (by simpa using h19) (by simpa using h23) (by simpa using h20) (by simpa using h28) (by simpa using h31)) w
end Go.Proofs.Ytniepfpjklccmad
