/- 'fault.Operation' and the document's Operation: what they answer. Conditions: none. -/
import Derived.Test.YtniepfpjklccmaaFaultA
import Derived.Test.YtniepfpjklccmaaWordDo
import Derived.Handy
namespace Go.Proofs.Ytniepfpjklccmaa
open Go.ChangeShapes Go.WideShapes Go.ChangeAt Go.RowKit

/-- The error of an operation by b. -/
def doE (op b : Int) : Int := if op == 4 || op == 5 then (if b == 0 then 20 else 0) else if op == 6 || op == 7 then (if b < 0 then 21 else 0) else if decide (1 ≤ op) && decide (op ≤ 10) then 0 else 13
def SomeDo (v : Int) (w : World) (e : Ending) (w' : World) : Prop := ∃ x : Int, e = .returned (.tuple #[.int .i64 x, .int .i64 v]) ∧ w' = w
theorem wordDo_some (op b : Int) (w : World) : Calls Try.prog 22 #[.int .i64 op, .int .i64 0, .int .i64 b] w (SomeDo (doE op b) w) := by
  by_cases ho : 1 ≤ op ∧ op ≤ 10
  · have ho : op = 1 ∨ op = 2 ∨ op = 3 ∨ op = 4 ∨ op = 5 ∨ op = 6 ∨ op = 7 ∨ op = 8 ∨ op = 9 ∨ op = 10 := by omega
    rcases ho with rfl | rfl | rfl | rfl | rfl | rfl | rfl | rfl | rfl | rfl
    · exact (wordDo_add 0 b w).mono fun e w' h => ⟨_, h.1, h.2⟩
    · exact (wordDo_sub 0 b w).mono fun e w' h => ⟨_, h.1, h.2⟩
    · exact (wordDo_mul 0 b w).mono fun e w' h => ⟨_, h.1, h.2⟩
    · by_cases hb : b = 0
      · subst hb
        exact (wordDo_div0 4 0 (.inl rfl) w).mono fun e w' h => ⟨_, h.1, h.2⟩
      · have e : doE 4 b = 0 := by simp [doE, hb]
        rw [e]
        exact (wordDo_div 0 b (by simpa using hb) hb w).mono fun e w' h => ⟨_, h.1, h.2⟩
    · by_cases hb : b = 0
      · subst hb
        exact (wordDo_div0 5 0 (.inr rfl) w).mono fun e w' h => ⟨_, h.1, h.2⟩
      · have e : doE 5 b = 0 := by simp [doE, hb]
        rw [e]
        exact (wordDo_rem 0 b (by simpa using hb) hb w).mono fun e w' h => ⟨_, h.1, h.2⟩
    · by_cases hb : b < 0
      · have e : doE 6 b = 21 := by simp [doE, hb]
        rw [e]
        exact (wordDo_neg 6 0 b (.inl rfl) hb w).mono fun e w' h => ⟨_, h.1, h.2⟩
      · have e : doE 6 b = 0 := by simp [doE, hb]
        rw [e]
        exact (wordDo_shl 0 b (by omega) w).mono fun e w' h => ⟨_, h.1, h.2⟩
    · by_cases hb : b < 0
      · have e : doE 7 b = 21 := by simp [doE, hb]
        rw [e]
        exact (wordDo_neg 7 0 b (.inr rfl) hb w).mono fun e w' h => ⟨_, h.1, h.2⟩
      · have e : doE 7 b = 0 := by simp [doE, hb]
        rw [e]
        exact (wordDo_shr 0 b (by omega) w).mono fun e w' h => ⟨_, h.1, h.2⟩
    · exact (wordDo_and 0 b w).mono fun e w' h => ⟨_, h.1, h.2⟩
    · exact (wordDo_or 0 b w).mono fun e w' h => ⟨_, h.1, h.2⟩
    · exact (wordDo_xor 0 b w).mono fun e w' h => ⟨_, h.1, h.2⟩
  · have hE : doE op b = 13 := by
      unfold doE
      rw [show (op == 4) = false from by simp; omega, show (op == 5) = false from by simp; omega, show (op == 6) = false from by simp; omega, show (op == 7) = false from by simp; omega]
      have : (decide (1 ≤ op) && decide (op ≤ 10)) = false := by
        rw [Bool.and_eq_false_iff]
        by_cases h : 1 ≤ op
        · right; simp; omega
        · left; simp; omega
      simp [this]
    rw [hE]
    exact (wordDo_kind op 0 b (by omega) w).mono fun e w' h => ⟨_, h.1, h.2⟩
/-- The kind of the Fault of an operation by b. -/
def opK (op b : Int) : Int := if (op == 4 || op == 5) && b == 0 then 2 else if (op == 6 || op == 7) && decide (b < 0) then 3 else 0
theorem doE_opK (op b : Int) : (doE op b = 20 ∧ opK op b = 2) ∨ (doE op b = 21 ∧ opK op b = 3) ∨ ((doE op b = 0 ∨ doE op b = 13) ∧ opK op b = 0) := by
  unfold doE opK
  by_cases h4 : op = 4
  · subst h4; by_cases hb : b = 0 <;> simp [hb]
  · by_cases h5 : op = 5
    · subst h5; by_cases hb : b = 0 <;> simp [hb]
    · by_cases h6 : op = 6
      · subst h6; by_cases hb : b < 0 <;> simp [hb]
      · by_cases h7 : op = 7
        · subst h7; by_cases hb : b < 0 <;> simp [hb]
        · simp only [beq_iff_eq, h4, h5, h6, h7, if_false, Bool.or_eq_true, or_self, Bool.and_eq_true, false_and]
          split <;> simp
theorem faultOperation_any (op b : Int) (w : World) : Calls Try.prog 30 #[.int .i64 op, .int .i64 b] w fun e w' => e = .returned (f4 (opK op b) 0 0 0) ∧ Below w.heap.size w w' := by
  rcases doE_opK op b with ⟨h1, h2⟩ | ⟨h1, h2⟩ | ⟨h1, h2⟩
  · rw [h2]
    have H1 := Lib.hid h1
    clear h1 h2
    go_enter Try.func30, Try.ntmps30
    go_wp2_with fail
    refine (wordDo_some _ _ _).mono ?_
    rintro e w1 ⟨x, rfl, rfl⟩
    rw [H1.out]
    go_wp2
    exact bodyPost_ret (v := f4 2 0 0 0) (by simp [results, Try.results30, go_sem, f4]) rfl ⟨rfl, by go_grown⟩
  · rw [h2]
    have H1 := Lib.hid h1
    clear h1 h2
    go_enter Try.func30, Try.ntmps30
    go_wp2_with fail
    refine (wordDo_some _ _ _).mono ?_
    rintro e w1 ⟨x, rfl, rfl⟩
    rw [H1.out]
    go_wp2
    exact bodyPost_ret (v := f4 3 0 0 0) (by simp [results, Try.results30, go_sem, f4]) rfl ⟨rfl, by go_grown⟩
  · rw [h2]
    clear h2
    rcases h1 with h1 | h1
    all_goals
      have H1 := Lib.hid h1
      clear h1
      go_enter Try.func30, Try.ntmps30
      go_wp2_with fail
      refine (wordDo_some _ _ _).mono ?_
      rintro e w1 ⟨x, rfl, rfl⟩
      rw [H1.out]
      go_wp2
      exact bodyPost_ret (v := f4 0 0 0 0) (by simp [results, Try.results30, go_sem, f4]) rfl ⟨rfl, by go_grown⟩
theorem opK_def (op b : Int) : (op = 4 ∨ op = 5) ∧ b = 0 ∧ opK op b = 2 ∨ (op = 6 ∨ op = 7) ∧ b < 0 ∧ opK op b = 3 ∨ (¬ op = 4 ∧ ¬ op = 5 ∨ ¬ b = 0) ∧ (¬ op = 6 ∧ ¬ op = 7 ∨ 0 ≤ b) ∧ opK op b = 0 := by
  unfold opK
  by_cases h4 : op = 4
  · subst h4; by_cases hb : b = 0 <;> simp [hb]
  · by_cases h5 : op = 5
    · subst h5; by_cases hb : b = 0 <;> simp [hb]
    · by_cases h6 : op = 6
      · subst h6; by_cases hb : b < 0 <;> simp [hb]; omega
      · by_cases h7 : op = 7
        · subst h7; by_cases hb : b < 0 <;> simp [hb]; omega
        · simp [h4, h5, h6, h7]
theorem refOperation_any (op b : Int) (w : World) : Calls Try.prog 31 #[.int .i64 op, .int .i64 b] w fun e w' => e = .returned (f4 (opK op b) 0 0 0) ∧ Below w.heap.size w w' := by
  by_cases h : (op = 4 ∨ op = 5) ∧ b = 0
  · obtain ⟨ho, rfl⟩ := h
    rcases ho with rfl | rfl
    all_goals
      go_enter Try.func31, Try.ntmps31
      go_wp2
      exact bodyPost_ret (v := f4 2 0 0 0) (by simp [results, Try.results31, go_sem, f4]) rfl ⟨rfl, by go_grown⟩
  · by_cases h2 : (op = 6 ∨ op = 7) ∧ b < 0
    · obtain ⟨ho, hb⟩ := h2
      have e : ∀ o, o = 6 ∨ o = 7 → opK o b = 3 := by rintro o (rfl | rfl) <;> simp [opK, hb]
      rw [e op ho]
      clear e h
      rcases ho with rfl | rfl
      all_goals
        go_enter Try.func31, Try.ntmps31
        go_wp2
        exact bodyPost_ret (v := f4 3 0 0 0) (by simp [results, Try.results31, go_sem, f4]) rfl ⟨rfl, by go_grown⟩
    · have e : opK op b = 0 := by
        rcases opK_def op b with ⟨a1, a2, _⟩ | ⟨a1, a2, _⟩ | ⟨_, _, a3⟩
        · exact absurd ⟨a1, a2⟩ h
        · exact absurd ⟨a1, a2⟩ h2
        · exact a3
      rw [e]
      clear e
      by_cases q : op = 4 ∨ op = 5
      · have hb : (b == 0) = false := by simp; exact fun x => h ⟨q, x⟩
        have hb0 : ¬ b = 0 := fun x => h ⟨q, x⟩
        clear h h2
        rcases q with rfl | rfl
        all_goals
          go_enter Try.func31, Try.ntmps31
          go_wp2
          exact bodyPost_ret (v := f4 0 0 0 0) (by simp [results, Try.results31, go_sem, f4]) rfl ⟨rfl, by go_grown⟩
      · by_cases q2 : op = 6 ∨ op = 7
        · have hb : 0 ≤ b := by
            rcases Int.lt_or_le b 0 with x | x
            · exact absurd ⟨q2, x⟩ h2
            · exact x
          clear h h2 q
          rcases q2 with rfl | rfl
          all_goals
            go_enter Try.func31, Try.ntmps31
            go_wp2
            exact bodyPost_ret (v := f4 0 0 0 0) (by simp [results, Try.results31, go_sem, f4]) rfl ⟨rfl, by go_grown⟩
        · have e4 : (op == 4) = false := by simp; omega
          have e5 : (op == 5) = false := by simp; omega
          have e6 : (op == 6) = false := by simp; omega
          have e7 : (op == 7) = false := by simp; omega
          clear h h2 q q2
          go_enter Try.func31, Try.ntmps31
          go_wp2
          exact bodyPost_ret (v := f4 0 0 0 0) (by simp [results, Try.results31, go_sem, f4]) rfl ⟨rfl, by go_grown⟩
end Go.Proofs.Ytniepfpjklccmaa
