/- The document's word on a node's kids: may. Conditions: the node has as many kids as it may have. -/
import Derived.Test.YtkpejdkffkhekaaGreatDoorPgD
set_option maxRecDepth 100000
namespace Go.Proofs.YtkpejdkffkhekaaGreatDoor
open Go.ChangeShapes Go.WideShapes Go.ChangeAt Go.RowKit
def MayC (x : ND) (v : Value) (i : Nat) (w : World) : Prop :=
  Calls Tryz.prog 29 #[.agg #[.int .i64 x.kind, .string x.text, .string x.typ, .int .i64 x.num, v], .int .i64 (i : Int)] w fun e w' => e = .returned (.string ⟨(mayL x i).toArray⟩) ∧ Below w.heap.size w w'
set_option maxHeartbeats 8000000 in
theorem may_plain {x : ND} {A4 : Option Addr} {c4 i : Nat} {w : World} (h : x.kind = 1 ∨ x.kind = 5 ∨ x.kind = 9 ∨ x.kind = 15 ∨ x.kind = 7 ∨ x.kind = 26 ∨ x.kind = 8 ∨ x.kind = 27 ∨ x.kind = 29 ∨ x.kind = 14 ∨ x.kind = 28 ∨ x.kind = 32) : MayC x (.slice A4 x.kids.length c4) i w := by
  obtain ⟨kd, tx, ty, nm, ks⟩ := x
  unfold MayC
  generalize hres : mayL _ i = R
  unfold mayL at hres
  simp only at h hres ⊢
  generalize ks.length = n at *
  have HRE := Lib.hid hres
  clear hres
  rcases h with rfl | rfl | rfl | rfl | rfl | rfl | rfl | rfl | rfl | rfl | rfl | rfl
  all_goals (
    have hres := HRE.out
    simp only [Int.reduceEq, if_true, if_false, or_self, or_true, true_or] at hres
    clear HRE
    have HRE := Lib.hid hres
    clear hres
    go_enter Tryz.func29, Tryz.ntmps29
    go_wp2_with fail
    go_ret
    exact ⟨by rw [← HRE.out]; rfl, al _⟩)
set_option maxHeartbeats 8000000 in
theorem may_func {x : ND} {A4 : Option Addr} {c4 i : Nat} {w : World} (h : x.kind = 2 ∨ x.kind = 33) (hn : 0 ≤ x.num ∧ x.num ≤ 4) (hi : i < 8) : MayC x (.slice A4 x.kids.length c4) i w := by
  obtain ⟨kd, tx, ty, nm, ks⟩ := x
  unfold MayC
  generalize hres : mayL _ i = R
  unfold mayL at hres
  simp only at h hn hres ⊢
  generalize ks.length = n at *
  have HRE := Lib.hid hres
  obtain ⟨m, rfl⟩ : ∃ m : Nat, nm = (m : Int) := ⟨nm.toNat, by omega⟩
  have hd : ∃ d : Int, (i : Int) - (m : Int) = d ∧ -4 ≤ d ∧ d ≤ 7 := ⟨_, rfl, by omega, by omega⟩
  obtain ⟨d, hd, hd1, hd2⟩ := hd
  have hw : wrap64 ((i : Int) - (m : Int)) = d := by rw [hd]; unfold RowKit.wrap64; omega
  have HDD := Lib.hid hd
  clear hres hd hn hi
  rcases h with rfl | rfl
  all_goals (
    have hres := HRE.out
    simp only [Int.reduceEq, if_true, if_false, or_self, or_true, true_or] at hres
    clear HRE
    by_cases h0 : d = 0
    · rw [if_pos (by have := HDD.out; omega)] at hres
      have HRE := Lib.hid hres
      clear hres
      have b0 : (d == 0) = true := by simpa using h0
      clear h0
      go_enter Tryz.func29, Tryz.ntmps29
      go_wp2_with fail
      go_ret
      exact ⟨by rw [← HRE.out]; rfl, al _⟩
    · rw [if_neg (by have := HDD.out; omega)] at hres
      have b0 : (d == 0) = false := by simpa using h0
      by_cases h1 : d = 1
      · rw [if_pos (by have := HDD.out; omega)] at hres
        have HRE := Lib.hid hres
        clear hres
        have b1 : (d == 1) = true := by simpa using h1
        clear h0 h1
        go_enter Tryz.func29, Tryz.ntmps29
        go_wp2_with fail
        go_ret
        exact ⟨by rw [← HRE.out]; rfl, al _⟩
      · rw [if_neg (by have := HDD.out; omega)] at hres
        have HRE := Lib.hid hres
        clear hres
        have b1 : (d == 1) = false := by simpa using h1
        clear h0 h1
        go_enter Tryz.func29, Tryz.ntmps29
        go_wp2_with fail
        go_ret
        exact ⟨by rw [← HRE.out]; rfl, al _⟩)
set_option maxHeartbeats 8000000 in
theorem may_slice {x : ND} {A4 : Option Addr} {c4 i : Nat} {w : World} (h : x.kind = 30) : MayC x (.slice A4 x.kids.length c4) i w := by
  obtain ⟨kd, tx, ty, nm, ks⟩ := x
  unfold MayC
  generalize hres : mayL _ i = R
  unfold mayL at hres
  simp only at h hres ⊢
  generalize ks.length = n at *
  subst h
  simp only [Int.reduceEq, if_true, if_false, or_self] at hres
  by_cases h0 : 0 < (i : Int)
  · rw [if_neg (by omega)] at hres
    have HRE := Lib.hid hres
    clear hres
    go_enter Tryz.func29, Tryz.ntmps29
    go_wp2_with fail
    go_ret
    exact ⟨by rw [← HRE.out]; rfl, al _⟩
  · rw [if_pos (by omega)] at hres
    have HRE := Lib.hid hres
    clear hres
    go_enter Tryz.func29, Tryz.ntmps29
    go_wp2_with fail
    go_ret
    exact ⟨by rw [← HRE.out]; rfl, al _⟩
set_option maxHeartbeats 8000000 in
theorem may_for {x : ND} {A4 : Option Addr} {c4 i : Nat} {w : World} (h : x.kind = 11) (hn : 0 < x.kids.length ∧ x.kids.length < 3) : MayC x (.slice A4 x.kids.length c4) i w := by
  obtain ⟨kd, tx, ty, nm, ks⟩ := x
  unfold MayC
  generalize hres : mayL _ i = R
  unfold mayL at hres
  simp only at h hn hres ⊢
  generalize ks.length = n at *
  subst h
  simp only [Int.reduceEq, if_true, if_false, or_self] at hres
  obtain ⟨m, rfl⟩ : ∃ m, n = m + 1 := ⟨n - 1, by omega⟩
  have hw : wrap64 (((m + 1 : Nat) : Int) - 1) = (m : Int) := by unfold RowKit.wrap64; omega
  by_cases h0 : i = m
  · rw [if_pos (by omega)] at hres
    have HRE := Lib.hid hres
    have b0 : ((i : Int) == (m : Int)) = true := by rw [h0]; exact beq_self_eq_true _
    clear hres h0
    go_enter Tryz.func29, Tryz.ntmps29
    go_wp2_with fail
    go_ret
    exact ⟨by rw [← HRE.out]; rfl, al _⟩
  · rw [if_neg (by omega)] at hres
    have HRE := Lib.hid hres
    have b0 : ((i : Int) == (m : Int)) = false := by rw [beq_eq_false_iff_ne]; omega
    clear hres h0
    go_enter Tryz.func29, Tryz.ntmps29
    go_wp2_with fail
    go_ret
    exact ⟨by rw [← HRE.out]; rfl, al _⟩
theorem cntN_kn' {n : ND} (h : cntN n = true) : known n.kind = true := by
  cases hk : known n.kind with
  | true => rfl
  | false => rw [cntN_known hk] at h; cases h
set_option maxHeartbeats 8000000 in
theorem may_if {x : ND} {A4 : Option Addr} {c4 i : Nat} {w : World} (h : x.kind = 10) (hi : i < 3) : MayC x (.slice A4 x.kids.length c4) i w := by
  obtain ⟨kd, tx, ty, nm, ks⟩ := x
  unfold MayC
  generalize hres : mayL _ i = R
  unfold mayL at hres
  simp only at h hres ⊢
  generalize ks.length = n at *
  subst h
  simp only [Int.reduceEq, if_true, if_false, or_self] at hres
  have hi3 : i = 0 ∨ i = 1 ∨ i = 2 := by omega
  clear hi
  have HRE := Lib.hid hres
  clear hres
  rcases hi3 with rfl | rfl | rfl
  all_goals (
    have hres := HRE.out
    simp only [Nat.reduceEqDiff, if_true, if_false] at hres
    clear HRE
    have HRE := Lib.hid hres
    clear hres
    go_enter Tryz.func29, Tryz.ntmps29
    go_wp2_with fail
    go_ret
    refine ⟨?_, ?_⟩
    · rw [← HRE.out]; rfl
    · exact sq (al _) (al _))
theorem may_any {x : ND} {A4 : Option Addr} {c4 i : Nat} {w : World} (h : cntN x = true) (hi : i < x.kids.length) : MayC x (.slice A4 x.kids.length c4) i w := by
  have hk := kind_cases x.kind (cntN_kn' h)
  unfold cntN at h
  by_cases h1 : x.kind = 1 ∨ x.kind = 5 ∨ x.kind = 9 ∨ x.kind = 15 ∨ x.kind = 7 ∨ x.kind = 26 ∨ x.kind = 8 ∨ x.kind = 27 ∨ x.kind = 29 ∨ x.kind = 14 ∨ x.kind = 28 ∨ x.kind = 32
  · exact may_plain h1
  · by_cases h2 : x.kind = 2 ∨ x.kind = 33
    · rw [if_neg (by omega), if_pos h2] at h
      simp only [decide_eq_true_eq] at h
      exact may_func h2 ⟨h.1, h.2.1⟩ (by omega)
    · by_cases h3 : x.kind = 30
      · exact may_slice h3
      · by_cases h4 : x.kind = 11
        · rw [h4] at h
          simp at h
          exact may_for h4 (by omega)
        · by_cases h5 : x.kind = 10
          · rw [h5] at h
            simp at h
            exact may_if h5 (by omega)
          · exfalso
            by_cases h6 : x.kind = 23
            · rw [if_neg (by omega), if_neg (by omega), if_neg (by omega), if_neg (by omega), if_neg (by omega), if_neg (by omega), if_neg (by omega), if_neg (by omega), if_neg (by omega), if_pos h6] at h
              simp only [decide_eq_true_eq] at h
              omega
            · rw [if_neg (by omega), if_neg (by omega), if_neg (by omega), if_neg (by omega), if_neg (by omega), if_neg (by omega), if_neg (by omega), if_neg (by omega), if_neg (by omega), if_neg (by omega), if_pos (by omega)] at h
              simp only [decide_eq_true_eq] at h
              omega
end Go.Proofs.YtkpejdkffkhekaaGreatDoor
