/- The document's word on a node's kids: counts. Conditions: none. -/
import Derived.Test.YtkpejdkffkhekaaGreatDoorPgDa
set_option maxRecDepth 100000
namespace Go.Proofs.YtkpejdkffkhekaaGreatDoor
open Go.ChangeShapes Go.WideShapes Go.ChangeAt Go.RowKit
set_option maxHeartbeats 8000000 in
theorem counts_bool {x : ND} {A4 : Option Addr} {c4 : Nat} {w : World} (h : x.kind = 23) : CtC x (.slice A4 x.kids.length c4) w := by
  obtain ⟨kd, tx, ty, nm, ks⟩ := x
  unfold CtC
  generalize hres : cntN _ = R
  unfold cntN at hres
  simp only at h hres ⊢
  generalize ks.length = n at *
  subst h
  simp only [Int.reduceEq, if_true, if_false, or_self] at hres
  have HRE := Lib.hid hres
  clear hres
  by_cases h0 : n = 0
  · by_cases h1 : nm = 0
    · subst h0 h1
      go_enter Tryz.func28, Tryz.ntmps28
      go_wp2_with fail
      go_ret
      exact ⟨by rw [← HRE.out]; rfl, al _⟩
    · by_cases h2 : nm = 1
      · subst h0 h2
        go_enter Tryz.func28, Tryz.ntmps28
        go_wp2_with fail
        go_ret
        exact ⟨by rw [← HRE.out]; rfl, al _⟩
      · have hres := HRE.out
        rw [decide_eq_false (by omega)] at hres
        clear HRE
        have HRE := Lib.hid hres
        have hx : ¬ nm < 2 ∨ ¬ 0 ≤ nm := by omega
        clear hres
        subst h0
        generalize hpp : nm * nm = pp
        have HX := Lib.hid hx
        have HPP := Lib.hid hpp
        clear hx hpp h1 h2
        go_enter Tryz.func28, Tryz.ntmps28
        go_wp2_with fail
        all_goals (
          go_ret
          refine ⟨?_, al _⟩
          rw [← HRE.out]
          first
            | rfl
            | (exfalso; have := HX.out; omega)
            | (refine congrArg (fun b => Ending.returned (Value.bool b)) (?_ : _ = _); exact decide_eq_false (by have := HX.out; omega)))
  · have hres := HRE.out
    rw [decide_eq_false (by omega)] at hres
    clear HRE
    have HRE := Lib.hid hres
    have hn : ((n : Int) == 0) = false := by simp; omega
    clear hres h0
    go_enter Tryz.func28, Tryz.ntmps28
    go_wp2_with fail
    go_ret
    exact ⟨by rw [← HRE.out]; rfl, al _⟩
set_option maxHeartbeats 8000000 in
theorem counts_other {x : ND} {A4 : Option Addr} {n4 c4 : Nat} {w : World} (h : known x.kind = false) : CtC x (.slice A4 n4 c4) w := by
  have HC := Lib.hid (cntN_known h)
  obtain ⟨kd, tx, ty, nm, ks⟩ := x
  unfold known at h
  unfold CtC
  simp only [decide_eq_false_iff_not] at h ⊢
  rw [HC.out]
  have n1 : (kd == 1) = false := by simp; omega
  have n5 : (kd == 5) = false := by simp; omega
  have n32 : (kd == 32) = false := by simp; omega
  have n2 : (kd == 2) = false := by simp; omega
  have n33 : (kd == 33) = false := by simp; omega
  have n7 : (kd == 7) = false := by simp; omega
  have n26 : (kd == 26) = false := by simp; omega
  have n9 : (kd == 9) = false := by simp; omega
  have n15 : (kd == 15) = false := by simp; omega
  have n8 : (kd == 8) = false := by simp; omega
  have n27 : (kd == 27) = false := by simp; omega
  have n29 : (kd == 29) = false := by simp; omega
  have n10 : (kd == 10) = false := by simp; omega
  have n11 : (kd == 11) = false := by simp; omega
  have n14 : (kd == 14) = false := by simp; omega
  have n28 : (kd == 28) = false := by simp; omega
  have n30 : (kd == 30) = false := by simp; omega
  have n23 : (kd == 23) = false := by simp; omega
  have n3 : (kd == 3) = false := by simp; omega
  have n4 : (kd == 4) = false := by simp; omega
  have n6 : (kd == 6) = false := by simp; omega
  have n12 : (kd == 12) = false := by simp; omega
  have n13 : (kd == 13) = false := by simp; omega
  have n21 : (kd == 21) = false := by simp; omega
  have n22 : (kd == 22) = false := by simp; omega
  have n24 : (kd == 24) = false := by simp; omega
  have n25 : (kd == 25) = false := by simp; omega
  have n31 : (kd == 31) = false := by simp; omega
  clear h
  go_enter Tryz.func28, Tryz.ntmps28
  go_wp2_with fail
  go_ret
  exact ⟨rfl, al _⟩
theorem counts_any {x : ND} {A4 : Option Addr} {c4 : Nat} {w : World} (hl : x.kids.length * 8 ≤ 140737488351232) : CtC x (.slice A4 x.kids.length c4) w := by
  cases hk : known x.kind with
  | false => exact counts_other hk
  | true =>
    have := kind_cases x.kind hk
    by_cases h : x.kind = 23
    · exact counts_bool h
    · by_cases h2 : x.kind = 1 ∨ x.kind = 5 ∨ x.kind = 32 ∨ x.kind = 2 ∨ x.kind = 33 ∨ x.kind = 7 ∨ x.kind = 26 ∨ x.kind = 9 ∨ x.kind = 15 ∨ x.kind = 8 ∨ x.kind = 27 ∨ x.kind = 29 ∨ x.kind = 10 ∨ x.kind = 11 ∨ x.kind = 14 ∨ x.kind = 28 ∨ x.kind = 30
      · exact counts_one hl h2
      · exact counts_two hl (by omega)
end Go.Proofs.YtkpejdkffkhekaaGreatDoor
