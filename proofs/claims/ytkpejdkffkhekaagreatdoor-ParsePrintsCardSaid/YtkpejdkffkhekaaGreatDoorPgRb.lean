/- What the program asks of a node by itself: right, with calls. Conditions: the node is in a tree of the right shape. -/
import Derived.Test.YtkpejdkffkhekaaGreatDoorPgR
set_option maxRecDepth 100000
namespace Go.Proofs.YtkpejdkffkhekaaGreatDoor
open Go.ChangeShapes Go.WideShapes Go.ChangeAt Go.RowKit

set_option maxHeartbeats 4000000 in
theorem right_name {T : List ND} {A : Option Addr} {c : Nat} {x : ND} {v : Value} {w : World} (h : x.kind = 7 ∨ x.kind = 25) : RgC T A c x v w := by
  obtain ⟨kd, tx, ty, nm, ks⟩ := x
  unfold RgC
  generalize hres : rgP T _ = R
  unfold rgP emB at hres
  simp only at h hres ⊢
  have HRE := Lib.hid hres
  clear hres
  rcases h with rfl | rfl
  all_goals (
    have hres := HRE.out
    simp only [Int.reduceEq, if_true, if_false, or_self, or_true, true_or] at hres
    clear HRE
    have HRE := Lib.hid hres
    clear hres
    go_enter Tryz.func23, Tryz.ntmps23
    go_wp2_with fail
    refine Calls.mono (pnamed_any _ _) ?_
    rintro e w1 ⟨rfl, hb⟩
    have g2 := hb.cell (p := ⟨w.heap.size, 2, none⟩) (by simp)
    have g3 := hb.cell (p := ⟨w.heap.size, 3, none⟩) (by simp)
    simp [go_sem] at g2 g3
    have HB := Lib.hid (show Below w.heap.size w w1 from sq (al _) hb)
    clear hb
    generalize oneB 1 tx.data.toList = b at *
    cases b
    all_goals go_wp2_with fail)
  all_goals (
    go_ret
    refine ⟨?_, HB.out⟩
    rw [← HRE.out]
    first
      | (simp [*]; done)
      | (simp [*]; rfl))
set_option maxHeartbeats 4000000 in
theorem right_func {T : List ND} {A : Option Addr} {c : Nat} {x : ND} {v : Value} {w : World} (h : x.kind = 2) : RgC T A c x v w := by
  obtain ⟨kd, tx, ty, nm, ks⟩ := x
  unfold RgC
  generalize hres : rgP T _ = R
  unfold rgP emB at hres
  simp only at h hres ⊢
  subst h
  simp only [if_true] at hres
  have HRE := Lib.hid hres
  clear hres
  go_enter Tryz.func23, Tryz.ntmps23
  go_wp2_with fail
  refine Calls.mono (pnamed_any _ _) ?_
  rintro e w1 ⟨rfl, hb⟩
  have g2 := hb.cell (p := ⟨w.heap.size, 2, none⟩) (by simp)
  simp [go_sem] at g2
  have HB := Lib.hid (show Below w.heap.size w w1 from sq (al _) hb)
  clear hb
  generalize oneB 1 tx.data.toList = b at *
  cases b
  all_goals go_wp2_with fail
  all_goals (
    go_ret
    refine ⟨?_, HB.out⟩
    rw [← HRE.out]
    first
      | (simp [*]; done)
      | (simp [*]; rfl))
set_option maxHeartbeats 4000000 in
theorem right_typed {T : List ND} {A : Option Addr} {c : Nat} {x : ND} {v : Value} {w : World} (h : x.kind = 3 ∨ x.kind = 6) (ht : x.typ.size ≤ 140737488351232) : RgC T A c x v w := by
  obtain ⟨kd, tx, ty, nm, ks⟩ := x
  unfold RgC
  generalize hres : rgP T _ = R
  unfold rgP emB at hres
  simp only at h ht hres ⊢
  have HRE := Lib.hid hres
  clear hres
  rcases h with rfl | rfl
  all_goals (
    have hres := HRE.out
    simp only [Int.reduceEq, if_true, if_false, or_self, or_true, true_or] at hres
    clear HRE
    have HRE := Lib.hid hres
    clear hres
    go_enter Tryz.func23, Tryz.ntmps23
    go_wp2_with fail
    refine Calls.mono (pnamed_any _ _) ?_
    rintro e w1 ⟨rfl, hb⟩
    have g2 := hb.cell (p := ⟨w.heap.size, 2, none⟩) (by simp)
    have g3 := hb.cell (p := ⟨w.heap.size, 3, none⟩) (by simp)
    simp [go_sem] at g2 g3
    have HB := Lib.hid (show Below w.heap.size w w1 from sq (al _) hb)
    have hlt : w.heap.size < w1.heap.size := by have := hb.size; simp at this; omega
    clear hb
    generalize oneB 1 tx.data.toList = b at *
    cases b)
  all_goals first
    | (go_wp2_with fail
       go_ret
       exact ⟨by rw [← HRE.out]; rfl, HB.out⟩)
    | (go_wp2_with fail
       refine Calls.mono (typesValid_any _ _ ht) ?_
       rintro e w2 ⟨rfl, hb⟩
       have g5 := (hb.cell (p := ⟨w.heap.size, 3, none⟩) hlt).trans g3
       have HB2 := Lib.hid (sq HB.out hb)
       clear hb g2 g3
       generalize tyOk ty = b at *
       cases b
       all_goals go_wp2_with fail
       all_goals (
         go_ret
         refine ⟨?_, HB2.out⟩
         rw [← HRE.out]
         first
           | (simp [*]; done)
           | (simp [*]; rfl)))
set_option maxHeartbeats 4000000 in
theorem right_level {T : List ND} {A : Option Addr} {c : Nat} {x : ND} {v : Value} {w : World} (h : x.kind = 27) : RgC T A c x v w := by
  obtain ⟨kd, tx, ty, nm, ks⟩ := x
  unfold RgC
  generalize hres : rgP T _ = R
  unfold rgP emB at hres
  simp only at h hres ⊢
  subst h
  simp only [Int.reduceEq, if_true, if_false, or_self] at hres
  have HRE := Lib.hid hres
  clear hres
  go_enter Tryz.func23, Tryz.ntmps23
  go_wp2_with fail
  refine Calls.mono (level_any _ _) ?_
  rintro e w1 ⟨rfl, rfl⟩
  generalize lvN tx.toList = n at *
  by_cases hn : 0 < (n : Int)
  · have hres := HRE.out
    rw [decide_eq_true (show 0 < n by omega)] at hres
    clear HRE
    have HRE := Lib.hid hres
    clear hres
    go_wp2_with fail
    all_goals (
      go_ret
      refine ⟨?_, al _⟩
      rw [← HRE.out]
      first
        | (simp [*]; done)
        | (simp [*]; rfl))
  · have hres := HRE.out
    rw [decide_eq_false (show ¬ 0 < n by omega)] at hres
    clear HRE
    have HRE := Lib.hid hres
    clear hres
    go_wp2_with fail
    all_goals (
      go_ret
      refine ⟨?_, al _⟩
      rw [← HRE.out]
      first
        | (simp [*]; done)
        | (simp [*]; rfl))
set_option maxHeartbeats 4000000 in
theorem right_text {T : List ND} {A : Option Addr} {c : Nat} {x : ND} {v : Value} {w : World} (h : x.kind = 22) (ht : x.text.size ≤ 140737488351232) : RgC T A c x v w := by
  obtain ⟨kd, tx, ty, nm, ks⟩ := x
  unfold RgC
  generalize hres : rgP T _ = R
  unfold rgP emB at hres
  simp only at h ht hres ⊢
  subst h
  simp only [Int.reduceEq, if_true, if_false, or_self] at hres
  obtain ⟨qa, qe, hq, hqe⟩ := quoV_ok tx
  have HRE := Lib.hid hres
  have HQE := Lib.hid hqe
  clear hres hqe
  go_enter Tryz.func23, Tryz.ntmps23
  go_wp2_with fail
  refine Calls.mono (scanQuote_any _ ht _) ?_
  rw [hq]
  rintro e w1 ⟨rfl, hb⟩
  have g2 := hb.cell (p := ⟨w.heap.size, 2, none⟩) (by simp)
  have g3 := hb.cell (p := ⟨w.heap.size, 3, none⟩) (by simp)
  simp [go_sem] at g2 g3
  have HB := Lib.hid (show Below w.heap.size w w1 from sq (al _) hb)
  clear hb hq
  by_cases he : qe = 0
  · have hres := HRE.out
    rw [HQE.out, decide_eq_true he] at hres
    clear HRE
    have HRE := Lib.hid hres
    clear hres
    subst he
    go_wp2_with fail
    all_goals (
      go_ret
      refine ⟨?_, HB.out⟩
      rw [← HRE.out]
      first
        | (simp [*]; done)
        | (simp [*]; rfl))
  · have hres := HRE.out
    rw [HQE.out, decide_eq_false he] at hres
    clear HRE
    have HRE := Lib.hid hres
    clear hres
    have hn : (qe == 0) = false := by simpa using he
    clear he
    go_wp2_with fail
    go_ret
    exact ⟨by rw [← HRE.out]; rfl, HB.out⟩
end Go.Proofs.YtkpejdkffkhekaaGreatDoor
