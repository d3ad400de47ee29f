/- The document's word on a node's texts: wantsOf, textRight. Conditions: none. -/
import Derived.Test.YtkpejdkffkhekaaGreatDoorPgF
import Derived.Test.YtkpejdkffkhekaaGreatDoorPgR
import Derived.Test.YtkpejdkffkhekaaGreatDoorTyNil
set_option maxRecDepth 100000
namespace Go.Proofs.YtkpejdkffkhekaaGreatDoor
open Go.ChangeShapes Go.WideShapes Go.ChangeAt Go.RowKit
def wnt (k : Int) : UInt8 × UInt8 × UInt8 :=
  if k = 2 then (110, 45, 42) else if k = 33 then (45, 45, 42) else if k = 3 ∨ k = 6 then (110, 116, 45) else if k = 4 then (111, 115, 45)
  else if k = 7 ∨ k = 25 then (110, 45, 45) else if k = 21 then (45, 45, 100) else if k = 23 then (45, 45, 42) else if k = 22 then (113, 45, 45)
  else if k = 26 then (117, 45, 45) else if k = 27 then (98, 45, 45) else (45, 45, 45)
set_option maxHeartbeats 4000000 in
theorem wantsOf_any (k : Int) (w : World) : Calls Tryz.prog 18 #[.int .i64 k] w fun e w' => e = .returned (.string ⟨#[(wnt k).1, (wnt k).2.1, (wnt k).2.2]⟩) ∧ w' = w := by
  go_enter Tryz.func18, Tryz.ntmps18
  go_wp2_with fail
  all_goals (
    go_ret
    refine ⟨?_, rfl⟩
    unfold wnt)
  all_goals (
    simp only [beq_iff_eq, beq_eq_false_iff_ne, ne_eq] at *
    repeat' (first | rw [if_pos (by omega)] | rw [if_neg (by omega)])
    rfl)
def txR (b : UInt8) (s : ByteArray) : Bool :=
  if b = 110 then !emB s && nmB s.data.toList
  else if b = 111 then nmB s.data.toList
  else if b = 113 then quoB s
  else if b = 117 then s.toList == [45] || (s.toList == [33] || (s.toList == [42] || s.toList == [38]))
  else if b = 98 then decide (0 < lvN s.toList)
  else if b = 116 then tyOk s
  else if b = 115 then emB s || tyOk s
  else emB s
def TxC (b : UInt8) (s : ByteArray) (w : World) : Prop := Calls Tryz.prog 19 #[.int .u8 (b.toNat : Int), .string s] w fun e w' => e = .returned (.bool (txR b s)) ∧ Below w.heap.size w w'
def letter (b : UInt8) : Prop := b = 110 ∨ b = 111 ∨ b = 113 ∨ b = 117 ∨ b = 98 ∨ b = 116 ∨ b = 115 ∨ b = 45
theorem wnt_letter (k : Int) : letter (wnt k).1 ∧ letter (wnt k).2.1 := by
  unfold wnt letter
  repeat' split
  all_goals simp
set_option maxHeartbeats 4000000 in
theorem textRight_any (b : UInt8) (hb : letter b) (s : ByteArray) (hs : s.size ≤ 140737488351232) (w : World) : TxC b s w := by
  unfold TxC
  generalize hres : txR b s = R
  have HRE := Lib.hid hres
  clear hres
  have HS := Lib.hid hs
  clear hs
  rcases hb with rfl | rfl | rfl | rfl | rfl | rfl | rfl | rfl
  · have hres := HRE.out
    unfold txR emB at hres
    rw [if_pos rfl] at hres
    cases hte : s.toList.isEmpty with
    | true =>
      rw [hte] at hres
      have HRE := Lib.hid (show false = R from hres)
      clear hres
      show Calls Tryz.prog 19 #[.int .u8 110, .string s] w _
      go_enter Tryz.func19, Tryz.ntmps19
      go_wp2_with fail
      go_ret
      exact ⟨by rw [← HRE.out]; rfl, Below.refl _ _⟩
    | false =>
      rw [hte] at hres
      have HRE := Lib.hid (show nmB s.data.toList = R from hres)
      clear hres
      show Calls Tryz.prog 19 #[.int .u8 110, .string s] w _
      go_enter Tryz.func19, Tryz.ntmps19
      go_wp2_with fail
      refine Calls.mono (nameRight_any s HS.out _) ?_
      rintro e w1 ⟨rfl, hb⟩
      rw [HRE.out]
      have HB := Lib.hid hb
      clear hb
      go_wp2_with fail
      go_ret
      exact ⟨rfl, HB.out⟩
  · have HRE := Lib.hid (show nmB s.data.toList = R from HRE.out)
    show Calls Tryz.prog 19 #[.int .u8 111, .string s] w _
    go_enter Tryz.func19, Tryz.ntmps19
    go_wp2_with fail
    refine Calls.mono (nameRight_any s HS.out _) ?_
    rintro e w1 ⟨rfl, hb⟩
    rw [HRE.out]
    have HB := Lib.hid hb
    clear hb
    go_wp2_with fail
    go_ret
    exact ⟨rfl, HB.out⟩
  · have HRE := Lib.hid (show quoB s = R from HRE.out)
    obtain ⟨qa, qe, hq, hqe⟩ := quoV_ok s
    have HQE := Lib.hid hqe
    clear hqe
    show Calls Tryz.prog 19 #[.int .u8 113, .string s] w _
    go_enter Tryz.func19, Tryz.ntmps19
    go_wp2_with fail
    refine Calls.mono (refQuote_any _ HS.out _) ?_
    rw [hq]
    rintro e w1 ⟨rfl, n, rfl⟩
    have HB := Lib.hid (show Below w.heap.size w (w.drewN n) from dr (Below.refl _ _) n)
    clear hq
    go_wp2_with fail
    go_ret
    exact ⟨by rw [← HRE.out, HQE.out]; rfl, HB.out⟩
  · have HRE := Lib.hid (show (s.toList == [45] || (s.toList == [33] || (s.toList == [42] || s.toList == [38]))) = R from HRE.out)
    show Calls Tryz.prog 19 #[.int .u8 117, .string s] w _
    go_enter Tryz.func19, Tryz.ntmps19
    go_wp2_with fail
    all_goals (
      go_ret
      refine ⟨?_, Below.refl _ _⟩
      rw [← HRE.out]
      first
        | (simp [*]; done)
        | (refine congrArg (fun b => Ending.returned (Value.bool b)) (?_ : _ = _); simp only [Bool.or_assoc]))
  · have HRE := Lib.hid (show decide (0 < lvN s.toList) = R from HRE.out)
    show Calls Tryz.prog 19 #[.int .u8 98, .string s] w _
    go_enter Tryz.func19, Tryz.ntmps19
    go_wp2_with fail
    refine Calls.mono (binds_any s _) ?_
    rintro e w1 ⟨rfl, hb⟩
    have HB := Lib.hid hb
    clear hb
    generalize lvN s.toList = n at *
    go_wp2_with fail
    go_ret
    exact ⟨by rw [← HRE.out]; simp, HB.out⟩
  · have HRE := Lib.hid (show tyOk s = R from HRE.out)
    show Calls Tryz.prog 19 #[.int .u8 116, .string s] w _
    go_enter Tryz.func19, Tryz.ntmps19
    go_wp2_with fail
    refine Calls.mono (refValid_any s _ HS.out) ?_
    rintro e w1 ⟨rfl, hb⟩
    rw [HRE.out]
    have HB := Lib.hid hb
    clear hb
    go_wp2_with fail
    go_ret
    exact ⟨rfl, HB.out⟩
  · have hres : (emB s || tyOk s) = R := HRE.out
    unfold emB at hres
    cases hte : s.toList.isEmpty with
    | true =>
      rw [hte] at hres
      have HRE := Lib.hid (show true = R from hres)
      clear hres
      show Calls Tryz.prog 19 #[.int .u8 115, .string s] w _
      go_enter Tryz.func19, Tryz.ntmps19
      go_wp2_with fail
      go_ret
      exact ⟨by rw [← HRE.out]; rfl, Below.refl _ _⟩
    | false =>
      rw [hte] at hres
      have HRE := Lib.hid (show tyOk s = R from hres)
      clear hres
      show Calls Tryz.prog 19 #[.int .u8 115, .string s] w _
      go_enter Tryz.func19, Tryz.ntmps19
      go_wp2_with fail
      refine Calls.mono (refValid_any s _ HS.out) ?_
      rintro e w1 ⟨rfl, hb⟩
      rw [HRE.out]
      have HB := Lib.hid hb
      clear hb
      go_wp2_with fail
      go_ret
      exact ⟨rfl, HB.out⟩
  · have HRE := Lib.hid (show s.toList.isEmpty = R from HRE.out)
    show Calls Tryz.prog 19 #[.int .u8 45, .string s] w _
    go_enter Tryz.func19, Tryz.ntmps19
    go_wp2_with fail
    go_ret
    exact ⟨by rw [← HRE.out]; rfl, Below.refl _ _⟩
end Go.Proofs.YtkpejdkffkhekaaGreatDoor
