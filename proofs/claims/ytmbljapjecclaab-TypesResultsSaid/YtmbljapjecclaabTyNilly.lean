/- 'nilly' and 'mayNil'; the laws over types. Conditions: none. -/
import Derived.Test.YtmbljapjecclaabTyNil
set_option maxRecDepth 20000
namespace Go.Proofs.Ytmbljapjecclaab
open Go.ChangeShapes Go.WideShapes Go.ChangeAt Go.RowKit
theorem nilB_no {s : ByteArray} (h : tyOk s = false) : nilB s = false := by unfold nilB; rw [h]; rfl
theorem tw_facts : ∀ j, j < 6 → ∃ h : 0 < (tw j).size, (((tw j)[0].toNat : Int) == 102) = false := by decide +kernel
theorem f_ne {s : ByteArray} (hp : 0 < s.size) (h : s[0] = 102) {a : UInt8} {l : List UInt8} (ha : a ≠ 102) : (s.toList == a :: l) = false := by
  rw [ByteArray.toList_eq, beq_eq_false_iff_ne]
  intro e
  have := byl_get s 0 hp
  rw [e, h] at this
  simp at this
  exact ha this
set_option maxHeartbeats 1000000 in
theorem nilly_any (s : ByteArray) (w : World) (hs : s.size ≤ 140737488351232) : Calls Try.prog 58 #[.string s] w fun e w' => e = .returned (.bool (nilB s)) ∧ Below w.heap.size w w' := by
  cases hv : tyOk s
  · have HN := Lib.hid (nilB_no hv)
    have HV := Lib.hid hv
    clear hv
    go_enter Try.func58, Try.ntmps58
    go_wp2_with fail
    refine (typesValid_any s _ hs).mono ?_
    rintro e w1 ⟨rfl, hb⟩
    rw [HV.out]
    go_wp2_with fail
    go_ret
    exact ⟨by rw [HN.out]; rfl, hb⟩
  · have HV := Lib.hid hv
    rcases tyOk_cases hv with ⟨j, hj, rfl⟩ | ⟨hp, hf⟩
    · obtain ⟨hp, h102⟩ := tw_facts j hj
      clear hv
      match j, hj with
      | 0, _ =>
        have g0 : ((tw 0).toList == [105, 110, 116]) = true := by decide +kernel
        have g1 : ((tw 0).toList == [98, 111, 111, 108]) = false := by decide +kernel
        have g2 : ((tw 0).toList == [115, 116, 114, 105, 110, 103]) = false := by decide +kernel
        have g3 : ((tw 0).toList == [97, 110, 121]) = false := by decide +kernel
        have g4 : ((tw 0).toList == [91, 93, 105, 110, 116]) = false := by decide +kernel
        have g5 : ((tw 0).toList == [42, 105, 110, 116]) = false := by decide +kernel
        have HN := Lib.hid (show nilB (tw 0) = false by decide +kernel)
        go_enter Try.func58, Try.ntmps58
        go_wp2_with fail
        refine (typesValid_any _ _ hs).mono ?_
        rintro e w1 ⟨rfl, hb⟩
        rw [HV.out]
        go_wp2_with fail
        go_ret
        exact ⟨by rw [HN.out]; rfl, hb⟩
      | 1, _ =>
        have g0 : ((tw 1).toList == [105, 110, 116]) = false := by decide +kernel
        have g1 : ((tw 1).toList == [98, 111, 111, 108]) = true := by decide +kernel
        have g2 : ((tw 1).toList == [115, 116, 114, 105, 110, 103]) = false := by decide +kernel
        have g3 : ((tw 1).toList == [97, 110, 121]) = false := by decide +kernel
        have g4 : ((tw 1).toList == [91, 93, 105, 110, 116]) = false := by decide +kernel
        have g5 : ((tw 1).toList == [42, 105, 110, 116]) = false := by decide +kernel
        have HN := Lib.hid (show nilB (tw 1) = false by decide +kernel)
        go_enter Try.func58, Try.ntmps58
        go_wp2_with fail
        refine (typesValid_any _ _ hs).mono ?_
        rintro e w1 ⟨rfl, hb⟩
        rw [HV.out]
        go_wp2_with fail
        go_ret
        exact ⟨by rw [HN.out]; rfl, hb⟩
      | 2, _ =>
        have g0 : ((tw 2).toList == [105, 110, 116]) = false := by decide +kernel
        have g1 : ((tw 2).toList == [98, 111, 111, 108]) = false := by decide +kernel
        have g2 : ((tw 2).toList == [115, 116, 114, 105, 110, 103]) = true := by decide +kernel
        have g3 : ((tw 2).toList == [97, 110, 121]) = false := by decide +kernel
        have g4 : ((tw 2).toList == [91, 93, 105, 110, 116]) = false := by decide +kernel
        have g5 : ((tw 2).toList == [42, 105, 110, 116]) = false := by decide +kernel
        have HN := Lib.hid (show nilB (tw 2) = false by decide +kernel)
        go_enter Try.func58, Try.ntmps58
        go_wp2_with fail
        refine (typesValid_any _ _ hs).mono ?_
        rintro e w1 ⟨rfl, hb⟩
        rw [HV.out]
        go_wp2_with fail
        go_ret
        exact ⟨by rw [HN.out]; rfl, hb⟩
      | 3, _ =>
        have g0 : ((tw 3).toList == [105, 110, 116]) = false := by decide +kernel
        have g1 : ((tw 3).toList == [98, 111, 111, 108]) = false := by decide +kernel
        have g2 : ((tw 3).toList == [115, 116, 114, 105, 110, 103]) = false := by decide +kernel
        have g3 : ((tw 3).toList == [97, 110, 121]) = true := by decide +kernel
        have g4 : ((tw 3).toList == [91, 93, 105, 110, 116]) = false := by decide +kernel
        have g5 : ((tw 3).toList == [42, 105, 110, 116]) = false := by decide +kernel
        have HN := Lib.hid (show nilB (tw 3) = true by decide +kernel)
        go_enter Try.func58, Try.ntmps58
        go_wp2_with fail
        refine (typesValid_any _ _ hs).mono ?_
        rintro e w1 ⟨rfl, hb⟩
        rw [HV.out]
        go_wp2_with fail
        go_ret
        exact ⟨by rw [HN.out]; rfl, hb⟩
      | 4, _ =>
        have g0 : ((tw 4).toList == [105, 110, 116]) = false := by decide +kernel
        have g1 : ((tw 4).toList == [98, 111, 111, 108]) = false := by decide +kernel
        have g2 : ((tw 4).toList == [115, 116, 114, 105, 110, 103]) = false := by decide +kernel
        have g3 : ((tw 4).toList == [97, 110, 121]) = false := by decide +kernel
        have g4 : ((tw 4).toList == [91, 93, 105, 110, 116]) = true := by decide +kernel
        have g5 : ((tw 4).toList == [42, 105, 110, 116]) = false := by decide +kernel
        have HN := Lib.hid (show nilB (tw 4) = true by decide +kernel)
        go_enter Try.func58, Try.ntmps58
        go_wp2_with fail
        refine (typesValid_any _ _ hs).mono ?_
        rintro e w1 ⟨rfl, hb⟩
        rw [HV.out]
        go_wp2_with fail
        go_ret
        exact ⟨by rw [HN.out]; rfl, hb⟩
      | 5, _ =>
        have g0 : ((tw 5).toList == [105, 110, 116]) = false := by decide +kernel
        have g1 : ((tw 5).toList == [98, 111, 111, 108]) = false := by decide +kernel
        have g2 : ((tw 5).toList == [115, 116, 114, 105, 110, 103]) = false := by decide +kernel
        have g3 : ((tw 5).toList == [97, 110, 121]) = false := by decide +kernel
        have g4 : ((tw 5).toList == [91, 93, 105, 110, 116]) = false := by decide +kernel
        have g5 : ((tw 5).toList == [42, 105, 110, 116]) = true := by decide +kernel
        have HN := Lib.hid (show nilB (tw 5) = true by decide +kernel)
        go_enter Try.func58, Try.ntmps58
        go_wp2_with fail
        refine (typesValid_any _ _ hs).mono ?_
        rintro e w1 ⟨rfl, hb⟩
        rw [HV.out]
        go_wp2_with fail
        go_ret
        exact ⟨by rw [HN.out]; rfl, hb⟩
      | j + 6, h => exact absurd h (by omega)
    · clear hv
      have g0 : (s.toList == [105, 110, 116]) = false := f_ne hp hf (by decide)
      have g1 : (s.toList == [98, 111, 111, 108]) = false := f_ne hp hf (by decide)
      have g2 : (s.toList == [115, 116, 114, 105, 110, 103]) = false := f_ne hp hf (by decide)
      have g3 : (s.toList == [97, 110, 121]) = false := f_ne hp hf (by decide)
      have g4 : (s.toList == [91, 93, 105, 110, 116]) = false := f_ne hp hf (by decide)
      have g5 : (s.toList == [42, 105, 110, 116]) = false := f_ne hp hf (by decide)
      have h102 : ((s[0].toNat : Int) == 102) = true := by rw [hf]; rfl
      have HN := Lib.hid (show nilB s = true by unfold nilB; rw [HV.out, g0, g1, g2]; rfl)
      clear hf
      go_enter Try.func58, Try.ntmps58
      go_wp2_with fail
      refine (typesValid_any s _ hs).mono ?_
      rintro e w1 ⟨rfl, hb⟩
      rw [HV.out]
      go_wp2_with fail
      go_ret
      exact ⟨by rw [HN.out]; rfl, hb⟩
set_option maxHeartbeats 1000000 in
theorem mayNil_any (s : ByteArray) (w : World) (hs : s.size ≤ 140737488351232) : Calls Try.prog 59 #[.string s] w fun e w' => e = .returned (.bool (nilB s)) ∧ Below w.heap.size w w' := by
  cases hv : tyOk s
  · have HN := Lib.hid (nilB_no hv)
    have HV := Lib.hid hv
    clear hv
    go_enter Try.func59, Try.ntmps59
    go_wp2_with fail
    refine (refValid_any s _ hs).mono ?_
    rintro e w1 ⟨rfl, hb⟩
    rw [HV.out]
    go_wp2_with fail
    go_ret
    exact ⟨by rw [HN.out]; rfl, hb⟩
  · have HV := Lib.hid hv
    rcases tyOk_cases hv with ⟨j, hj, rfl⟩ | ⟨hp, hf⟩
    · obtain ⟨hp, h102⟩ := tw_facts j hj
      clear hv
      match j, hj with
      | 0, _ =>
        have g0 : ((tw 0).toList == [105, 110, 116]) = true := by decide +kernel
        have g1 : ((tw 0).toList == [98, 111, 111, 108]) = false := by decide +kernel
        have g2 : ((tw 0).toList == [115, 116, 114, 105, 110, 103]) = false := by decide +kernel
        have g3 : ((tw 0).toList == [97, 110, 121]) = false := by decide +kernel
        have g4 : ((tw 0).toList == [91, 93, 105, 110, 116]) = false := by decide +kernel
        have g5 : ((tw 0).toList == [42, 105, 110, 116]) = false := by decide +kernel
        have HN := Lib.hid (show nilB (tw 0) = false by decide +kernel)
        go_enter Try.func59, Try.ntmps59
        go_wp2_with fail
        refine (refValid_any _ _ hs).mono ?_
        rintro e w1 ⟨rfl, hb⟩
        rw [HV.out]
        go_wp2_with fail
        go_ret
        exact ⟨by rw [HN.out]; rfl, hb⟩
      | 1, _ =>
        have g0 : ((tw 1).toList == [105, 110, 116]) = false := by decide +kernel
        have g1 : ((tw 1).toList == [98, 111, 111, 108]) = true := by decide +kernel
        have g2 : ((tw 1).toList == [115, 116, 114, 105, 110, 103]) = false := by decide +kernel
        have g3 : ((tw 1).toList == [97, 110, 121]) = false := by decide +kernel
        have g4 : ((tw 1).toList == [91, 93, 105, 110, 116]) = false := by decide +kernel
        have g5 : ((tw 1).toList == [42, 105, 110, 116]) = false := by decide +kernel
        have HN := Lib.hid (show nilB (tw 1) = false by decide +kernel)
        go_enter Try.func59, Try.ntmps59
        go_wp2_with fail
        refine (refValid_any _ _ hs).mono ?_
        rintro e w1 ⟨rfl, hb⟩
        rw [HV.out]
        go_wp2_with fail
        go_ret
        exact ⟨by rw [HN.out]; rfl, hb⟩
      | 2, _ =>
        have g0 : ((tw 2).toList == [105, 110, 116]) = false := by decide +kernel
        have g1 : ((tw 2).toList == [98, 111, 111, 108]) = false := by decide +kernel
        have g2 : ((tw 2).toList == [115, 116, 114, 105, 110, 103]) = true := by decide +kernel
        have g3 : ((tw 2).toList == [97, 110, 121]) = false := by decide +kernel
        have g4 : ((tw 2).toList == [91, 93, 105, 110, 116]) = false := by decide +kernel
        have g5 : ((tw 2).toList == [42, 105, 110, 116]) = false := by decide +kernel
        have HN := Lib.hid (show nilB (tw 2) = false by decide +kernel)
        go_enter Try.func59, Try.ntmps59
        go_wp2_with fail
        refine (refValid_any _ _ hs).mono ?_
        rintro e w1 ⟨rfl, hb⟩
        rw [HV.out]
        go_wp2_with fail
        go_ret
        exact ⟨by rw [HN.out]; rfl, hb⟩
      | 3, _ =>
        have g0 : ((tw 3).toList == [105, 110, 116]) = false := by decide +kernel
        have g1 : ((tw 3).toList == [98, 111, 111, 108]) = false := by decide +kernel
        have g2 : ((tw 3).toList == [115, 116, 114, 105, 110, 103]) = false := by decide +kernel
        have g3 : ((tw 3).toList == [97, 110, 121]) = true := by decide +kernel
        have g4 : ((tw 3).toList == [91, 93, 105, 110, 116]) = false := by decide +kernel
        have g5 : ((tw 3).toList == [42, 105, 110, 116]) = false := by decide +kernel
        have HN := Lib.hid (show nilB (tw 3) = true by decide +kernel)
        go_enter Try.func59, Try.ntmps59
        go_wp2_with fail
        refine (refValid_any _ _ hs).mono ?_
        rintro e w1 ⟨rfl, hb⟩
        rw [HV.out]
        go_wp2_with fail
        go_ret
        exact ⟨by rw [HN.out]; rfl, hb⟩
      | 4, _ =>
        have g0 : ((tw 4).toList == [105, 110, 116]) = false := by decide +kernel
        have g1 : ((tw 4).toList == [98, 111, 111, 108]) = false := by decide +kernel
        have g2 : ((tw 4).toList == [115, 116, 114, 105, 110, 103]) = false := by decide +kernel
        have g3 : ((tw 4).toList == [97, 110, 121]) = false := by decide +kernel
        have g4 : ((tw 4).toList == [91, 93, 105, 110, 116]) = true := by decide +kernel
        have g5 : ((tw 4).toList == [42, 105, 110, 116]) = false := by decide +kernel
        have HN := Lib.hid (show nilB (tw 4) = true by decide +kernel)
        go_enter Try.func59, Try.ntmps59
        go_wp2_with fail
        refine (refValid_any _ _ hs).mono ?_
        rintro e w1 ⟨rfl, hb⟩
        rw [HV.out]
        go_wp2_with fail
        go_ret
        exact ⟨by rw [HN.out]; rfl, hb⟩
      | 5, _ =>
        have g0 : ((tw 5).toList == [105, 110, 116]) = false := by decide +kernel
        have g1 : ((tw 5).toList == [98, 111, 111, 108]) = false := by decide +kernel
        have g2 : ((tw 5).toList == [115, 116, 114, 105, 110, 103]) = false := by decide +kernel
        have g3 : ((tw 5).toList == [97, 110, 121]) = false := by decide +kernel
        have g4 : ((tw 5).toList == [91, 93, 105, 110, 116]) = false := by decide +kernel
        have g5 : ((tw 5).toList == [42, 105, 110, 116]) = true := by decide +kernel
        have HN := Lib.hid (show nilB (tw 5) = true by decide +kernel)
        go_enter Try.func59, Try.ntmps59
        go_wp2_with fail
        refine (refValid_any _ _ hs).mono ?_
        rintro e w1 ⟨rfl, hb⟩
        rw [HV.out]
        go_wp2_with fail
        go_ret
        exact ⟨by rw [HN.out]; rfl, hb⟩
      | j + 6, h => exact absurd h (by omega)
    · clear hv
      have g0 : (s.toList == [105, 110, 116]) = false := f_ne hp hf (by decide)
      have g1 : (s.toList == [98, 111, 111, 108]) = false := f_ne hp hf (by decide)
      have g2 : (s.toList == [115, 116, 114, 105, 110, 103]) = false := f_ne hp hf (by decide)
      have g3 : (s.toList == [97, 110, 121]) = false := f_ne hp hf (by decide)
      have g4 : (s.toList == [91, 93, 105, 110, 116]) = false := f_ne hp hf (by decide)
      have g5 : (s.toList == [42, 105, 110, 116]) = false := f_ne hp hf (by decide)
      have h102 : ((s[0].toNat : Int) == 102) = true := by rw [hf]; rfl
      have HN := Lib.hid (show nilB s = true by unfold nilB; rw [HV.out, g0, g1, g2]; rfl)
      clear hf
      go_enter Try.func59, Try.ntmps59
      go_wp2_with fail
      refine (refValid_any s _ hs).mono ?_
      rintro e w1 ⟨rfl, hb⟩
      rw [HV.out]
      go_wp2_with fail
      go_ret
      exact ⟨by rw [HN.out]; rfl, hb⟩
end Go.Proofs.Ytmbljapjecclaab
