/- The types' reader: a function's type. Conditions: none. -/
import Derived.Test.YtkpejdkffkhekaaGreatDoorTyOne
set_option maxRecDepth 20000
namespace Go.Proofs.YtkpejdkffkhekaaGreatDoor
open Go.ChangeShapes Go.WideShapes Go.ChangeAt Go.RowKit
theorem parsAt_in {f : Nat} {S : ByteArray} {m k : Nat} {x : Option Nat} (h : parsAt f S m k = x) {y : Option Nat} (e : parsAt f S m k = y) : y = x := e.symm.trans h
set_option maxHeartbeats 2000000 in
theorem fun_any (f g : Nat) (S : ByteArray) (hS : S.size ≤ 1000) (hone : ∀ k w, S.size - k < f → k ≤ S.size → Rdr w g S k → Calls Tryz.prog 60 #[.pointer (some ⟨g, 0, none⟩)] w (OneP (tyAt f S k) g S w)) (k : Nat) (hk : k ≤ S.size) (hf : S.size - k ≤ f) (w : World) (hr : Rdr w g S k) :
    Calls Tryz.prog 77 #[.pointer (some ⟨g, 0, none⟩), .nilFunc] w (OneP (fnAt f S k) g S w) := by
  have HR := Lib.hid hr
  have HO := Lib.hid hone
  clear hr hone
  have ht5 : (ByteArray.mk #[102, 117, 110, 99, 40]).size ≤ 1000 := by decide
  have ht1 : ∀ c : UInt8, (ByteArray.mk #[c]).size ≤ 1000 := fun c => by show 1 ≤ 1000; omega
  have HT := Lib.hid (And.intro ht5 ht1)
  have hcmp : ∀ W : World, Sem.run Tryz.prog (binOp BinOp.neq 119 Value.nilFunc Value.nilFunc) W = .ok (.bool false) W := fun W => by kernel_rfl
  clear ht5 ht1
  cases hb : hasB S k ⟨#[102, 117, 110, 99, 40]⟩
  · have HB := Lib.hid hb
    clear hb
    go_enter Tryz.func77, Tryz.ntmps77
    go_wp2_with fail
    refine (has_any g k S _ false HB.out.symm _ HR.out hk hS HT.out.1).mono ?_
    rintro e w1 ⟨rfl, hr1, hg1⟩
    clear hr1
    go_wp2_with fail
    go_ret
    exact OneP.no (by unfold fnAt; rw [HB.out]; rfl) hg1
  · have hkS : k + 5 ≤ S.size := by
      have := pre_len hb
      rw [List.length_drop] at this
      have e1 : S.data.toList.length = S.size := rfl
      simp at this
      omega
    have HE := Lib.hid (show fnAt f S k = parsAt f S 0 (k + 5) by unfold fnAt; rw [hb]; rfl)
    have HB := Lib.hid hb
    clear hb
    go_enter Tryz.func77, Tryz.ntmps77
    go_wp2_with fail
    refine (has_any g k S _ true HB.out.symm _ HR.out hk hS HT.out.1).mono ?_
    rintro e w1 ⟨rfl, hr1, hg1⟩
    have HR1 := Lib.hid (show Rdr w1 g S (k + 5) from hr1)
    have HG1 := Lib.hid hg1
    clear hr1 hg1
    go_wp2_with fail
    go_loopw [5] (fun n wr => ∃ m k', n = .int .i64 (m : Nat) ∧ m ≤ 4 ∧ k < k' ∧ k' ≤ S.size ∧ Rdr wr g S k' ∧ w.grownBy wr (some g) ∧ Hid (parsAt f S m k' = fnAt f S k)) (fun n _ => 5 - (intOf n).toNat)
    case atStart => exact ⟨0, k + 5, rfl, by omega, by omega, hkS, HR1.out, HG1.out, Lib.hid HE.out.symm⟩
    case round =>
      obtain ⟨m, k', rfl, hm, hkk, hk'S, hr, hg, HP⟩ := hrel
      have HR2 := Lib.hid hr
      have HG2 := Lib.hid hg
      clear hr hg HR1 HG1 HE
      cases hb : hasB S k' ⟨#[41]⟩
      · have HB := Lib.hid hb
        clear hb
        go_wp2_with fail
        refine (has_any g k' S _ false HB.out.symm _ HR2.out hk'S hS (HT.out.2 _)).mono ?_
        rintro e w2 ⟨rfl, hr2, hg2⟩
        have HR3 := Lib.hid (show Rdr w2 g S k' from hr2)
        have HG3 := Lib.hid (HG2.out.trans hg2)
        clear hr2 hg2 HR2 HG2
        by_cases hm4 : m = 4
        · have HN := Lib.hid (HP.out.symm.trans (parsAt_full HB.out (by omega)))
          subst hm4
          go_wp2_with fail
          go_ret
          exact OneP.no HN.out HG3.out
        · by_cases hm0 : m = 0
          · subst hm0
            have HN := Lib.hid (show fnAt f S k = (tyAt f S k').bind (parsAt f S 1) from HP.out.symm.trans (parsAt_first HB.out))
            obtain ⟨q0, q1, _, _⟩ := HR3.out
            go_wp2_with fail
            clear q0 q1
            refine (HO.out (k') _ (by omega) (by omega) HR3.out).mono ?_
            rintro e w4 h4
            rcases h4 with ⟨p, p1, rfl, p3, p4⟩ | ⟨p1, rfl, p4⟩
            · have hp := tyAt_le (by omega) p1
              have HN2 := Lib.hid (show parsAt f S (0 + 1) p = fnAt f S k by rw [HN.out, p1]; rfl)
              have P3 := Lib.hid p3
              have P4 := Lib.hid (HG3.out.trans p4)
              clear p1 p3 p4 HN HR3 HG3
              go_wp2_with fail
              go_roundw
              case rel => exact ⟨0 + 1, p, by go_num, by omega, by omega, hp.2, P3.out, P4.out, HN2⟩
              case measure => simp [intOf]
            · have HN2 := Lib.hid (show fnAt f S k = none by rw [HN.out, p1]; rfl)
              have P4 := Lib.hid (HG3.out.trans p4)
              clear p1 p4
              go_wp2_with fail
              go_ret
              exact OneP.no HN2.out P4.out
          · cases hc : hasB S k' ⟨#[44]⟩
            · have HN := Lib.hid (HP.out.symm.trans (parsAt_no HB.out (by omega) (by omega) hc))
              have HC := Lib.hid hc
              clear hc
              have hne : ((m : Int) == 4) = false := beq_eq_false_iff_ne.2 (by omega)
              have hgt : decide ((0 : Int) < (m : Int)) = true := decide_eq_true (by omega)
              go_wp2_with fail
              refine (has_any g k' S _ false HC.out.symm _ HR3.out hk'S hS (HT.out.2 _)).mono ?_
              rintro e w3 ⟨rfl, hr3, hg3⟩
              clear hr3
              go_wp2_with fail
              go_ret
              exact OneP.no HN.out (HG3.out.trans hg3)
            · have HN := Lib.hid (HP.out.symm.trans (parsAt_more HB.out (by omega) (by omega) hc))
              have hk2 : k' + 1 ≤ S.size := by
                have := pre_len hc
                rw [List.length_drop] at this
                have e1 : S.data.toList.length = S.size := rfl
                simp at this
                omega
              have HC := Lib.hid hc
              clear hc
              have hne : ((m : Int) == 4) = false := beq_eq_false_iff_ne.2 (by omega)
              have hgt : decide ((0 : Int) < (m : Int)) = true := decide_eq_true (by omega)
              go_wp2_with fail
              refine (has_any g k' S _ true HC.out.symm _ HR3.out hk'S hS (HT.out.2 _)).mono ?_
              rintro e w3 ⟨rfl, hr3, hg3⟩
              have HR4 := Lib.hid (show Rdr w3 g S (k' + 1) from hr3)
              have HG4 := Lib.hid (HG3.out.trans hg3)
              clear hr3 hg3 HR3 HG3
              obtain ⟨q0, q1, _, _⟩ := HR4.out
              go_wp2_with fail
              clear q0 q1
              refine (HO.out (k' + 1) _ (by omega) (by omega) HR4.out).mono ?_
              rintro e w4 h4
              rcases h4 with ⟨p, p1, rfl, p3, p4⟩ | ⟨p1, rfl, p4⟩
              · have hp := tyAt_le (by omega) p1
                have HN2 := Lib.hid (show parsAt f S (m + 1) p = fnAt f S k by rw [HN.out, p1]; rfl)
                have P3 := Lib.hid p3
                have P4 := Lib.hid (HG4.out.trans p4)
                clear p1 p3 p4 HN HR4 HG4
                go_wp2_with fail
                go_roundw
                case rel => exact ⟨m + 1, p, by go_num, by omega, by omega, hp.2, P3.out, P4.out, HN2⟩
                case measure => simp [intOf]; omega
              · have HN2 := Lib.hid (show fnAt f S k = none by rw [HN.out, p1]; rfl)
                have P4 := Lib.hid (HG4.out.trans p4)
                clear p1 p4
                go_wp2_with fail
                go_ret
                exact OneP.no HN2.out P4.out
      · have HX := Lib.hid (HP.out.symm.trans (parsAt_close hb))
        have hk2 : k' + 1 ≤ S.size := by
          have := pre_len hb
          rw [List.length_drop] at this
          have e1 : S.data.toList.length = S.size := rfl
          simp at this
          omega
        have HB := Lib.hid hb
        clear hb
        go_wp2_with fail
        refine (has_any g k' S _ true HB.out.symm _ HR2.out hk'S hS (HT.out.2 _)).mono ?_
        rintro e w2 ⟨rfl, hr2, hg2⟩
        have HR3 := Lib.hid (show Rdr w2 g S (k' + 1) from hr2)
        have HG3 := Lib.hid (HG2.out.trans hg2)
        clear hr2 hg2 HR2 HG2
        obtain ⟨q0, q1, q2, q3⟩ := HR3.out
        have hb0 : (0 : Int) ≤ (k' : Int) + 1 := by omega
        have hk3 : ((k' : Int) + 1).toNat = k' + 1 := by omega
        by_cases hend : k' + 1 = S.size
        · have HY := Lib.hid (HX.out.trans (resAt_end (by omega)))
          have hd : decide ((k' : Int) + 1 < (S.size : Int)) = false := by simp; omega
          clear hend
          go_wp2_with fail
          go_quiet (fail)
          go_wp2_with fail
          go_ret
          exact OneP.yes HY.out HR3.out (HG3.out.trans (gb_drawn _ _ _))
        · have hkl : k' + 1 < S.size := by omega
          have hkl' : (k' : Int) + 1 < (S.size : Int) := by omega
          have hd : decide ((k' : Int) + 1 < (S.size : Int)) = true := decide_eq_true hkl'
          by_cases hc : S[k' + 1] = 44
          · have HY := Lib.hid (HX.out.trans (resAt_sep hkl (.inl hc)))
            have hc1 : (((S[k' + 1]).toNat : Int) != 44) = false := by rw [hc]; rfl
            go_wp2_with fail
            go_quiet (fail)
            go_wp2_with fail
            go_ret
            exact OneP.yes HY.out HR3.out (HG3.out.trans (gb_drawn _ _ _))
          · have hc1 : (((S[k' + 1]).toNat : Int) != 44) = true := by have := u8_ne hc; simp at this ⊢; omega
            by_cases hc2 : S[k' + 1] = 41
            · have HY := Lib.hid (HX.out.trans (resAt_sep hkl (.inr hc2)))
              have hc3 : (((S[k' + 1]).toNat : Int) != 41) = false := by rw [hc2]; rfl
              go_wp2_with fail
              go_quiet (fail)
              go_wp2_with fail
              go_ret
              exact OneP.yes HY.out HR3.out (HG3.out.trans (gb_drawn _ _ _))
            · have hc3 : (((S[k' + 1]).toNat : Int) != 41) = true := by have := u8_ne hc2; simp at this ⊢; omega
              have HY := Lib.hid (HX.out.trans (resAt_ty hkl (by simp [hc, hc2])))
              clear hc hc2
              go_wp2_with fail
              go_still_tail 36, (by kernel_rfl)
              change wpList _ _ _ _ _ w2.drew
              have HR4 := Lib.hid (show Rdr w2.drew g S (k' + 1) from HR3.out)
              have HG4 := Lib.hid (show w.grownBy w2.drew (some g) from HG3.out.trans (gb_drawn w2 1 _))
              clear q0 q1 q2 q3 hc1 hc3 hd HR3 HG3
              generalize w2.drew = w3 at *
              go_wp2_with fail
              refine (HO.out (k' + 1) _ (by omega) (by omega) HR4.out).mono ?_
              rintro e w4 h4
              rcases h4 with ⟨p, p1, rfl, p3, p4⟩ | ⟨p1, rfl, p4⟩
              · have P1 := Lib.hid p1
                have P3 := Lib.hid p3
                clear p1 p3
                go_wp2_with fail
                go_ret
                exact OneP.yes (HY.out.trans P1.out) P3.out (HG4.out.trans p4)
              · have P1 := Lib.hid p1
                clear p1
                go_wp2_with fail
                go_ret
                exact OneP.no (HY.out.trans P1.out) (HG4.out.trans p4)
end Go.Proofs.YtkpejdkffkhekaaGreatDoor
