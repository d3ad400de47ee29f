/- The document's typeEnd. Conditions: none. -/
import Derived.Test.YtkpejdkffkhekaaGreatDoorTyValid
import Derived.Test.YtkpejdkffkhekaaGreatDoorTx
set_option maxRecDepth 20000
namespace Go.Proofs.YtkpejdkffkhekaaGreatDoor
open Go.ChangeShapes Go.WideShapes Go.ChangeAt Go.RowKit
theorem ty_cut : cutG 32 (ByteArray.mk #[105, 110, 116, 32, 98, 111, 111, 108, 32, 115, 116, 114, 105, 110, 103, 32, 97, 110, 121, 32, 91, 93, 105, 110, 116, 32, 42, 105, 110, 116]).data.toList [] = tyW := by decide +kernel
theorem cutAt_ty (w : World) : Calls Tryz.prog 48 #[.string ⟨#[105, 110, 116, 32, 98, 111, 111, 108, 32, 115, 116, 114, 105, 110, 103, 32, 97, 110, 121, 32, 91, 93, 105, 110, 116, 32, 42, 105, 110, 116]⟩, .int .u8 32] w fun e w' => ∃ g c, e = .returned (.slice (some ⟨g, 0, none⟩) 6 c) ∧ Rd w' w'.heap.size 1 (some ⟨g, 0, none⟩) 6 (strs tyW) ∧ Below w.heap.size w w' := by
  have h := cutAt_any ⟨#[105, 110, 116, 32, 98, 111, 111, 108, 32, 115, 116, 114, 105, 110, 103, 32, 97, 110, 121, 32, 91, 93, 105, 110, 116, 32, 42, 105, 110, 116]⟩ 32 32 rfl (by decide +kernel) w
  rw [ty_cut] at h
  refine h.mono ?_
  rintro e w' ⟨A, c, rfl, hown, hb⟩
  obtain ⟨g, cap, hv, _⟩ := hown.form (by decide)
  injection hv with hA _ hc
  subst hA hc
  exact ⟨g, _, rfl, Rd.of_own hown, hb⟩
/-- What typeEnd answers. -/
def teV (o : Option Nat) : Value := .int .i64 ((o.getD 0 : Nat) : Int)
theorem teV_some {o : Option Nat} {n : Nat} (h : o = some n) : teV o = .int .i64 (n : Int) := by rw [h]; rfl
theorem teV_none {o : Option Nat} (h : o = none) : teV o = .int .i64 0 := by rw [h]; rfl
theorem tyAt_zero (f : Nat) (s : ByteArray) : tyAt f s 0 = ty f s.data.toList := by unfold tyAt; simp
theorem parsAt_end {f : Nat} {s : ByteArray} {m k : Nat} (hk : s.size ≤ k) (hk2 : k ≤ s.size) (hm : m ≤ 4) : parsAt f s m k = none := by
  by_cases h0 : m = 0
  · subst h0
    rw [parsAt_first (hasB_out hk 41)]
    cases h : tyAt f s k with
    | none => rfl
    | some n => have := tyAt_le hk2 h; omega
  · by_cases h4 : m = 4
    · exact parsAt_full (hasB_out hk 41) (by omega)
    · exact parsAt_no (hasB_out hk 41) (by omega) (by omega) (hasB_out hk 44)
theorem fnAt_short {f : Nat} {s : ByteArray} (h : s.size < 6) : fnAt f s 0 = none := by
  unfold fnAt
  cases hb : hasB s 0 ⟨#[102, 117, 110, 99, 40]⟩
  · rfl
  · have := pre_len hb
    rw [List.drop_zero] at this
    have e1 : s.data.toList.length = s.size := rfl
    simp only [List.length_cons, List.length_nil] at this
    show parsAt f s 0 (0 + 5) = none
    exact parsAt_end (by omega) (by omega) (by omega)
theorem ext_drop (s : ByteArray) (k : Nat) : (s.extract k s.size).data.toList = s.data.toList.drop k := by
  rw [ext_list, List.take_of_length_le (show s.data.toList.length ≤ s.size from Nat.le_refl _)]
theorem tyAt_ext {f k : Nat} {s : ByteArray} : tyAt f s k = (ty f (s.extract k s.size).data.toList).map (· + k) := by rw [ext_drop]; rfl
theorem ext_len {s : ByteArray} {k : Nat} (h : k ≤ s.size) : (s.extract k s.size).size = s.size - k := by rw [ByteArray.size_extract]; omega
def typeEndC (f : Nat) (s : ByteArray) (w : World) : Prop := Calls Tryz.prog 49 #[.string s] w fun e w' => e = .returned (teV (ty f s.data.toList)) ∧ Below w.heap.size w w'
set_option maxHeartbeats 2000000 in
theorem typeEnd_any (f : Nat) (ih : ∀ (s : ByteArray) (w : World), s.size < f → s.size ≤ 1000 → typeEndC f s w) (s : ByteArray) (w : World) (hf : s.size < f + 1) (hs : s.size ≤ 1000) : typeEndC (f + 1) s w := by
  have IH := Lib.hid ih
  clear ih
  unfold typeEndC
  rw [← tyAt_zero]
  go_enter Tryz.func49, Tryz.ntmps49
  go_wp2_with fail
  refine (cutAt_ty _).mono ?_
  rintro e w1 ⟨g, c, rfl, hr, hb⟩
  go_wp2_with fail
  go_loopw [11] (fun i wr => ∃ j : Nat, j ≤ 6 ∧ i = .int .i64 (j : Int) ∧ Hid (noW s 0 j) ∧ ∃ n, wr = w1.drewN n) (fun i _ => 6 - (intOf i).toNat)
  case atStart => exact ⟨0, by omega, rfl, rfl, 0, rfl⟩
  case round =>
    obtain ⟨j, hj, rfl, hn, n, rfl⟩ := hrel
    by_cases hlt : j < 6
    · have hjl : j < tyW.length := hlt
      have hsz := tw_size j hlt
      obtain ⟨b, off, u, hA, _, hu, hc⟩ := hr.at1 hlt
      have hu' := strs_get hjl hu
      injection hA with hA
      injection hA with hA1 hA2
      subst hA1 hA2 hu'
      clear hu
      rw [Nat.zero_add] at hc
      change w1.cell? ⟨g, j, none⟩ = some (.string (tw j)) at hc
      by_cases hlen : (tw j).size ≤ s.size
      · have hd : decide (((tw j).size : Int) ≤ (s.size : Int)) = true := decide_eq_true (by omega)
        have hx0 : ((s.extract 0 (tw j).size).toList == (tw j).toList) = hasB s 0 (tw j) := by rw [hasB_eq, Nat.zero_add]
        cases hbb : hasB s 0 (tw j)
        · rw [hbb] at hx0
          have HB := Lib.hid hbb
          clear hbb
          go_wp2_with fail
          go_roundw
          case rel => exact ⟨j + 1, by omega, by go_num, tw_miss hjl hn.out ((tw_hasB hjl).symm.trans HB.out), n, rfl⟩
          case measure => simp [intOf]; omega
        · rw [hbb] at hx0
          have HB := Lib.hid hbb
          clear hbb
          go_wp2_with fail
          go_ret
          refine ⟨?_, dr hb n⟩
          rw [teV_some (tyAt_word (f := f) (tw_hit hjl hn.out ((tw_hasB hjl).symm.trans HB.out))), ← tw_size' hjl]
          simp
      · have hd : decide (((tw j).size : Int) ≤ (s.size : Int)) = false := decide_eq_false (by omega)
        have HB := Lib.hid (hasB_no (S := s) (t := tw j) (k := 0) (by omega) (by omega))
        go_wp2_with fail
        go_roundw
        case rel => exact ⟨j + 1, by omega, by go_num, tw_miss hjl hn.out ((tw_hasB hjl).symm.trans HB.out), n, rfl⟩
        case measure => simp [intOf]; omega
    · obtain rfl : j = 6 := by omega
      rw [show ((6 : Nat) : Int) = 6 from rfl]
      have HE := Lib.hid (tyAt_fn (f := f) (tw_none hn.out))
      clear hn hr
      have HB0 := Lib.hid (dr hb n)
      clear hb
      generalize w1.drewN n = w2 at *
      by_cases h6 : s.size < 6
      · have HF := Lib.hid (HE.out.trans (fnAt_short h6))
        go_wp2_with fail
        go_ret
        exact ⟨by rw [HF.out]; rfl, HB0.out⟩
      · have hd6 : decide ((s.size : Int) < 6) = false := decide_eq_false (by omega)
        have hx0 : ((s.extract 0 5).toList == [102, 117, 110, 99, 40]) = hasB s 0 ⟨#[102, 117, 110, 99, 40]⟩ := by
          have e5 : (ByteArray.mk #[102, 117, 110, 99, 40]).toList = [102, 117, 110, 99, 40] := by rw [ByteArray.toList_eq]
          rw [hasB_eq, Nat.zero_add, e5]; rfl
        cases hbb : hasB s 0 ⟨#[102, 117, 110, 99, 40]⟩
        · rw [hbb] at hx0
          have HF := Lib.hid (HE.out.trans (show fnAt f s 0 = none by unfold fnAt; rw [hbb]; rfl))
          clear hbb
          go_wp2_with fail
          go_ret
          exact ⟨by rw [HF.out]; rfl, HB0.out⟩
        · rw [hbb] at hx0
          have HF := Lib.hid (show fnAt f s 0 = parsAt f s 0 5 by unfold fnAt; rw [hbb]; rfl)
          clear hbb
          go_wp2_with fail
          clear hx0 hd6
          go_loopw [5, 6] (fun at_ many wr => ∃ m k : Nat, at_ = .int .i64 (k : Int) ∧ many = .int .i64 (m : Int) ∧ m ≤ 4 ∧ 0 < k ∧ k < s.size ∧ Hid (parsAt f s m k = fnAt f s 0) ∧ Below w.heap.size w wr) (fun _ many _ => 5 - (intOf many).toNat)
          case atStart => exact ⟨0, 5, rfl, rfl, by omega, by omega, by omega, Lib.hid HF.out.symm, HB0.out⟩
          case round =>
            obtain ⟨m, k, rfl, rfl, hm, hk0, hkS, HP, hbel⟩ := hrel
            have HBW := Lib.hid hbel
            clear hbel HF HB0
            have hg41 := hasB_one hkS 41
            have hg44 := hasB_one hkS 44
            by_cases hc : s[k] = 41
            · rw [decide_eq_true hc] at hg41
              have hc1 : (((s[k]).toNat : Int) != 41) = false := by rw [hc]; rfl
              have HX := Lib.hid (HE.out.trans (HP.out.symm.trans (parsAt_close hg41)))
              clear hg41 hg44 hc
              by_cases hend : s.size ≤ k + 1
              · have hed : ((k : Int) + 1 == (s.size : Int)) = true := by simp; omega
                have HY := Lib.hid (HX.out.trans (resAt_end hend))
                clear hend
                go_wp2_with fail
                go_ret
                exact ⟨by rw [HY.out]; rfl, HBW.out⟩
              · have hkl : k + 1 < s.size := by omega
                have hed : ((k : Int) + 1 == (s.size : Int)) = false := by simp; omega
                by_cases hs : s[k + 1] = 44
                · have hs1 : (((s[k + 1]).toNat : Int) == 44) = true := by rw [hs]; rfl
                  have HY := Lib.hid (HX.out.trans (resAt_sep hkl (.inl hs)))
                  clear hs
                  go_wp2_with fail
                  go_ret
                  exact ⟨by rw [HY.out]; rfl, HBW.out⟩
                · have hs1 : (((s[k + 1]).toNat : Int) == 44) = false := by have := u8_ne hs; simp at this ⊢; omega
                  by_cases hs' : s[k + 1] = 41
                  · have hs2 : (((s[k + 1]).toNat : Int) == 41) = true := by rw [hs']; rfl
                    have HY := Lib.hid (HX.out.trans (resAt_sep hkl (.inr hs')))
                    clear hs hs'
                    go_wp2_with fail
                    go_ret
                    exact ⟨by rw [HY.out]; rfl, HBW.out⟩
                  · have hs2 : (((s[k + 1]).toNat : Int) == 41) = false := by have := u8_ne hs'; simp at this ⊢; omega
                    have HY := Lib.hid (HX.out.trans (resAt_ty hkl (by simp [hs, hs'])))
                    clear hs hs'
                    go_wp2_with fail
                    refine (IH.out (s.extract (k + 1) s.size) _ (by rw [ext_len (by omega)]; omega) (by rw [ext_len (by omega)]; omega)).mono ?_
                    rintro e w3 ⟨rfl, hb3⟩
                    have HB3 := Lib.hid (sq HBW.out hb3)
                    clear hb3
                    have hT := tyAt_ext (f := f) (k := k + 1) (s := s)
                    cases ho : ty f (s.extract (k + 1) s.size).data.toList with
                    | none =>
                      rw [ho] at hT
                      have HF := Lib.hid (HY.out.trans hT : tyAt (f + 1) s 0 = none)
                      clear ho hT
                      rw [teV_none rfl]
                      go_wp2_with fail
                      go_ret
                      exact ⟨by rw [HF.out]; rfl, HB3.out⟩
                    | some q =>
                      rw [ho] at hT
                      simp only [Option.map_some] at hT
                      have hq := tyAt_le (by omega) hT
                      have HF := Lib.hid (HY.out.trans hT)
                      clear ho hT
                      rw [teV_some rfl]
                      have hq1 : ((q : Int) == 0) = false := beq_eq_false_iff_ne.2 (by omega)
                      go_wp2_with fail
                      go_ret
                      refine ⟨?_, HB3.out⟩
                      rw [teV_some HF.out]
                      simp
                      omega
            · rw [decide_eq_false hc] at hg41
              have hc1 : (((s[k]).toNat : Int) != 41) = true := by have := u8_ne hc; simp at this ⊢; omega
              by_cases hm0 : m = 0
              · subst hm0
                have HN := Lib.hid (show fnAt f s 0 = (tyAt f s k).bind (parsAt f s 1) from HP.out.symm.trans (parsAt_first hg41))
                clear hg41 hg44 hc
                go_wp2_with fail
                refine (IH.out (s.extract (k) s.size) _ (by rw [ext_len (by omega)]; omega) (by rw [ext_len (by omega)]; omega)).mono ?_
                rintro e w3 ⟨rfl, hb3⟩
                have HB3 := Lib.hid (sq HBW.out hb3)
                clear hb3
                have hT := tyAt_ext (f := f) (k := k) (s := s)
                cases ho : ty f (s.extract (k) s.size).data.toList with
                | none =>
                  rw [ho] at hT
                  have HF := Lib.hid (HE.out.trans (HN.out.trans (by rw [hT]; rfl)) : Hid (tyAt (f + 1) s 0 = none))
                  clear ho hT
                  rw [teV_none rfl]
                  go_wp2_with fail
                  go_ret
                  exact ⟨by rw [HF.out]; rfl, HB3.out⟩
                | some q =>
                  rw [ho] at hT
                  simp only [Option.map_some] at hT
                  have hq := tyAt_le (by omega) hT
                  have HF := Lib.hid (HE.out.trans (HN.out.trans (by rw [hT]; rfl)) : Hid (tyAt (f + 1) s 0 = parsAt f s (0 + 1) (q + (k))))
                  clear ho hT
                  rw [teV_some rfl]
                  have hq1 : ((q : Int) == 0) = false := beq_eq_false_iff_ne.2 (by omega)
                  by_cases hend : q + (k) < s.size
                  · have he1 : decide ((s.size : Int) ≤ (k : Int) + (q : Int)) = false := decide_eq_false (by omega)
                    go_wp2_with fail
                    exact ⟨⟨0 + 1, q + (k), by go_num, by go_num, by omega, by omega, hend, Lib.hid (HE.out.symm.trans HF.out).symm, HB3.out⟩, by simp [intOf]⟩
                  · have HZ := Lib.hid (HF.out.trans (parsAt_end (by omega) (by omega) (by omega)))
                    have he1 : decide ((s.size : Int) ≤ (k : Int) + (q : Int)) = true := decide_eq_true (by omega)
                    go_wp2_with fail
                    go_ret
                    exact ⟨by rw [HZ.out]; rfl, HB3.out⟩
              · have hgt : decide ((0 : Int) < (m : Int)) = true := decide_eq_true (by omega)
                by_cases hc2 : s[k] = 44
                · rw [decide_eq_true hc2] at hg44
                  have hc3 : (((s[k]).toNat : Int) != 44) = false := by rw [hc2]; rfl
                  by_cases hm4 : m = 4
                  · subst hm4
                    have HN := Lib.hid (HE.out.trans (HP.out.symm.trans (parsAt_full hg41 (by omega))))
                    clear hg41 hg44 hc hc2
                    go_wp2_with fail
                    refine (IH.out (s.extract (k + 1) s.size) _ (by rw [ext_len (by omega)]; omega) (by rw [ext_len (by omega)]; omega)).mono ?_
                    rintro e w3 ⟨rfl, hb3⟩
                    have HB3 := Lib.hid (sq HBW.out hb3)
                    clear hb3
                    unfold teV
                    generalize (ty f (s.extract (k + 1) s.size).data.toList).getD 0 = q
                    by_cases hq0 : q = 0
                    · subst hq0
                      go_wp2_with fail
                      go_ret
                      exact ⟨by rw [HN.out]; rfl, HB3.out⟩
                    · have hq1 : ((q : Int) == 0) = false := beq_eq_false_iff_ne.2 (by omega)
                      go_wp2_with fail
                      go_ret
                      exact ⟨by rw [HN.out]; rfl, HB3.out⟩
                  · have HN := Lib.hid (show fnAt f s 0 = (tyAt f s (k + 1)).bind (parsAt f s (m + 1)) from HP.out.symm.trans (parsAt_more hg41 (by omega) (by omega) hg44))
                    clear hg41 hg44 hc hc2
                    go_wp2_with fail
                    refine (IH.out (s.extract (k + 1) s.size) _ (by rw [ext_len (by omega)]; omega) (by rw [ext_len (by omega)]; omega)).mono ?_
                    rintro e w3 ⟨rfl, hb3⟩
                    have HB3 := Lib.hid (sq HBW.out hb3)
                    clear hb3
                    have hT := tyAt_ext (f := f) (k := k + 1) (s := s)
                    cases ho : ty f (s.extract (k + 1) s.size).data.toList with
                    | none =>
                      rw [ho] at hT
                      have HF := Lib.hid (HE.out.trans (HN.out.trans (by rw [hT]; rfl)) : Hid (tyAt (f + 1) s 0 = none))
                      clear ho hT
                      rw [teV_none rfl]
                      go_wp2_with fail
                      go_ret
                      exact ⟨by rw [HF.out]; rfl, HB3.out⟩
                    | some q =>
                      rw [ho] at hT
                      simp only [Option.map_some] at hT
                      have hq := tyAt_le (by omega) hT
                      have HF := Lib.hid (HE.out.trans (HN.out.trans (by rw [hT]; rfl)) : Hid (tyAt (f + 1) s 0 = parsAt f s (m + 1) (q + (k + 1))))
                      clear ho hT
                      rw [teV_some rfl]
                      have hq1 : ((q : Int) == 0) = false := beq_eq_false_iff_ne.2 (by omega)
                      by_cases hend : q + (k + 1) < s.size
                      · have he1 : decide ((s.size : Int) ≤ (k : Int) + 1 + (q : Int)) = false := decide_eq_false (by omega)
                        go_wp2_with fail
                        exact ⟨⟨m + 1, q + (k + 1), by go_num, by go_num, by omega, by omega, hend, Lib.hid (HE.out.symm.trans HF.out).symm, HB3.out⟩, by simp [intOf]; omega⟩
                      · have HZ := Lib.hid (HF.out.trans (parsAt_end (by omega) (by omega) (by omega)))
                        have he1 : decide ((s.size : Int) ≤ (k : Int) + 1 + (q : Int)) = true := decide_eq_true (by omega)
                        go_wp2_with fail
                        go_ret
                        exact ⟨by rw [HZ.out]; rfl, HB3.out⟩
                · rw [decide_eq_false hc2] at hg44
                  have hc3 : (((s[k]).toNat : Int) != 44) = true := by have := u8_ne hc2; simp at this ⊢; omega
                  have HN := Lib.hid (HE.out.trans (HP.out.symm.trans (show parsAt f s m k = none from if h4 : m = 4 then parsAt_full hg41 (by omega) else parsAt_no hg41 (by omega) (by omega) hg44)))
                  clear hg41 hg44 hc hc2
                  go_wp2_with fail
                  go_ret
                  exact ⟨by rw [HN.out]; rfl, HBW.out⟩
end Go.Proofs.YtkpejdkffkhekaaGreatDoor
