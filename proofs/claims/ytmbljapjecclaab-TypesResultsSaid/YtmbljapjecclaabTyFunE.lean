/- The types' reader: a function's type, its pieces gathered. Conditions: none. -/
import Derived.Test.YtmbljapjecclaabTyPcs
set_option maxRecDepth 20000
namespace Go.Proofs.Ytmbljapjecclaab
open Go.ChangeShapes Go.WideShapes Go.ChangeAt Go.RowKit
theorem resP_of {f : Nat} {S : ByteArray} {k p : Nat} {x : Option (List ByteArray × Nat)} {qs : List ByteArray} (h : x = addP qs (resP f S k)) (hp : resAt f S k = some p) : x = some (qs ++ [S.extract k p], p) := by
  rw [h]; unfold resP; rw [hp]; rfl
theorem resP_no {f : Nat} {S : ByteArray} {k : Nat} {x : Option (List ByteArray × Nat)} {qs : List ByteArray} (h : x = addP qs (resP f S k)) (hp : resAt f S k = none) : x = none := by
  rw [h]; unfold resP; rw [hp]; rfl
set_option maxHeartbeats 4000000 in
theorem funEach_any (f g bl bt base : Nat) (S : ByteArray) (hS : S.size ≤ 1000) (hgl : g < base ∧ bl < base ∧ bl ≠ g ∧ bt ≠ g ∧ bt < base ∧ bt ≠ bl) (hone : ∀ k w, S.size - k < f → k ≤ S.size → Rdr w g S k → Calls Try.prog 54 #[.pointer (some ⟨g, 0, none⟩)] w (OneP (tyAt f S k) g S w)) (k : Nat) (hk : k ≤ S.size) (hf : S.size - k ≤ f) (w : World) (hbase : base ≤ w.heap.size) (hr : Rdr w g S k) (hacc : Acc w base bl []) (htx : w.cell? ⟨bt, 0, none⟩ = some (.string S)) :
    Calls Try.prog 102 #[.pointer (some ⟨g, 0, none⟩), .func (.func 103) #[] #[.pointer (some ⟨bl, 0, none⟩), .pointer (some ⟨bt, 0, none⟩)]] w (EachP (fnP f S k) g bl bt base S w) := by
  have HR := Lib.hid hr
  have HA := Lib.hid hacc
  have HTX := Lib.hid htx
  have HG := Lib.hid (Ch.refl base g bl w)
  have HO := Lib.hid hone
  clear hr hone hacc htx
  have ht5 : (ByteArray.mk #[102, 117, 110, 99, 40]).size ≤ 1000 := by decide
  have ht1 : ∀ c : UInt8, (ByteArray.mk #[c]).size ≤ 1000 := fun c => by show 1 ≤ 1000; omega
  have HT := Lib.hid (And.intro ht5 ht1)
  clear ht5 ht1
  have hcmp : ∀ W : World, Sem.run Try.prog (binOp BinOp.neq 154 (.func (.func 103) #[] #[.pointer (some ⟨bl, 0, none⟩), .pointer (some ⟨bt, 0, none⟩)]) Value.nilFunc) W = .ok (.bool true) W := fun W => by kernel_rfl
  cases hb : hasB S k ⟨#[102, 117, 110, 99, 40]⟩
  · have HB := Lib.hid hb
    clear hb
    go_enter Try.func102, Try.ntmps102
    go_wp2_with fail
    refine (has_any g (k) S _ false HB.out.symm _ HR.out hk hS HT.out.1).mono ?_
    rintro e w1 ⟨rfl, hr0, hg0⟩
    have HR1 := Lib.hid (show Rdr w1 g S (k) from hr0)
    have HA1 := Lib.hid (HA.out.gb hg0 hgl.2.2.1 hgl.1 hgl.2.1 (Nat.le_trans hbase HG.out.size))
    have HT1 := Lib.hid (txt_gb HTX.out hg0 hgl.2.2.2.1)
    have HG1 := Lib.hid (HG.out.trans (Ch.of_gb hg0 (Nat.le_trans hbase HG.out.size)))
    clear hr0 hg0
    go_wp2_with fail
    go_ret
    exact EachP.no (by unfold fnP; rw [HB.out]; rfl) HG1.out
  · have hkS : k + 5 ≤ S.size := by
      have := pre_len hb
      rw [List.length_drop] at this
      have e1 : S.data.toList.length = S.size := rfl
      simp at this
      omega
    have HE := Lib.hid (show fnP f S k = pcsAt f S 0 (k + 5) by unfold fnP; rw [hb]; rfl)
    have HB := Lib.hid hb
    clear hb
    go_enter Try.func102, Try.ntmps102
    go_wp2_with fail
    refine (has_any g (k) S _ true HB.out.symm _ HR.out hk hS HT.out.1).mono ?_
    rintro e w1 ⟨rfl, hr0, hg0⟩
    have HR1 := Lib.hid (show Rdr w1 g S (k + 5) from hr0)
    have HA1 := Lib.hid (HA.out.gb hg0 hgl.2.2.1 hgl.1 hgl.2.1 (Nat.le_trans hbase HG.out.size))
    have HT1 := Lib.hid (txt_gb HTX.out hg0 hgl.2.2.2.1)
    have HG1 := Lib.hid (HG.out.trans (Ch.of_gb hg0 (Nat.le_trans hbase HG.out.size)))
    clear hr0 hg0
    go_wp2_with fail
    go_loopw [5] (fun n wr => ∃ (m k' : Nat) (qs : List ByteArray), n = .int .i64 (m : Nat) ∧ m ≤ 4 ∧ k < k' ∧ k' ≤ S.size ∧ qs.length ≤ m ∧ Rdr wr g S k' ∧ Acc wr base bl qs ∧ wr.cell? ⟨bt, 0, none⟩ = some (.string S) ∧ Ch base g bl w wr ∧ Hid (addP qs (pcsAt f S m k') = fnP f S k)) (fun n _ => 5 - (intOf n).toNat)
    case atStart => exact ⟨0, k + 5, [], rfl, by omega, by omega, hkS, by simp, HR1.out, HA1.out, HT1.out, HG1.out, Lib.hid (by rw [addP_nil]; exact HE.out.symm)⟩
    case round =>
      obtain ⟨m, k', qs, rfl, hm, hkk, hk'S, hqs, hr, ha, htx, hg, HP⟩ := hrel
      have HQ := Lib.hid hqs
      have HR2 := Lib.hid hr
      have HA2 := Lib.hid ha
      have HT2 := Lib.hid htx
      have HG2 := Lib.hid hg
      clear hqs hr hg ha htx HR1 HG1 HA1 HT1 HE HR HA HTX HG
      cases hb : hasB S k' ⟨#[41]⟩
      · have HB := Lib.hid hb
        clear hb
        go_wp2_with fail
        refine (has_any g (k') S _ false HB.out.symm _ HR2.out hk'S hS (HT.out.2 _)).mono ?_
        rintro e w2 ⟨rfl, hr0, hg0⟩
        have HR3 := Lib.hid (show Rdr w2 g S (k') from hr0)
        have HA3 := Lib.hid (HA2.out.gb hg0 hgl.2.2.1 hgl.1 hgl.2.1 (Nat.le_trans hbase HG2.out.size))
        have HT3 := Lib.hid (txt_gb HT2.out hg0 hgl.2.2.2.1)
        have HG3 := Lib.hid (HG2.out.trans (Ch.of_gb hg0 (Nat.le_trans hbase HG2.out.size)))
        clear hr0 hg0
        clear HR2 HG2 HA2 HT2
        by_cases hm4 : m = 4
        · have HN := Lib.hid (HP.out.symm.trans (by rw [pcsAt_full HB.out (by omega)]; rfl) : fnP f S k = none)
          subst hm4
          go_wp2_with fail
          go_ret
          exact EachP.no HN.out HG3.out
        · by_cases hm0 : m = 0
          · subst hm0
            have HN := Lib.hid (show fnP f S k = addP qs ((tyAt f S k').bind fun p => (pcsAt f S 1 p).map fun q => (S.extract k' p :: q.1, q.2)) from HP.out.symm.trans (by rw [pcsAt_first HB.out]))
            obtain ⟨q0, q1, _, _⟩ := HR3.out
            go_wp2_with fail
            clear q0 q1
            refine (HO.out (k') _ (by omega) (by omega) HR3.out).mono ?_
            rintro e w4 h4
            rcases h4 with ⟨p, p1, rfl, p3, p4⟩ | ⟨p1, rfl, p4⟩
            · have hp := tyAt_le (by omega) p1
              have HN2 := Lib.hid (show addP (qs ++ [S.extract (k') p]) (pcsAt f S (0 + 1) p) = fnP f S k by rw [HN.out, p1, Option.bind_some, addP_cons])
              have P3 := Lib.hid p3
              have PA := Lib.hid (HA3.out.gb p4 hgl.2.2.1 hgl.1 hgl.2.1 (Nat.le_trans hbase HG3.out.size))
              have PT := Lib.hid (txt_gb HT3.out p4 hgl.2.2.2.1)
              have P4 := Lib.hid (HG3.out.trans (Ch.of_gb p4 (Nat.le_trans hbase HG3.out.size)))
              clear p1 p3 p4 HN HR3 HG3 HA3 HT3
              obtain ⟨q0, q1, _, _⟩ := P3.out
              go_wp2_with fail
              clear q0 q1
              refine (each_any (k') p bl bt base S qs w4 PA.out PT.out hgl.2.1 (Nat.le_trans hbase P4.out.size) (Nat.le_of_lt hp.1) hp.2 (by have := HQ.out; omega) bl).mono ?_
              rintro e w5 ⟨rfl, ha5, hc5⟩
              have QR := Lib.hid (P3.out.ch hc5 hgl.1 (Ne.symm hgl.2.2.1))
              have QT := Lib.hid (txt_ch PT.out hc5 hgl.2.2.2.2.1 hgl.2.2.2.2.2)
              have QA := Lib.hid ha5
              have QC := Lib.hid (P4.out.trans hc5.wide)
              clear ha5 hc5 P3 PA PT P4
              go_wp2_with fail
              go_roundw
              case rel => exact ⟨0 + 1, p, qs ++ [S.extract k' p], by go_num, by omega, by omega, hp.2, by have := HQ.out; rw [List.length_append, List.length_singleton]; omega, QR.out, QA.out, QT.out, QC.out, HN2⟩
              case measure => simp [intOf]
            · have HN2 := Lib.hid (show fnP f S k = none by rw [HN.out, p1]; rfl)
              have P4 := Lib.hid (HG3.out.trans (Ch.of_gb p4 (Nat.le_trans hbase HG3.out.size)))
              clear p1 p4
              go_wp2_with fail
              go_ret
              exact EachP.no HN2.out P4.out
          · cases hc : hasB S k' ⟨#[44]⟩
            · have HN := Lib.hid (HP.out.symm.trans (by rw [pcsAt_no HB.out (by omega) (by omega) hc]; rfl) : fnP f S k = none)
              have HC := Lib.hid hc
              clear hc
              have hne : ((m : Int) == 4) = false := beq_eq_false_iff_ne.2 (by omega)
              have hgt : decide ((0 : Int) < (m : Int)) = true := decide_eq_true (by omega)
              go_wp2_with fail
              refine (has_any g (k') S _ false HC.out.symm _ HR3.out hk'S hS (HT.out.2 _)).mono ?_
              rintro e w3 ⟨rfl, hr0, hg0⟩
              have HR4 := Lib.hid (show Rdr w3 g S (k') from hr0)
              have HA4 := Lib.hid (HA3.out.gb hg0 hgl.2.2.1 hgl.1 hgl.2.1 (Nat.le_trans hbase HG3.out.size))
              have HT4 := Lib.hid (txt_gb HT3.out hg0 hgl.2.2.2.1)
              have HG4 := Lib.hid (HG3.out.trans (Ch.of_gb hg0 (Nat.le_trans hbase HG3.out.size)))
              clear hr0 hg0
              go_wp2_with fail
              go_ret
              exact EachP.no HN.out HG4.out
            · have HN := Lib.hid (show fnP f S k = addP qs ((tyAt f S (k' + 1)).bind fun p => (pcsAt f S (m + 1) p).map fun q => (S.extract (k' + 1) p :: q.1, q.2)) from HP.out.symm.trans (by rw [pcsAt_more HB.out (by omega) (by omega) hc]))
              have hk2 : k' + 1 ≤ S.size := by
                have := pre_len hc
                rw [List.length_drop] at this
                have e1 : S.data.toList.length = S.size := rfl
                simp at this
                omega
              have HC := Lib.hid hc
              clear hc
              have hne : ((m : Int) == 4) = false := beq_eq_false_iff_ne.2 (by omega)
              have hgt : decide ((0 : Int) < (m : Int)) = true := decide_eq_true (by omega)
              go_wp2_with fail
              refine (has_any g (k') S _ true HC.out.symm _ HR3.out hk'S hS (HT.out.2 _)).mono ?_
              rintro e w3 ⟨rfl, hr0, hg0⟩
              have HR4 := Lib.hid (show Rdr w3 g S (k' + 1) from hr0)
              have HA4 := Lib.hid (HA3.out.gb hg0 hgl.2.2.1 hgl.1 hgl.2.1 (Nat.le_trans hbase HG3.out.size))
              have HT4 := Lib.hid (txt_gb HT3.out hg0 hgl.2.2.2.1)
              have HG4 := Lib.hid (HG3.out.trans (Ch.of_gb hg0 (Nat.le_trans hbase HG3.out.size)))
              clear hr0 hg0
              clear HR3 HG3 HA3 HT3
              obtain ⟨q0, q1, _, _⟩ := HR4.out
              go_wp2_with fail
              clear q0 q1
              refine (HO.out (k' + 1) _ (by omega) (by omega) HR4.out).mono ?_
              rintro e w4 h4
              rcases h4 with ⟨p, p1, rfl, p3, p4⟩ | ⟨p1, rfl, p4⟩
              · have hp := tyAt_le (by omega) p1
                have HN2 := Lib.hid (show addP (qs ++ [S.extract (k' + 1) p]) (pcsAt f S (m + 1) p) = fnP f S k by rw [HN.out, p1, Option.bind_some, addP_cons])
                have P3 := Lib.hid p3
                have PA := Lib.hid (HA4.out.gb p4 hgl.2.2.1 hgl.1 hgl.2.1 (Nat.le_trans hbase HG4.out.size))
                have PT := Lib.hid (txt_gb HT4.out p4 hgl.2.2.2.1)
                have P4 := Lib.hid (HG4.out.trans (Ch.of_gb p4 (Nat.le_trans hbase HG4.out.size)))
                clear p1 p3 p4 HN HR4 HG4 HA4 HT4
                obtain ⟨q0, q1, _, _⟩ := P3.out
                go_wp2_with fail
                clear q0 q1
                refine (each_any (k' + 1) p bl bt base S qs w4 PA.out PT.out hgl.2.1 (Nat.le_trans hbase P4.out.size) (Nat.le_of_lt hp.1) hp.2 (by have := HQ.out; omega) bl).mono ?_
                rintro e w5 ⟨rfl, ha5, hc5⟩
                have QR := Lib.hid (P3.out.ch hc5 hgl.1 (Ne.symm hgl.2.2.1))
                have QT := Lib.hid (txt_ch PT.out hc5 hgl.2.2.2.2.1 hgl.2.2.2.2.2)
                have QA := Lib.hid ha5
                have QC := Lib.hid (P4.out.trans hc5.wide)
                clear ha5 hc5 P3 PA PT P4
                go_wp2_with fail
                go_roundw
                case rel => exact ⟨m + 1, p, qs ++ [S.extract (k' + 1) p], by go_num, by omega, by omega, hp.2, by have := HQ.out; rw [List.length_append, List.length_singleton]; omega, QR.out, QA.out, QT.out, QC.out, HN2⟩
                case measure => simp [intOf]; omega
              · have HN2 := Lib.hid (show fnP f S k = none by rw [HN.out, p1]; rfl)
                have P4 := Lib.hid (HG4.out.trans (Ch.of_gb p4 (Nat.le_trans hbase HG4.out.size)))
                clear p1 p4
                go_wp2_with fail
                go_ret
                exact EachP.no HN2.out P4.out
      · have HX := Lib.hid (show fnP f S k = addP qs (resP f S (k' + 1)) from HP.out.symm.trans (by rw [pcsAt_close hb]))
        have hk2 : k' + 1 ≤ S.size := by
          have := pre_len hb
          rw [List.length_drop] at this
          have e1 : S.data.toList.length = S.size := rfl
          simp at this
          omega
        have HB := Lib.hid hb
        clear hb
        go_wp2_with fail
        refine (has_any g (k') S _ true HB.out.symm _ HR2.out hk'S hS (HT.out.2 _)).mono ?_
        rintro e w2 ⟨rfl, hr0, hg0⟩
        have HR3 := Lib.hid (show Rdr w2 g S (k' + 1) from hr0)
        have HA3 := Lib.hid (HA2.out.gb hg0 hgl.2.2.1 hgl.1 hgl.2.1 (Nat.le_trans hbase HG2.out.size))
        have HT3 := Lib.hid (txt_gb HT2.out hg0 hgl.2.2.2.1)
        have HG3 := Lib.hid (HG2.out.trans (Ch.of_gb hg0 (Nat.le_trans hbase HG2.out.size)))
        clear hr0 hg0
        clear HR2 HG2 HA2 HT2
        obtain ⟨q0, q1, q2, q3⟩ := HR3.out
        have hb0 : (0 : Int) ≤ (k' : Int) + 1 := by omega
        have hk3 : ((k' : Int) + 1).toNat = k' + 1 := by omega
        by_cases hend : k' + 1 = S.size
        · have HY := Lib.hid (resP_of HX.out (resAt_end (by omega)))
          have hd : decide ((k' : Int) + 1 < (S.size : Int)) = false := by simp; omega
          clear hend
          go_wp2_with fail
          go_quiet (fail)
          rename_i nq
          have QR0 := Lib.hid (show Rdr (w2.drewN nq) g S (k' + 1) from HR3.out)
          have QA0 := Lib.hid (show Acc (w2.drewN nq) base bl qs from HA3.out)
          have QT0 := Lib.hid (show (w2.drewN nq).cell? ⟨bt, 0, none⟩ = some (.string S) from HT3.out)
          have QG0 := Lib.hid (show Ch base g bl w (w2.drewN nq) from HG3.out.trans (Ch.of_gb (gb_drawn w2 nq _) (Nat.le_trans hbase HG3.out.size)))
          clear q0 q1 q2 q3
          obtain ⟨q0, q1, _, _⟩ := QR0.out
          go_wp2_with fail
          clear q0 q1
          refine (each_any (k' + 1) (k' + 1) bl bt base S qs _ QA0.out QT0.out hgl.2.1 (Nat.le_trans hbase QG0.out.size) (by omega) (by omega) (by have := HQ.out; omega) bl).mono ?_
          rintro e w5 ⟨rfl, ha5, hc5⟩
          have QR := Lib.hid (QR0.out.ch hc5 hgl.1 (Ne.symm hgl.2.2.1))
          have QT := Lib.hid (txt_ch QT0.out hc5 hgl.2.2.2.2.1 hgl.2.2.2.2.2)
          have QA := Lib.hid ha5
          have QC := Lib.hid (QG0.out.trans hc5.wide)
          clear ha5 hc5
          go_wp2_with fail
          go_ret
          exact EachP.yes HY.out QR.out QA.out QT.out QC.out
        · have hkl : k' + 1 < S.size := by omega
          have hkl' : (k' : Int) + 1 < (S.size : Int) := by omega
          have hd : decide ((k' : Int) + 1 < (S.size : Int)) = true := decide_eq_true hkl'
          by_cases hc : S[k' + 1] = 44
          · have HY := Lib.hid (resP_of HX.out (resAt_sep hkl (.inl hc)))
            have hc1 : (((S[k' + 1]).toNat : Int) != 44) = false := by rw [hc]; rfl
            clear hc
            go_wp2_with fail
            go_quiet (fail)
            rename_i nq
            have QR0 := Lib.hid (show Rdr (w2.drewN nq) g S (k' + 1) from HR3.out)
            have QA0 := Lib.hid (show Acc (w2.drewN nq) base bl qs from HA3.out)
            have QT0 := Lib.hid (show (w2.drewN nq).cell? ⟨bt, 0, none⟩ = some (.string S) from HT3.out)
            have QG0 := Lib.hid (show Ch base g bl w (w2.drewN nq) from HG3.out.trans (Ch.of_gb (gb_drawn w2 nq _) (Nat.le_trans hbase HG3.out.size)))
            clear q0 q1 q2 q3
            obtain ⟨q0, q1, _, _⟩ := QR0.out
            go_wp2_with fail
            clear q0 q1
            refine (each_any (k' + 1) (k' + 1) bl bt base S qs _ QA0.out QT0.out hgl.2.1 (Nat.le_trans hbase QG0.out.size) (by omega) (by omega) (by have := HQ.out; omega) bl).mono ?_
            rintro e w5 ⟨rfl, ha5, hc5⟩
            have QR := Lib.hid (QR0.out.ch hc5 hgl.1 (Ne.symm hgl.2.2.1))
            have QT := Lib.hid (txt_ch QT0.out hc5 hgl.2.2.2.2.1 hgl.2.2.2.2.2)
            have QA := Lib.hid ha5
            have QC := Lib.hid (QG0.out.trans hc5.wide)
            clear ha5 hc5
            go_wp2_with fail
            go_ret
            exact EachP.yes HY.out QR.out QA.out QT.out QC.out
          · have hc1 : (((S[k' + 1]).toNat : Int) != 44) = true := by have := u8_ne hc; simp at this ⊢; omega
            by_cases hc2 : S[k' + 1] = 41
            · have HY := Lib.hid (resP_of HX.out (resAt_sep hkl (.inr hc2)))
              have hc3 : (((S[k' + 1]).toNat : Int) != 41) = false := by rw [hc2]; rfl
              clear hc2 hc
              go_wp2_with fail
              go_quiet (fail)
              rename_i nq
              have QR0 := Lib.hid (show Rdr (w2.drewN nq) g S (k' + 1) from HR3.out)
              have QA0 := Lib.hid (show Acc (w2.drewN nq) base bl qs from HA3.out)
              have QT0 := Lib.hid (show (w2.drewN nq).cell? ⟨bt, 0, none⟩ = some (.string S) from HT3.out)
              have QG0 := Lib.hid (show Ch base g bl w (w2.drewN nq) from HG3.out.trans (Ch.of_gb (gb_drawn w2 nq _) (Nat.le_trans hbase HG3.out.size)))
              clear q0 q1 q2 q3
              obtain ⟨q0, q1, _, _⟩ := QR0.out
              go_wp2_with fail
              clear q0 q1
              refine (each_any (k' + 1) (k' + 1) bl bt base S qs _ QA0.out QT0.out hgl.2.1 (Nat.le_trans hbase QG0.out.size) (by omega) (by omega) (by have := HQ.out; omega) bl).mono ?_
              rintro e w5 ⟨rfl, ha5, hc5⟩
              have QR := Lib.hid (QR0.out.ch hc5 hgl.1 (Ne.symm hgl.2.2.1))
              have QT := Lib.hid (txt_ch QT0.out hc5 hgl.2.2.2.2.1 hgl.2.2.2.2.2)
              have QA := Lib.hid ha5
              have QC := Lib.hid (QG0.out.trans hc5.wide)
              clear ha5 hc5
              go_wp2_with fail
              go_ret
              exact EachP.yes HY.out QR.out QA.out QT.out QC.out
            · have hc3 : (((S[k' + 1]).toNat : Int) != 41) = true := by have := u8_ne hc2; simp at this ⊢; omega
              have HY := Lib.hid (resAt_ty (f := f) hkl (by simp [hc, hc2]))
              clear hc hc2
              go_wp2_with fail
              go_still_tail 36, (by kernel_rfl)
              change wpList _ _ _ _ _ w2.drew
              have HR4 := Lib.hid (show Rdr w2.drew g S (k' + 1) from HR3.out)
              have HA4 := Lib.hid (show Acc w2.drew base bl qs from HA3.out)
              have HT4 := Lib.hid (show w2.drew.cell? ⟨bt, 0, none⟩ = some (.string S) from HT3.out)
              have HG4 := Lib.hid (show Ch base g bl w w2.drew from HG3.out.trans (Ch.of_gb (gb_drawn w2 1 _) (Nat.le_trans hbase HG3.out.size)))
              clear q0 q1 q2 q3 hc1 hc3 hd HR3 HG3 HA3 HT3
              generalize w2.drew = w3 at *
              go_wp2_with fail
              refine (HO.out (k' + 1) _ (by omega) (by omega) HR4.out).mono ?_
              rintro e w4 h4
              rcases h4 with ⟨p, p1, rfl, p3, p4⟩ | ⟨p1, rfl, p4⟩
              · have hp := tyAt_le (by omega) p1
                have P1 := Lib.hid (resP_of HX.out (HY.out.trans p1))
                have P3 := Lib.hid p3
                have PA := Lib.hid (HA4.out.gb p4 hgl.2.2.1 hgl.1 hgl.2.1 (Nat.le_trans hbase HG4.out.size))
                have PT := Lib.hid (txt_gb HT4.out p4 hgl.2.2.2.1)
                have P4 := Lib.hid (HG4.out.trans (Ch.of_gb p4 (Nat.le_trans hbase HG4.out.size)))
                clear p1 p3 p4
                obtain ⟨q0, q1, _, _⟩ := P3.out
                go_wp2_with fail
                clear q0 q1
                refine (each_any (k' + 1) p bl bt base S qs w4 PA.out PT.out hgl.2.1 (Nat.le_trans hbase P4.out.size) (by omega) (by omega) (by have := HQ.out; omega) bl).mono ?_
                rintro e w5 ⟨rfl, ha5, hc5⟩
                have QR := Lib.hid (P3.out.ch hc5 hgl.1 (Ne.symm hgl.2.2.1))
                have QT := Lib.hid (txt_ch PT.out hc5 hgl.2.2.2.2.1 hgl.2.2.2.2.2)
                have QA := Lib.hid ha5
                have QC := Lib.hid (P4.out.trans hc5.wide)
                clear ha5 hc5
                go_wp2_with fail
                go_ret
                exact EachP.yes P1.out QR.out QA.out QT.out QC.out
              · have P1 := Lib.hid (resP_no HX.out (HY.out.trans p1))
                have P4 := Lib.hid (HG4.out.trans (Ch.of_gb p4 (Nat.le_trans hbase HG4.out.size)))
                clear p1 p4
                go_wp2_with fail
                go_ret
                exact EachP.no P1.out P4.out
end Go.Proofs.Ytmbljapjecclaab
