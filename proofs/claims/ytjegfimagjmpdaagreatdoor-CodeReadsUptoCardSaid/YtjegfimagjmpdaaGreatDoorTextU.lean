/- The document's 'Unquote': its contract. Conditions: none. -/
import Derived.Test.YtjegfimagjmpdaaGreatDoorTx
set_option maxRecDepth 20000
namespace Go.Proofs.YtjegfimagjmpdaaGreatDoor
open Go.ChangeShapes Go.WideShapes Go.ChangeAt Go.RowKit
set_option maxHeartbeats 2000000 in
theorem refUnquote_any (s : ByteArray) (hs : s.size ≤ 140737488351232) (w : World) : Calls Tryz.prog 11 #[.string s] w fun e w' => e = .returned (unqV s) ∧ ∃ n, w' = w.drewN n := by
  have he0 : (s.toList == []) = decide (s.size = 0) := by
    have : s.toList.length = s.size := by rw [ByteArray.toList_eq]; rfl
    rw [← this, Bool.eq_iff_iff]; simp
  by_cases h0 : s.size = 0
  · have HF := Lib.hid (unqV_none (unq_short (s := s) (by omega)))
    rw [decide_eq_true h0] at he0
    have he1 : s.toList = [] := by simpa using he0
    have he2 : s.toList.isEmpty = true := by simp [he1]
    clear h0
    go_enter Tryz.func11, Tryz.ntmps11
    go_wp2_with fail
    go_returns
    exact ⟨by rw [HF.out]; rfl, 0, rfl⟩
  · have he2 : s.toList.isEmpty = false := by
      rw [decide_eq_false h0] at he0
      cases h : s.toList with
      | nil => rw [h] at he0; simp at he0
      | cons _ _ => rfl
    rw [decide_eq_false h0] at he0
    have h00 : 0 < s.size := by omega
    by_cases h34 : s[0] = 34
    · have g0 : ((s[0].toNat : Int) != 34) = false := by rw [h34]; rfl
      have hU := unq_text h00 h34
      have HU := Lib.hid hU
      clear hU h34
      generalize hL : textLen s.data.toList = L at *
      by_cases hLs : L = s.size
      · obtain ⟨m, hm1, hm2, hm3⟩ := HU.out.2 hLs
        have HF := Lib.hid (unqV_some hm2)
        have HM := Lib.hid hm1
        have gL : ((L : Int) != (s.size : Int)) = false := by simp [hLs]
        have h2 : 2 ≤ s.size := by
          rcases Nat.lt_or_ge s.size 2 with h | h
          · rw [dec_over (by omega)] at hm1; cases hm1
          · exact h
        have HL := Lib.hid hL
        have HLS := Lib.hid hLs
        clear hm1 hm2 hL hLs HU h0
        go_enter Tryz.func11, Tryz.ntmps11
        go_wp2_with fail
        refine (textAt_any s hs _).mono ?_
        rintro e w2 ⟨rfl, n, rfl⟩
        rw [HL.out]
        go_wp2_with fail
        go_loopw [4, 5] (fun t i wr => ∃ (k : Nat) (out : List UInt8) (T : ByteArray), i = .int .i64 (k : Int) ∧ t = .string T ∧ 1 ≤ k ∧ k + 1 ≤ s.size ∧ Hid (T = ⟨out.toArray⟩ ∧ ahead out (dec (s.data.toList.drop k)) = some (m, [])) ∧ ∃ n, wr = w.drewN n) (fun _ i _ => s.size - (intOf i).toNat)
        case atStart => exact ⟨1, [], _, rfl, rfl, by omega, by omega, Lib.hid ⟨rfl, by rw [ahead_nil]; exact HM.out⟩, n, rfl⟩
        case round =>
          obtain ⟨k, out, T, rfl, rfl, hk1, hk2, HT, n2, rfl⟩ := hrel
          have hTs : T.size ≤ 200 := by
            have := ahead_len HT.out.2
            rw [HT.out.1]
            show out.length ≤ 200
            omega
          by_cases hlt : k + 1 < s.size
          · have gk : decide ((k : Int) < (s.size : Int) - 1) = true := decide_eq_true (by omega)
            have hkl : k < s.size := by omega
            by_cases hc : s[k] = 92
            · obtain ⟨hk3, x, hx, hA⟩ := ahead_esc hlt hc HT.out.2
              have g1 : ((s.extract k (k + 1)).toList == [92]) = true := by rw [ext_toList hkl, hc]; rfl
              have gn := ext_toList hlt 110
              have gt := ext_toList hlt 116
              have hX := ext_one s (k + 1) hlt
              have HX := Lib.hid hX
              have HA := Lib.hid hA
              clear hc hA hX
              rcases esc_cases s[k + 1] with he | he | he | he | ⟨he1, he2, he3, he4⟩
              · rw [he] at gn gt hx
                rw [show decide ((110 : UInt8) = 110) = true by decide] at gn
                rw [show decide ((110 : UInt8) = 116) = false by decide] at gt
                obtain rfl : x = 10 := by rw [show escOf 110 = some 10 by decide] at hx; injection hx with hx; exact hx.symm
                have HS := Lib.hid (show T ++ ⟨#[10]⟩ = ⟨(out ++ [10]).toArray⟩ by rw [HT.out.1]; exact mk_app _ _)
                clear he hx
                go_wp2_with fail
                go_roundw
                case rel => exact ⟨k + 1 + 1, _, _, by go_num, rfl, by omega, by omega, Lib.hid ⟨HS.out, HA.out⟩, n2, rfl⟩
                case measure => simp [intOf]; omega
              · rw [he] at gn gt hx
                rw [show decide ((116 : UInt8) = 110) = false by decide] at gn
                rw [show decide ((116 : UInt8) = 116) = true by decide] at gt
                obtain rfl : x = 9 := by rw [show escOf 116 = some 9 by decide] at hx; injection hx with hx; exact hx.symm
                have HS := Lib.hid (show T ++ ⟨#[9]⟩ = ⟨(out ++ [9]).toArray⟩ by rw [HT.out.1]; exact mk_app _ _)
                clear he hx
                go_wp2_with fail
                go_roundw
                case rel => exact ⟨k + 1 + 1, _, _, by go_num, rfl, by omega, by omega, Lib.hid ⟨HS.out, HA.out⟩, n2, rfl⟩
                case measure => simp [intOf]; omega
              · rw [he] at gn gt hx
                rw [show decide ((34 : UInt8) = 110) = false by decide] at gn
                rw [show decide ((34 : UInt8) = 116) = false by decide] at gt
                obtain rfl : x = 34 := by rw [show escOf 34 = some 34 by decide] at hx; injection hx with hx; exact hx.symm
                have HS := Lib.hid (show T ++ s.extract (k + 1) (k + 1 + 1) = ⟨(out ++ [34]).toArray⟩ by rw [HT.out.1, HX.out, he]; exact mk_app _ _)
                clear he hx
                go_wp2_with fail
                go_roundw
                case rel => exact ⟨k + 1 + 1, _, _, by go_num, rfl, by omega, by omega, Lib.hid ⟨HS.out, HA.out⟩, n2, rfl⟩
                case measure => simp [intOf]; omega
              · rw [he] at gn gt hx
                rw [show decide ((92 : UInt8) = 110) = false by decide] at gn
                rw [show decide ((92 : UInt8) = 116) = false by decide] at gt
                obtain rfl : x = 92 := by rw [show escOf 92 = some 92 by decide] at hx; injection hx with hx; exact hx.symm
                have HS := Lib.hid (show T ++ s.extract (k + 1) (k + 1 + 1) = ⟨(out ++ [92]).toArray⟩ by rw [HT.out.1, HX.out, he]; exact mk_app _ _)
                clear he hx
                go_wp2_with fail
                go_roundw
                case rel => exact ⟨k + 1 + 1, _, _, by go_num, rfl, by omega, by omega, Lib.hid ⟨HS.out, HA.out⟩, n2, rfl⟩
                case measure => simp [intOf]; omega
              · exfalso
                unfold escOf at hx
                rw [if_neg he1, if_neg he2, if_neg he3, if_neg he4] at hx
                cases hx
            · have g1 : ((s.extract k (k + 1)).toList == [92]) = false := by rw [ext_toList hkl]; simpa using hc
              have HA := Lib.hid (ahead_plain hlt hc HT.out.2)
              have HX := Lib.hid (show T ++ s.extract k (k + 1) = ⟨(out ++ [s[k]]).toArray⟩ by rw [HT.out.1, ext_one s k hkl]; exact mk_app _ _)
              clear hc
              go_wp2_with fail
              go_roundw
              case rel => exact ⟨k + 1, _, _, by go_num, rfl, by omega, by omega, Lib.hid ⟨HX.out, HA.out⟩, n2, rfl⟩
              case measure => simp [intOf]; omega
          · have gk : decide ((k : Int) < (s.size : Int) - 1) = false := decide_eq_false (by omega)
            have HE := Lib.hid (ahead_done (by omega) HT.out.2)
            go_wp2_with fail
            go_returns
            exact ⟨by rw [HF.out, ← HE.out, ← HT.out.1]; rfl, n2, rfl⟩
      · have HF := Lib.hid (unqV_none (HU.out.1 hLs))
        have gL : ((L : Int) != (s.size : Int)) = true := by simp; omega
        have HL := Lib.hid hL
        clear hL hLs HU
        go_enter Tryz.func11, Tryz.ntmps11
        go_wp2_with fail
        refine (textAt_any s hs _).mono ?_
        rintro e w2 ⟨rfl, n, rfl⟩
        rw [HL.out]
        go_wp2_with fail
        go_returns
        exact ⟨by rw [HF.out]; rfl, n, rfl⟩
    · have g0 : ((s[0].toNat : Int) != 34) = true := by have := u8_ne h34; simp at this ⊢; omega
      have HF := Lib.hid (unqV_none (unq_first h00 h34))
      clear h34
      go_enter Tryz.func11, Tryz.ntmps11
      go_wp2_with fail
      go_returns
      exact ⟨by rw [HF.out]; rfl, 0, rfl⟩
end Go.Proofs.YtjegfimagjmpdaaGreatDoor
