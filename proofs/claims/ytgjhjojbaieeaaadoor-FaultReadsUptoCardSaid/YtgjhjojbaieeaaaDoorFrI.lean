/- The document's 'inside'. Conditions: the length. -/
import Derived.Test.YtgjhjojbaieeaaaDoorFrN
import Derived.Test.YtgjhjojbaieeaaaDoorReadNA
set_option maxRecDepth 20000
namespace Go.Proofs.YtgjhjojbaieeaaaDoor
open Go.ChangeShapes Go.WideShapes Go.ChangeAt Go.RowKit
def isDg (c : UInt8) : Bool := decide (48 ≤ c.toNat) && decide (c.toNat ≤ 57)
theorem digit_any (c : UInt8) (w : World) : Calls Tryd.prog 14 #[.int .u8 (c.toNat : Int)] w fun e w' => e = .returned (.bool (isDg c)) ∧ w' = w := by
  by_cases h1 : 48 ≤ c.toNat
  · have h1i : (48 : Int) ≤ (c.toNat : Int) := by omega
    by_cases h2 : c.toNat ≤ 57
    · have h2i : (c.toNat : Int) ≤ 57 := by omega
      have HE := Lib.hid (show isDg c = true by simp [isDg, h1, h2])
      clear h1 h2
      go_enter Tryd.func14, Tryd.ntmps14
      go_wp2_with fail
      go_ret
      exact ⟨by rw [HE.out]; rfl, rfl⟩
    · have h2i : ¬ (c.toNat : Int) ≤ 57 := by omega
      have HE := Lib.hid (show isDg c = false by simp [isDg]; omega)
      clear h1 h2
      go_enter Tryd.func14, Tryd.ntmps14
      go_wp2_with fail
      go_ret
      exact ⟨by rw [HE.out]; rfl, rfl⟩
  · have h1i : ¬ (48 : Int) ≤ (c.toNat : Int) := by omega
    have HE := Lib.hid (show isDg c = false by simp [isDg]; omega)
    clear h1
    go_enter Tryd.func14, Tryd.ntmps14
    go_wp2_with fail
    go_ret
    exact ⟨by rw [HE.out]; rfl, rfl⟩
theorem isM_or (c : UInt8) : isM c = (decide (c = 45) || isDg c) := rfl
set_option maxHeartbeats 4000000 in
theorem inside_any (s : ByteArray) (w : World) (hs : s.size ≤ 1048576) : Calls Tryd.prog 8 #[.string s] w fun e w' => ∃ A C, e = .returned (.slice A (insideP s.data.toList).length C) ∧ w'.ownsRow w.heap.size 3 1 (.slice A (insideP s.data.toList).length C) (insideP s.data.toList).length ((insideP s.data.toList).map (Value.int .i64)) ∧ Below w.heap.size w w' := by
  obtain ⟨i0, hi, hz0, hz1, hz2⟩ := info_parts info_int
  go_enter Tryd.func8, Tryd.ntmps8
  go_wp2_with fail
  go_loopw [3, 4] (fun lv iv wr => ∃ (i q : Nat) (acc : List Int) (A : Option Addr) (C : Nat), iv = .int .i64 (i : Int) ∧ i ≤ s.size + 1 ∧ lv = .slice A q C ∧ Hid (q = acc.length) ∧ q ≤ i ∧ Hid (insideP s.data.toList = acc ++ insideP (s.data.toList.drop i)) ∧ wr.ownsRow w.heap.size 3 1 (.slice A q C) q (acc.map (Value.int .i64)) ∧ Below w.heap.size w wr) (fun _ iv _ => s.size + 1 - (intOf iv).toNat)
  case atStart => exact ⟨0, 0, [], none, 0, rfl, by omega, rfl, rfl, by omega, Lib.hid (by simp), World.ownsRow_nil _ _ _ _, Below.refl _ _⟩
  case round =>
    obtain ⟨i, q, acc, A, C, rfl, hi1, rfl, HQ, hqi, HI, hown, hbel⟩ := hrel
    have HOW := Lib.hid hown
    have HBE := Lib.hid hbel
    clear hown hbel
    by_cases hlt : i < s.size
    · have hlti : (i : Int) < (s.size : Int) := by omega
      go_wp2_with fail
      go_loop [5] (fun a => ∃ k d : Nat, a = .int .i64 (k : Int) ∧ Hid (k = i + d) ∧ i ≤ k ∧ k ≤ s.size ∧ Hid (d ≤ mlen (s.data.toList.drop i))) (fun a => s.size - (intOf a).toNat)
      case atStart => exact ⟨i, 0, rfl, rfl, Nat.le_refl _, by omega, Lib.hid (Nat.zero_le _)⟩
      case round =>
        obtain ⟨k, d, rfl, HK, hik, hks, HD⟩ := hrel
        have hget : ∀ h : k < s.size, (s.data.toList.drop i)[d]? = some s[k] := fun h => by
          have e := HK.out
          subst e
          rw [List.getElem?_drop]
          exact byl_g s (i + d) h
        by_cases hx : ∃ h : k < s.size, isM s[k] = true
        · obtain ⟨hlt2, hM⟩ := hx
          have HD2 := Lib.hid (tw_step (P := isM) HD.out (hget hlt2) hM)
          have HK2 := Lib.hid (show k + 1 = i + (d + 1) by have := HK.out; omega)
          have hki : (k : Int) < (s.size : Int) := by omega
          clear hget
          generalize hcc : s[k] = cc at *
          by_cases h45 : cc = 45
          · have e45 : ((cc.toNat : Int) == 45) = true := by rw [h45]; rfl
            clear h45 hM
            go_wp2_with (go_at_call 14; refine (digit_any cc _).mono ?_; rintro e w1 ⟨rfl, rfl⟩)
            exact ⟨⟨k + 1, d + 1, by go_num, HK2, by omega, by omega, HD2⟩, by simp [intOf]; omega⟩
          · have e45 : ((cc.toNat : Int) == 45) = false := nb45 h45
            have hdg : isDg cc = true := by rw [isM_or, decide_eq_false h45] at hM; simpa using hM
            clear h45 hM
            go_wp2_with (go_at_call 14; refine (digit_any cc _).mono ?_; rintro e w1 ⟨rfl, rfl⟩; rw [hdg])
            exact ⟨⟨k + 1, d + 1, by go_num, HK2, by omega, by omega, HD2⟩, by simp [intOf]; omega⟩
        · have hx2 : (¬ k < s.size) ∨ ∃ h : k < s.size, ((s[k].toNat : Int) == 45) = false ∧ isDg s[k] = false := by
            by_cases hlt2 : k < s.size
            · have h1 : isM s[k] = false := by
                cases h : isM s[k] with
                | true => exact absurd ⟨hlt2, h⟩ hx
                | false => rfl
              rw [isM_or, Bool.or_eq_false_iff, decide_eq_false_iff_not] at h1
              exact .inr ⟨hlt2, nb45 h1.1, h1.2⟩
            · exact .inl hlt2
          have HE : Hid (mlen (s.data.toList.drop i) = d) := Lib.hid (by
            by_cases hlt2 : k < s.size
            · have h1 : isM s[k] = false := by
                cases h : isM s[k] with
                | true => exact absurd ⟨hlt2, h⟩ hx
                | false => rfl
              exact Nat.le_antisymm (tw_stop (hget hlt2) h1) HD.out
            · have h3 := tw_len isM (s.data.toList.drop i)
              have h4 : s.data.toList.length = s.size := rfl
              have h5 := HD.out
              have h6 := HK.out
              rw [List.length_drop] at h3
              unfold mlen at h5 ⊢
              omega)
          have hhd : ∃ c, (s.data.toList.drop i).head? = some c := by
            rw [List.head?_drop, byl_g s i hlt]
            exact ⟨_, rfl⟩
          have HHD := Lib.hid hhd
          clear hget hx hhd
          by_cases hgt : i < k
          · have hpos : 0 < d := by have := HK.out; omega
            have HIN : Hid (insideP (s.data.toList.drop i) = (rdB ((s.data.toList.drop i).take d)).getD 0 :: insideP (s.data.toList.drop (k + 1))) := Lib.hid (by
              obtain ⟨c, hc⟩ := HHD.out
              have hM : isM c = true := by
                cases h : isM c with
                | true => rfl
                | false =>
                  have := tw_stop (P := isM) (i := 0) (by rw [← List.head?_eq_getElem?]; exact hc) h
                  have h2 := HE.out
                  unfold mlen at h2
                  omega
              rw [inside_at hc hM, HE.out, List.drop_drop, show i + (d + 1) = k + 1 by have := HK.out; omega])
            have HBY := Lib.hid (show byt (s.extract i k) = ((s.data.toList.drop i).take d).map UInt8.toNat by
              unfold byt
              rw [ext_l, HK.out, List.drop_take, Nat.add_sub_cancel_left])
            have hgi : (i : Int) < (k : Int) := by omega
            have hki2 : (k : Int) ≤ (s.size : Int) := by omega
            obtain ⟨X, hX⟩ : ∃ X, X = s.extract i k := ⟨_, rfl⟩
            rw [← hX] at HBY
            have hX' := hX.symm
            clear hX
            rcases hx2 with h | ⟨h, e45, hdg⟩
            all_goals
              try generalize hcc : s[k] = cc at *
              go_wp2_with (go_at_call 14; refine (digit_any cc _).mono ?_; rintro e w1 ⟨rfl, rfl⟩; rw [hdg])
              refine (readNumber_any X _).mono ?_
              rintro e w2 ⟨rfl, hb2⟩
              have hown := own_2 HOW.out hb2
              have hb3 := below_2 HBE.out hb2 HBE.out.size
              have hbs := hb3.size
              clear hb2
              obtain ⟨z, e0, hz, hv⟩ : ∃ z e0, readV X = .tuple #[.int .i64 z, .int .i64 e0] ∧ (rdB ((s.data.toList.drop i).take d)).getD 0 = z := by
                unfold rdB
                rw [← HBY.out]
                cases hrd : rd (byt X) with
                | none => exact ⟨0, 3, readV_none hrd, rfl⟩
                | some v => exact ⟨v, 0, readV_some hrd, rfl⟩
              rw [hz]
              rw [hv] at HIN
              clear hz hv
              go_wp2_with (at_builtin; refine wpList_append_rd _ rfl _ _ 30 rfl w.heap.size 3 i0 _ 1 8 Tryd.underlying30 hi hz0 hz1 hz2 rfl (by omega) _ _ _ rfl (hown.alloc _) _ _ 1 1 [_] rfl (Rd.lit1 _ _ _) (one1 rfl) (by unfold maxLen; omega) (by omega) (by simp; omega) ?_; intro A3 c3 w3 hown3 hgrow3 _)
              have HB4 := Lib.hid ((hb3.alloc hbs _).grown hgrow3 (by simp; omega) (fun q hq => (hown.lt q hq).1))
              have HQ4 := Lib.hid (show q + 1 = (acc ++ [z]).length by rw [List.length_append, ← HQ.out]; rfl)
              have HI4 := Lib.hid (show insideP s.data.toList = (acc ++ [z]) ++ insideP (s.data.toList.drop (k + 1)) by rw [HI.out, HIN.out, List.append_assoc]; rfl)
              exact ⟨⟨k + 1, q + 1, acc ++ [z], A3, c3, by go_num, by omega, rfl, HQ4, by omega, HI4, by rw [List.map_append]; exact hown3, HB4.out⟩, by simp [intOf]; omega⟩
          · have hke : k = i := by omega
            have HIN : Hid (insideP (s.data.toList.drop i) = insideP (s.data.toList.drop (i + 1))) := Lib.hid (by
              obtain ⟨c, hc⟩ := HHD.out
              have hM : isM c = false := by
                cases h : isM c with
                | false => rfl
                | true =>
                  have h3 := tw_step (P := isM) (i := 0) (Nat.zero_le _) (by rw [← List.head?_eq_getElem?]; exact hc) h
                  have h2 := HE.out
                  have h4 := HK.out
                  unfold mlen at h2
                  omega
              rw [inside_no hc hM, List.drop_drop])
            have HI4 := Lib.hid (HI.out.trans (by rw [HIN.out]))
            have hgi : ¬ (i : Int) < (k : Int) := by omega
            clear hke
            rcases hx2 with h | ⟨h, e45, hdg⟩
            all_goals
              try generalize hcc : s[k] = cc at *
              go_wp2_with (go_at_call 14; refine (digit_any cc _).mono ?_; rintro e w1 ⟨rfl, rfl⟩; rw [hdg])
              exact ⟨⟨i + 1, q, acc, A, C, by go_num, by omega, rfl, HQ, by omega, HI4, HOW.out, HBE.out⟩, by simp [intOf]; omega⟩
    · have hlti : ¬ (i : Int) < (s.size : Int) := by omega
      have HF := Lib.hid (show insideP s.data.toList = acc by
        rw [HI.out, List.drop_eq_nil_of_le (show s.data.toList.length ≤ i from (by have : s.data.toList.length = s.size := rfl; omega)), inside_nil, List.append_nil])
      go_wp2_with fail
      go_ret
      rw [HF.out]
      have hql := HQ.out
      subst hql
      exact ⟨A, C, rfl, HOW.out, HBE.out⟩
end Go.Proofs.YtgjhjojbaieeaaaDoor
