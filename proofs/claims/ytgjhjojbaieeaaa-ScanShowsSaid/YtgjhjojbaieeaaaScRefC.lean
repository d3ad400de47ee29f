/- The document's 'tokenAt'. Conditions: none. -/
import Derived.Test.YtgjhjojbaieeaaaScRefA
import Derived.Test.YtgjhjojbaieeaaaScText
import Derived.Test.YtgjhjojbaieeaaaReadNA
set_option maxRecDepth 20000
namespace Go.Proofs.Ytgjhjojbaieeaaa
open Go.ChangeShapes Go.WideShapes Go.ChangeAt Go.RowKit
/-- The token at the begin: kind, bytes, what is wrong. -/
def tokR (L : List UInt8) : Int × Int × Int :=
  if isL (L.headD 0) = true then (if 16 < alen L then (0, 0, 7) else ((if wordB (L.take (alen L)) = true then 5 else 1), (alen L : Int), 0))
  else if isD (L.headD 0) = true then (if (rd ((L.take (alen L)).map UInt8.toNat)).isNone = true then (0, 0, 3) else (2, (alen L : Int), 0))
  else if L.headD 0 = 34 then (if textLen L = 0 then (0, 0, 4) else (3, (textLen L : Int), 0))
  else if L.headD 0 = 59 then (6, 1, 0)
  else if signV L = [] then (0, 0, 2) else (4, ((signV L).length : Int), 0)
def tokV (L : List UInt8) : Value := .tuple #[.int .i64 (tokR L).1, .int .i64 (tokR L).2.1, .int .i64 (tokR L).2.2]
theorem alen_zero {L : List UInt8} (h : isA (L.headD 0) = false) : alen L = 0 := by
  cases L with
  | nil => rfl
  | cons c R =>
    unfold alen
    rw [List.takeWhile_cons, show isA c = false from h]
    rfl
theorem alen_posi {L : List UInt8} (hn : L ≠ []) (h : isA (L.headD 0) = true) : 0 < alen L := by
  cases L with
  | nil => exact absurd rfl hn
  | cons c R =>
    unfold alen
    rw [List.takeWhile_cons, show isA c = true from h]
    simp
theorem tokR_step {L : List UInt8} (h1 : L.headD 0 ≠ 10) (h2 : ¬ (L.headD 0 = 32 ∨ L.headD 0 = 9 ∨ L.headD 0 = 13)) (h3 : ¬ L.take 2 = [47, 47]) :
    (∃ (k : Int) (n : Nat), stepS L = .tok k n ∧ tokR L = (k, (n : Int), 0)) ∨ (∃ c, stepS L = .err c ∧ tokR L = (0, 0, c) ∧ c ≠ 0) := by
  unfold stepS tokR
  dsimp only
  rw [if_neg h1, if_neg h2, if_neg h3]
  split
  · split
    · exact .inr ⟨7, rfl, rfl, by decide⟩
    · exact .inl ⟨_, _, rfl, rfl⟩
  · split
    · split
      · exact .inr ⟨3, rfl, rfl, by decide⟩
      · exact .inl ⟨_, _, rfl, rfl⟩
    · split
      · split
        · exact .inr ⟨4, rfl, rfl, by decide⟩
        · exact .inl ⟨_, _, rfl, rfl⟩
      · split
        · exact .inl ⟨_, _, rfl, rfl⟩
        · split
          · exact .inr ⟨2, rfl, rfl, by decide⟩
          · exact .inl ⟨_, _, rfl, rfl⟩
theorem head_zero (s : ByteArray) (h : 0 < s.size) : s.data.toList.headD 0 = s[0] := by
  have := head_get s 0 h
  simpa using this
theorem tokR_name {L : List UInt8} (h : isL (L.headD 0) = true) : tokR L = if 16 < alen L then (0, 0, 7) else ((if wordB (L.take (alen L)) = true then 5 else 1), (alen L : Int), 0) := by
  unfold tokR
  rw [if_pos h]
theorem tokR_num {L : List UInt8} (h : isL (L.headD 0) = false) (h2 : isD (L.headD 0) = true) : tokR L = if (rd ((L.take (alen L)).map UInt8.toNat)).isNone = true then (0, 0, 3) else (2, (alen L : Int), 0) := by
  unfold tokR
  rw [if_neg (by rw [h]; decide), if_pos h2]
theorem tokR_else {L : List UInt8} (h : isA (L.headD 0) = false) : tokR L = if L.headD 0 = 34 then (if textLen L = 0 then (0, 0, 4) else (3, (textLen L : Int), 0))
  else if L.headD 0 = 59 then (6, 1, 0)
  else if signV L = [] then (0, 0, 2) else (4, ((signV L).length : Int), 0) := by
  unfold isA at h
  rw [Bool.or_eq_false_iff] at h
  unfold tokR
  rw [if_neg (by rw [h.1]; decide), if_neg (by rw [h.2]; decide)]
set_option maxHeartbeats 4000000 in
theorem tokenAt_any (s : ByteArray) (h0 : 0 < s.size) (hs : s.size ≤ 8000) (w : World) : Calls Try.prog 67 #[.string s] w fun e w' => e = .returned (tokV s.data.toList) ∧ Below w.heap.size w w' := by
  have HZ := Lib.hid (head_zero s h0)
  have hne : s.data.toList ≠ [] := fun e => by
    have : s.data.toList.length = 0 := by rw [e]; rfl
    have h5 : s.data.toList.length = s.size := rfl
    omega
  have HNE := Lib.hid hne
  clear hne
  have h0i : (0 : Int) < (s.size : Int) := by omega
  go_enter Try.func67, Try.ntmps67
  go_wp2_with fail
  go_loop [5] (fun n => ∃ i : Nat, n = .int .i64 (i : Int) ∧ i ≤ s.size ∧ Hid (i ≤ alen s.data.toList)) (fun n => s.size - (intOf n).toNat)
  case atStart => exact ⟨0, rfl, by omega, Lib.hid (Nat.zero_le _)⟩
  case round =>
    obtain ⟨i, rfl, his, HI⟩ := hrel
    by_cases hx : ∃ h : i < s.size, isA s[i] = true
    · obtain ⟨hlt, hA⟩ := hx
      have HG := Lib.hid (show s.data.toList[i]? = some s[i] by simpa using src_get s 0 i i (by omega) hlt)
      generalize hcc : s[i] = cc at *
      have HI2 := Lib.hid (tw_step (P := isA) HI.out HG.out hA)
      cases hL : isL cc with
      | true =>
        go_wp2_with (go_at_call 110; refine (refLetter_any cc _).mono ?_; rintro e w1 ⟨rfl, rfl⟩; rw [hL])
        go_round
        case rel => exact ⟨i + 1, by go_num, by omega, HI2⟩
        case measure => simp [intOf]; omega
      | false =>
        have hD : isD cc = true := by unfold isA at hA; rw [hL] at hA; simpa using hA
        go_wp2_with (first
          | (go_at_call 110; refine (refLetter_any cc _).mono ?_; rintro e w1 ⟨rfl, rfl⟩; rw [hL])
          | (go_at_call 111; refine (refDigit_any cc _).mono ?_; rintro e w1 ⟨rfl, rfl⟩; rw [hD]))
        go_round
        case rel => exact ⟨i + 1, by go_num, by omega, HI2⟩
        case measure => simp [intOf]; omega
    · have hx2 : (¬ i < s.size) ∨ ∃ h : i < s.size, isL s[i] = false ∧ isD s[i] = false := by
        by_cases hlt : i < s.size
        · right
          refine ⟨hlt, ?_⟩
          have : isA s[i] = false := by
            cases h : isA s[i] with
            | true => exact absurd ⟨hlt, h⟩ hx
            | false => rfl
          unfold isA at this
          simpa using this
        · exact .inl hlt
      have HE : Hid (alen s.data.toList = i) := Lib.hid (by
        rcases hx2 with h | ⟨h, h1, h2⟩
        · have := tw_len isA s.data.toList
          have h5 : s.data.toList.length = s.size := rfl
          have h6 := HI.out
          unfold alen at h6 ⊢
          omega
        · exact Nat.le_antisymm (tw_stop (show s.data.toList[i]? = some s[i] by simpa using src_get s 0 i i (by omega) h) (by unfold isA; rw [h1, h2]; rfl)) HI.out)
      clear hx
      have HIS := Lib.hid his
      by_cases hz : i = 0
      · have hn0 : isA s[0] = false := by
          cases h : isA s[0] with
          | false => rfl
          | true =>
            exfalso
            have := alen_posi HNE.out (by rw [HZ.out]; exact h)
            rw [HE.out] at this
            omega
        have HR := Lib.hid (tokR_else (by rw [HZ.out]; exact hn0))
        rcases hx2 with h | ⟨h, hL, hD⟩
        · exact absurd h0 (hz ▸ h)
        · have hnz : ¬ (0 : Int) < (i : Int) := by omega
          have h00 : s[0] = s[i] := by simp [hz]
          rw [HZ.out, h00] at HR
          generalize hcc : s[i] = cc at *
          clear hz hn0 HZ
          by_cases h34 : cc = 34
          · have e34 : ((cc.toNat : Int) == 34) = true := by rw [h34]; rfl
            have H34 := Lib.hid h34
            clear h34
            go_wp2_with (first
              | (go_at_call 110; refine (refLetter_any cc _).mono ?_; rintro e w1 ⟨rfl, rfl⟩; rw [hL])
              | (go_at_call 111; refine (refDigit_any cc _).mono ?_; rintro e w1 ⟨rfl, rfl⟩; rw [hD]))
            refine (textAt_any _ (by omega) _).mono ?_
            rintro e w1 ⟨rfl, n, rfl⟩
            by_cases ht : textLen s.data.toList = 0
            · have HT := Lib.hid ht
              rw [ht]
              clear ht
              go_wp2_with fail
              go_returns
              exact ⟨by unfold tokV; rw [HR.out, if_pos H34.out, if_pos HT.out]; rfl, dr (Below.refl _ _) n⟩
            · have HT := Lib.hid ht
              have hti : (((textLen s.data.toList : Nat) : Int) == 0) = false := by simpa using ht
              clear ht
              go_wp2_with fail
              go_returns
              exact ⟨by unfold tokV; rw [HR.out, if_pos H34.out, if_neg HT.out]; rfl, dr (Below.refl _ _) n⟩
          · have e34 : ((cc.toNat : Int) == 34) = false := eq_c h34
            by_cases h59 : cc = 59
            · have e59 : ((cc.toNat : Int) == 59) = true := by rw [h59]; rfl
              have H59 := Lib.hid h59
              clear h59
              go_wp2_with (first
                | (go_at_call 110; refine (refLetter_any cc _).mono ?_; rintro e w1 ⟨rfl, rfl⟩; rw [hL])
                | (go_at_call 111; refine (refDigit_any cc _).mono ?_; rintro e w1 ⟨rfl, rfl⟩; rw [hD]))
              go_returns
              exact ⟨by unfold tokV; rw [HR.out, if_neg h34, if_pos H59.out]; rfl, Below.refl _ _⟩
            · have e59 : ((cc.toNat : Int) == 59) = false := eq_c h59
              go_wp2_with (first
                | (go_at_call 110; refine (refLetter_any cc _).mono ?_; rintro e w1 ⟨rfl, rfl⟩; rw [hL])
                | (go_at_call 111; refine (refDigit_any cc _).mono ?_; rintro e w1 ⟨rfl, rfl⟩; rw [hD]))
              refine (signAt_any s _).mono ?_
              rintro e w1 ⟨rfl, hb1⟩
              have HB1 := Lib.hid hb1
              clear hb1
              by_cases hsg : signV s.data.toList = []
              · have hte : (⟨(signV s.data.toList).toArray⟩ : ByteArray).toList.isEmpty = true := by rw [toList_mk, hsg]; rfl
                have HS := Lib.hid hsg
                clear hsg
                generalize hB : (⟨(signV s.data.toList).toArray⟩ : ByteArray) = B at *
                go_wp2_with fail
                go_returns
                exact ⟨by unfold tokV; rw [HR.out, if_neg h34, if_neg h59, if_pos HS.out]; rfl, HB1.out⟩
              · have hte : (⟨(signV s.data.toList).toArray⟩ : ByteArray).toList.isEmpty = false := by
                  rw [toList_mk]
                  cases h : signV s.data.toList with
                  | nil => exact absurd h hsg
                  | cons a b => rfl
                have HS := Lib.hid hsg
                have hBs : (⟨(signV s.data.toList).toArray⟩ : ByteArray).size = (signV s.data.toList).length := rfl
                clear hsg
                generalize hB : (⟨(signV s.data.toList).toArray⟩ : ByteArray) = B at *
                go_wp2_with fail
                go_returns
                exact ⟨by unfold tokV; rw [HR.out, if_neg h34, if_neg h59, if_neg HS.out, ← hBs]; rfl, HB1.out⟩
      · have hpos : (0 : Int) < (i : Int) := by omega
        have ha0 : isA s[0] = true := by
          cases h : isA s[0] with
          | true => rfl
          | false =>
            exfalso
            have := alen_zero (by rw [HZ.out]; exact h)
            rw [HE.out] at this
            omega
        cases hL0 : isL s[0] with
        | true =>
          have HR := Lib.hid (tokR_name (by rw [HZ.out]; exact hL0))
          generalize hc0 : s[0] = c0 at *
          clear hz
          rcases hx2 with h | ⟨h, hL, hD⟩
          all_goals
            try generalize hcc : s[i] = cc at *
            by_cases h16 : 16 < i
            · have h16i : (16 : Int) < (i : Int) := by omega
              go_wp2_with (first
                | (go_at_call 110; refine (refLetter_any _ _).mono ?_; rintro e w1 ⟨rfl, rfl⟩; first | rw [hL0] | rw [hL])
                | (go_at_call 111; refine (refDigit_any _ _).mono ?_; rintro e w1 ⟨rfl, rfl⟩; rw [hD]))
              go_returns
              exact ⟨by unfold tokV; rw [HR.out, HE.out, if_pos h16]; rfl, Below.refl _ _⟩
            · have h16i : ¬ (16 : Int) < (i : Int) := by omega
              go_wp2_with (first
                | (go_at_call 110; refine (refLetter_any _ _).mono ?_; rintro e w1 ⟨rfl, rfl⟩; first | rw [hL0] | rw [hL])
                | (go_at_call 111; refine (refDigit_any _ _).mono ?_; rintro e w1 ⟨rfl, rfl⟩; rw [hD]))
              refine (refReserved_any _ _).mono ?_
              rintro e w1 ⟨rfl, hb1⟩
              have HB1 := Lib.hid hb1
              have hex : (s.extract 0 i).toList = s.data.toList.take i := by rw [ByteArray.toList_eq, ext_list]; simp
              rw [hex]
              clear hb1 hex
              cases hw : wordB (s.data.toList.take i) with
              | true =>
                go_wp2_with fail
                go_returns
                exact ⟨by unfold tokV; rw [HR.out, HE.out, if_neg h16, if_pos hw]; rfl, HB1.out⟩
              | false =>
                go_wp2_with fail
                go_returns
                exact ⟨by unfold tokV; rw [HR.out, HE.out, if_neg h16, hw]; rfl, HB1.out⟩
        | false =>
          have hD0 : isD s[0] = true := by unfold isA at ha0; rw [hL0] at ha0; simpa using ha0
          have HR := Lib.hid (tokR_num (by rw [HZ.out]; exact hL0) (by rw [HZ.out]; exact hD0))
          generalize hc0 : s[0] = c0 at *
          clear hz
          rcases hx2 with h | ⟨h, hL, hD⟩
          all_goals
            try generalize hcc : s[i] = cc at *
            go_wp2_with (first
              | (go_at_call 110; refine (refLetter_any _ _).mono ?_; rintro e w1 ⟨rfl, rfl⟩; first | rw [hL0] | rw [hL])
              | (go_at_call 111; refine (refDigit_any _ _).mono ?_; rintro e w1 ⟨rfl, rfl⟩; rw [hD]))
            refine (readNumber_any _ _).mono ?_
            rintro e w1 ⟨rfl, hb1⟩
            have HB1 := Lib.hid hb1
            have hby : byt (s.extract 0 i) = (s.data.toList.take i).map UInt8.toNat := by unfold byt; rw [ext_list]; simp
            rw [HE.out, ← hby] at HR
            clear hb1 hby
            cases hrd : rd (byt (s.extract 0 i)) with
            | none =>
              rw [readV_none hrd]
              rw [hrd] at HR
              go_wp2_with fail
              go_returns
              exact ⟨by unfold tokV; rw [HR.out]; rfl, HB1.out⟩
            | some z =>
              rw [readV_some hrd]
              rw [hrd] at HR
              go_wp2_with fail
              go_returns
              exact ⟨by unfold tokV; rw [HR.out]; rfl, HB1.out⟩
end Go.Proofs.Ytgjhjojbaieeaaa
