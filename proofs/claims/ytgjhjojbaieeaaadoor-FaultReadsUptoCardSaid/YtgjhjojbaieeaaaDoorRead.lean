/- 'word.Read' answers the number whose text it is. Conditions: none. -/
import Derived.Test.YtgjhjojbaieeaaaDoorRd
import Derived.Test.YtgjhjojbaieeaaaDoorText
set_option maxRecDepth 20000
namespace Go.Proofs.YtgjhjojbaieeaaaDoor
open Go.ChangeShapes Go.WideShapes Go.ChangeAt Go.RowKit
/-- What Read answers. -/
def readV (s : ByteArray) : Value := match rd (byt s) with | some z => .tuple #[.int .i64 z, .int .i64 0] | none => .tuple #[.int .i64 0, .int .i64 3]
theorem readV_some {s : ByteArray} {z : Int} (h : rd (byt s) = some z) : readV s = .tuple #[.int .i64 z, .int .i64 0] := by unfold readV; rw [h]
theorem readV_none {s : ByteArray} (h : rd (byt s) = none) : readV s = .tuple #[.int .i64 0, .int .i64 3] := by unfold readV; rw [h]
theorem rd_long {s : ByteArray} (h : 20 < s.size) : rd (byt s) = none := by
  rw [rd_none]
  intro z hz e
  have := decL_len (n := z) hz
  rw [e, byt_len] at this
  omega
/-- A text without digits alone. -/
theorem rd_digit {s T : ByteArray} (hT : byt T = (mns (byt s)).2) {k : Nat} (hk : k < T.size) (hd : T[k].toNat < 48 ∨ 57 < T[k].toNat) : rd (byt s) = none := by
  cases h : rd (byt s) with
  | none => rfl
  | some z =>
    have h1 := (rd_readN h).1
    rw [← hT] at h1
    have := digs_take (byt_get T k hk) h1
    omega
theorem rd_text {s : ByteArray} {n : Int} (hn : readN (mns (byt s)).1 (mns (byt s)).2 = n) : (decL n = byt s → rd (byt s) = some n) ∧ (decL n ≠ byt s → rd (byt s) = none) := by
  refine ⟨fun h => rd_some.2 ⟨h, by rw [← hn]; exact readN_in _ _⟩, fun h => ?_⟩
  cases hr : rd (byt s) with
  | none => rfl
  | some z =>
    have h1 := (rd_readN hr).2
    rw [hn] at h1
    subst h1
    exact absurd (rd_some.1 hr).1 h
theorem decS_beq (n : Int) (s : ByteArray) : ((decS n).toList == s.toList) = decide (decL n = byt s) := by
  rw [beq_byt, decS, byt_strOf (fun d hd => by rcases decL_byte n d hd with h | h <;> omega), Bool.eq_iff_iff]
  simp
theorem emod_shift (V U q : Nat) (h : V = U + 18446744073709551616 * q) : (-(V : Int) + 9223372036854775808) % 18446744073709551616 = (-(U : Int) + 9223372036854775808) % 18446744073709551616 := by
  have e : -(V : Int) + 9223372036854775808 = (-(U : Int) + 9223372036854775808) + 18446744073709551616 * (-(q : Int)) := by rw [h]; omega
  rw [e, Int.add_mul_emod_self_left]
theorem neg_wrap (V U : Nat) (hU : U = V % 18446744073709551616) : (-(V : Int) + 9223372036854775808) % 18446744073709551616 - 9223372036854775808 = RowKit.wrap64 (-RowKit.wrap64 (U : Int)) := by
  have h1 : V = U + 18446744073709551616 * (V / 18446744073709551616) := by rw [hU]; exact (Nat.mod_add_div _ _).symm
  rw [emod_shift V U _ h1]
  have h2 : U < 18446744073709551616 := by rw [hU]; exact Nat.mod_lt _ (by omega)
  clear hU h1
  rcases Nat.lt_or_ge U 9223372036854775808 with h | h
  · have e : RowKit.wrap64 (U : Int) = (U : Int) := by unfold RowKit.wrap64; omega
    rw [e]; simp only [RowKit.wrap64]
  · have e : RowKit.wrap64 (U : Int) = (U : Int) - 18446744073709551616 := by unfold RowKit.wrap64; omega
    rw [e]
    have e2 : -((U : Int) - 18446744073709551616) + 9223372036854775808 = (-(U : Int) + 9223372036854775808) + 18446744073709551616 * 1 := by omega
    simp only [RowKit.wrap64]
    rw [e2, Int.add_mul_emod_self_left]
set_option maxHeartbeats 400000 in
theorem wordRead_plain (s : ByteArray) (hs : s.size ≤ 20) (hm : mns (byt s) = (false, byt s)) (hg : s.size = 0 ∨ ∃ h : 0 < s.size, ((s[0].toNat : Int) == 45) = false) (w : World) : Calls Tryd.prog 18 #[.string s] w fun e w' => e = .returned (readV s) ∧ Below w.heap.size w w' := by
  have HNG := Lib.hid (show (mns (byt s)).1 = false by rw [hm])
  have HT := Lib.hid (show byt s = (mns (byt s)).2 by rw [hm])
  clear hm
  rcases hg with h0 | ⟨h00, hg⟩
  · have gd : decide ((0 : Int) < (s.size : Int)) = false := decide_eq_false (by omega)
    have h0' : s.size ≤ 0 := by omega
    clear h0
    go_enter Tryd.func18, Tryd.ntmps18
    go_wp2_with fail
    go_loop [4, 7] (fun u i => ∃ k : Nat, i = .int .i64 (k : Int) ∧ k ≤ s.size ∧ Hid (digs ((byt s).take k) = true) ∧ u = .int .u64 ((dval ((byt s).take k) % 18446744073709551616 : Nat) : Int)) (fun _ i => s.size - (intOf i).toNat)
    case atStart => exact ⟨0, rfl, by omega, Lib.hid rfl, rfl⟩
    case round =>
      obtain ⟨k, rfl, hk, HD, rfl⟩ := hrel
      by_cases hlt : k < s.size
      · by_cases hlo : s[k].toNat < 48
        · have g1 : decide ((s[k].toNat : Int) < 48) = true := decide_eq_true (by omega)
          have HF := Lib.hid (readV_none (rd_digit (T := s) HT.out hlt (.inl hlo)))
          clear hlo
          go_wp2_with fail
          go_returns
          exact ⟨by rw [HF.out]; rfl, Below.refl _ _⟩
        · have g1 : decide ((s[k].toNat : Int) < 48) = false := decide_eq_false (by omega)
          by_cases hhi : 57 < s[k].toNat
          · have g2 : decide ((57 : Int) < (s[k].toNat : Int)) = true := decide_eq_true (by omega)
            have HF := Lib.hid (readV_none (rd_digit (T := s) HT.out hlt (.inr hhi)))
            clear hhi hlo
            go_wp2_with fail
            go_returns
            exact ⟨by rw [HF.out]; rfl, Below.refl _ _⟩
          · have g2 : decide ((57 : Int) < (s[k].toNat : Int)) = false := decide_eq_false (by omega)
            have hd := byt_get s k hlt
            have hsn : (byt s).take (k + 1) = (byt s).take k ++ [s[k].toNat] := by rw [List.take_add_one, hd]; rfl
            have HS := Lib.hid (show dval ((byt s).take (k + 1)) = dval ((byt s).take k) * 10 + (s[k].toNat - 48) by rw [hsn, dval_snoc])
            have HD2 := Lib.hid (show digs ((byt s).take (k + 1)) = true by rw [hsn]; exact digs_snoc HD.out ⟨by omega, by omega⟩)
            generalize dval ((byt s).take k) = V at *
            obtain ⟨U, hU⟩ : ∃ U, U = V % 18446744073709551616 := ⟨_, rfl⟩
            have hlo' : 48 ≤ (s[k].toNat : Int) := by omega
            have hhi' : (s[k].toNat : Int) ≤ 57 := by omega
            have HU := Lib.hid hU
            have hUlt : U < 18446744073709551616 := by rw [hU]; exact Nat.mod_lt _ (by omega)
            rw [← hU]
            clear hU hd hsn hlo hhi
            go_wp2_with fail
            go_round
            case rel =>
              refine ⟨k + 1, by go_num, by omega, HD2, ?_⟩
              rw [HS.out]
              have := HU.out
              first
                | (exfalso; omega)
                | (congr 1; rw [IntKind.wrap_u64, IntKind.wrap_u64]; omega)
            case measure => simp [intOf]; omega
      · have HTT := Lib.hid (show (byt s).take k = byt s from List.take_of_length_le (by rw [byt_len]; omega))
        rw [HTT.out]
        generalize hv : dval (byt s) = V at *
        obtain ⟨U, hU⟩ : ∃ U, U = V % 18446744073709551616 := ⟨_, rfl⟩
        obtain ⟨n, hn⟩ : ∃ n, readN false (byt s) = n := ⟨_, rfl⟩
        have hin := readN_in false (byt s)
        rw [hn] at hin
        unfold inI at hin
        have hr := rd_text (s := s) (n := n) (by rw [HNG.out, ← HT.out]; exact hn)
        have HRT := Lib.hid hr
        have HNV := Lib.hid (show n = RowKit.wrap64 (U : Int) by
          rw [← hn]; unfold readN; rw [hv]
          rw [if_neg (by simp)]; unfold RowKit.wrap64; omega)
        have hUlt : U < 18446744073709551616 := by rw [hU]; exact Nat.mod_lt _ (by omega)
        have hb0 := decS_beq n s
        rw [← hU]
        clear hr hn hv hU
        by_cases he : decL n = byt s
        · rw [decide_eq_true he] at hb0
          have HF := Lib.hid (readV_some (HRT.out.1 he))
          clear he
          go_wp2_with fail
          rw [show RowKit.wrap64 (U : Int) = n from HNV.out.symm]
          refine (wordText_any n hin _).mono ?_
          rintro e w2 ⟨rfl, hb⟩
          go_wp2_with fail
          go_returns
          exact ⟨by rw [HF.out]; rfl, hb⟩
        · rw [decide_eq_false he] at hb0
          have HF := Lib.hid (readV_none (HRT.out.2 he))
          clear he
          go_wp2_with fail
          rw [show RowKit.wrap64 (U : Int) = n from HNV.out.symm]
          refine (wordText_any n hin _).mono ?_
          rintro e w2 ⟨rfl, hb⟩
          go_wp2_with fail
          go_returns
          exact ⟨by rw [HF.out]; rfl, hb⟩
  · have gd : decide ((0 : Int) < (s.size : Int)) = true := decide_eq_true (by omega)
    go_enter Tryd.func18, Tryd.ntmps18
    go_wp2_with fail
    go_loop [4, 7] (fun u i => ∃ k : Nat, i = .int .i64 (k : Int) ∧ k ≤ s.size ∧ Hid (digs ((byt s).take k) = true) ∧ u = .int .u64 ((dval ((byt s).take k) % 18446744073709551616 : Nat) : Int)) (fun _ i => s.size - (intOf i).toNat)
    case atStart => exact ⟨0, rfl, by omega, Lib.hid rfl, rfl⟩
    case round =>
      obtain ⟨k, rfl, hk, HD, rfl⟩ := hrel
      by_cases hlt : k < s.size
      · by_cases hlo : s[k].toNat < 48
        · have g1 : decide ((s[k].toNat : Int) < 48) = true := decide_eq_true (by omega)
          have HF := Lib.hid (readV_none (rd_digit (T := s) HT.out hlt (.inl hlo)))
          clear hlo
          go_wp2_with fail
          go_returns
          exact ⟨by rw [HF.out]; rfl, Below.refl _ _⟩
        · have g1 : decide ((s[k].toNat : Int) < 48) = false := decide_eq_false (by omega)
          by_cases hhi : 57 < s[k].toNat
          · have g2 : decide ((57 : Int) < (s[k].toNat : Int)) = true := decide_eq_true (by omega)
            have HF := Lib.hid (readV_none (rd_digit (T := s) HT.out hlt (.inr hhi)))
            clear hhi hlo
            go_wp2_with fail
            go_returns
            exact ⟨by rw [HF.out]; rfl, Below.refl _ _⟩
          · have g2 : decide ((57 : Int) < (s[k].toNat : Int)) = false := decide_eq_false (by omega)
            have hd := byt_get s k hlt
            have hsn : (byt s).take (k + 1) = (byt s).take k ++ [s[k].toNat] := by rw [List.take_add_one, hd]; rfl
            have HS := Lib.hid (show dval ((byt s).take (k + 1)) = dval ((byt s).take k) * 10 + (s[k].toNat - 48) by rw [hsn, dval_snoc])
            have HD2 := Lib.hid (show digs ((byt s).take (k + 1)) = true by rw [hsn]; exact digs_snoc HD.out ⟨by omega, by omega⟩)
            generalize dval ((byt s).take k) = V at *
            obtain ⟨U, hU⟩ : ∃ U, U = V % 18446744073709551616 := ⟨_, rfl⟩
            have hlo' : 48 ≤ (s[k].toNat : Int) := by omega
            have hhi' : (s[k].toNat : Int) ≤ 57 := by omega
            have HU := Lib.hid hU
            have hUlt : U < 18446744073709551616 := by rw [hU]; exact Nat.mod_lt _ (by omega)
            rw [← hU]
            clear hU hd hsn hlo hhi
            go_wp2_with fail
            go_round
            case rel =>
              refine ⟨k + 1, by go_num, by omega, HD2, ?_⟩
              rw [HS.out]
              have := HU.out
              first
                | (exfalso; omega)
                | (congr 1; rw [IntKind.wrap_u64, IntKind.wrap_u64]; omega)
            case measure => simp [intOf]; omega
      · have HTT := Lib.hid (show (byt s).take k = byt s from List.take_of_length_le (by rw [byt_len]; omega))
        rw [HTT.out]
        generalize hv : dval (byt s) = V at *
        obtain ⟨U, hU⟩ : ∃ U, U = V % 18446744073709551616 := ⟨_, rfl⟩
        obtain ⟨n, hn⟩ : ∃ n, readN false (byt s) = n := ⟨_, rfl⟩
        have hin := readN_in false (byt s)
        rw [hn] at hin
        unfold inI at hin
        have hr := rd_text (s := s) (n := n) (by rw [HNG.out, ← HT.out]; exact hn)
        have HRT := Lib.hid hr
        have HNV := Lib.hid (show n = RowKit.wrap64 (U : Int) by
          rw [← hn]; unfold readN; rw [hv]
          rw [if_neg (by simp)]; unfold RowKit.wrap64; omega)
        have hUlt : U < 18446744073709551616 := by rw [hU]; exact Nat.mod_lt _ (by omega)
        have hb0 := decS_beq n s
        rw [← hU]
        clear hr hn hv hU
        by_cases he : decL n = byt s
        · rw [decide_eq_true he] at hb0
          have HF := Lib.hid (readV_some (HRT.out.1 he))
          clear he
          go_wp2_with fail
          rw [show RowKit.wrap64 (U : Int) = n from HNV.out.symm]
          refine (wordText_any n hin _).mono ?_
          rintro e w2 ⟨rfl, hb⟩
          go_wp2_with fail
          go_returns
          exact ⟨by rw [HF.out]; rfl, hb⟩
        · rw [decide_eq_false he] at hb0
          have HF := Lib.hid (readV_none (HRT.out.2 he))
          clear he
          go_wp2_with fail
          rw [show RowKit.wrap64 (U : Int) = n from HNV.out.symm]
          refine (wordText_any n hin _).mono ?_
          rintro e w2 ⟨rfl, hb⟩
          go_wp2_with fail
          go_returns
          exact ⟨by rw [HF.out]; rfl, hb⟩
set_option maxHeartbeats 400000 in
theorem wordRead_minus (s T : ByteArray) (hs : s.size ≤ 20) (h0 : 0 < s.size) (hc : s[0] = 45) (hT : s.extract 1 s.size = T) (hm : mns (byt s) = (true, byt T)) (w : World) : Calls Tryd.prog 18 #[.string s] w fun e w' => e = .returned (readV s) ∧ Below w.heap.size w w' := by
  have HNG := Lib.hid (show (mns (byt s)).1 = true by rw [hm])
  have HT := Lib.hid (show byt T = (mns (byt s)).2 by rw [hm])
  have hTs : T.size ≤ 20 := by rw [← hT, ByteArray.size_extract]; omega
  have gd : decide ((0 : Int) < (s.size : Int)) = true := decide_eq_true (by omega)
  have g0 : ((s[0].toNat : Int) == 45) = true := by rw [hc]; rfl
  have h1 : (1 : Int) ≤ (s.size : Int) := by omega
  clear hm hc
  go_enter Tryd.func18, Tryd.ntmps18
  go_wp2_with fail
  clear hT
  go_loop [4, 7] (fun u i => ∃ k : Nat, i = .int .i64 (k : Int) ∧ k ≤ T.size ∧ Hid (digs ((byt T).take k) = true) ∧ u = .int .u64 ((dval ((byt T).take k) % 18446744073709551616 : Nat) : Int)) (fun _ i => T.size - (intOf i).toNat)
  case atStart => exact ⟨0, rfl, by omega, Lib.hid rfl, rfl⟩
  case round =>
    obtain ⟨k, rfl, hk, HD, rfl⟩ := hrel
    by_cases hlt : k < T.size
    · by_cases hlo : T[k].toNat < 48
      · have g1 : decide ((T[k].toNat : Int) < 48) = true := decide_eq_true (by omega)
        have HF := Lib.hid (readV_none (rd_digit (T := T) HT.out hlt (.inl hlo)))
        clear hlo
        go_wp2_with fail
        go_returns
        exact ⟨by rw [HF.out]; rfl, Below.refl _ _⟩
      · have g1 : decide ((T[k].toNat : Int) < 48) = false := decide_eq_false (by omega)
        by_cases hhi : 57 < T[k].toNat
        · have g2 : decide ((57 : Int) < (T[k].toNat : Int)) = true := decide_eq_true (by omega)
          have HF := Lib.hid (readV_none (rd_digit (T := T) HT.out hlt (.inr hhi)))
          clear hhi hlo
          go_wp2_with fail
          go_returns
          exact ⟨by rw [HF.out]; rfl, Below.refl _ _⟩
        · have g2 : decide ((57 : Int) < (T[k].toNat : Int)) = false := decide_eq_false (by omega)
          have hd := byt_get T k hlt
          have hsn : (byt T).take (k + 1) = (byt T).take k ++ [T[k].toNat] := by rw [List.take_add_one, hd]; rfl
          have HS := Lib.hid (show dval ((byt T).take (k + 1)) = dval ((byt T).take k) * 10 + (T[k].toNat - 48) by rw [hsn, dval_snoc])
          have HD2 := Lib.hid (show digs ((byt T).take (k + 1)) = true by rw [hsn]; exact digs_snoc HD.out ⟨by omega, by omega⟩)
          generalize dval ((byt T).take k) = V at *
          obtain ⟨U, hU⟩ : ∃ U, U = V % 18446744073709551616 := ⟨_, rfl⟩
          have hlo' : 48 ≤ (T[k].toNat : Int) := by omega
          have hhi' : (T[k].toNat : Int) ≤ 57 := by omega
          have HU := Lib.hid hU
          have hUlt : U < 18446744073709551616 := by rw [hU]; exact Nat.mod_lt _ (by omega)
          rw [← hU]
          clear hU hd hsn hlo hhi
          go_wp2_with fail
          go_round
          case rel =>
            refine ⟨k + 1, by go_num, by omega, HD2, ?_⟩
            rw [HS.out]
            have := HU.out
            first
              | (exfalso; omega)
              | (congr 1; rw [IntKind.wrap_u64, IntKind.wrap_u64]; omega)
          case measure => simp [intOf]; omega
    · have HTT := Lib.hid (show (byt T).take k = byt T from List.take_of_length_le (by rw [byt_len]; omega))
      rw [HTT.out]
      generalize hv : dval (byt T) = V at *
      obtain ⟨U, hU⟩ : ∃ U, U = V % 18446744073709551616 := ⟨_, rfl⟩
      obtain ⟨n, hn⟩ : ∃ n, readN true (byt T) = n := ⟨_, rfl⟩
      have hin := readN_in true (byt T)
      rw [hn] at hin
      unfold inI at hin
      have hr := rd_text (s := s) (n := n) (by rw [HNG.out, ← HT.out]; exact hn)
      have HRT := Lib.hid hr
      have HNV := Lib.hid (show n = RowKit.wrap64 (-RowKit.wrap64 (U : Int)) by
        rw [← hn]; unfold readN; rw [hv]
        rw [if_pos rfl]; exact neg_wrap _ _ hU)
      have hUlt : U < 18446744073709551616 := by rw [hU]; exact Nat.mod_lt _ (by omega)
      have hb0 := decS_beq n s
      rw [← hU]
      clear hr hn hv hU
      by_cases he : decL n = byt s
      · rw [decide_eq_true he] at hb0
        have HF := Lib.hid (readV_some (HRT.out.1 he))
        clear he
        go_wp2_with fail
        rw [show RowKit.wrap64 (-RowKit.wrap64 (U : Int)) = n from HNV.out.symm]
        refine (wordText_any n hin _).mono ?_
        rintro e w2 ⟨rfl, hb⟩
        go_wp2_with fail
        go_returns
        exact ⟨by rw [HF.out]; rfl, hb⟩
      · rw [decide_eq_false he] at hb0
        have HF := Lib.hid (readV_none (HRT.out.2 he))
        clear he
        go_wp2_with fail
        rw [show RowKit.wrap64 (-RowKit.wrap64 (U : Int)) = n from HNV.out.symm]
        refine (wordText_any n hin _).mono ?_
        rintro e w2 ⟨rfl, hb⟩
        go_wp2_with fail
        go_returns
        exact ⟨by rw [HF.out]; rfl, hb⟩
theorem mns_no {s : ByteArray} (h : s.size = 0 ∨ ∃ h : 0 < s.size, s[0] ≠ 45) : mns (byt s) = (false, byt s) := by
  rcases h with h | ⟨h, hc⟩
  · have : byt s = [] := List.eq_nil_of_length_eq_zero (by rw [byt_len]; exact h)
    rw [this]; rfl
  · have := byt_drop s 0 h
    rw [List.drop_zero] at this
    rw [this]
    simp only [mns]
    rw [if_neg (show ¬ s[0].toNat = 45 from fun e => hc (UInt8.toNat_inj.1 e))]
theorem mns_yes {s : ByteArray} (h : 0 < s.size) (hc : s[0] = 45) : mns (byt s) = (true, byt (s.extract 1 s.size)) := by
  have := byt_drop s 0 h
  rw [List.drop_zero] at this
  rw [byt_extract, List.take_of_length_le (by rw [byt_len]; omega)]
  conv => lhs; rw [this]
  simp only [mns]
  rw [if_pos (show s[0].toNat = 45 by rw [hc]; rfl)]
theorem wordRead_any (s : ByteArray) (w : World) : Calls Tryd.prog 18 #[.string s] w fun e w' => e = .returned (readV s) ∧ Below w.heap.size w w' := by
  by_cases hl : 20 < s.size
  · have HF := Lib.hid (readV_none (rd_long hl))
    go_enter Tryd.func18, Tryd.ntmps18
    go_wp2_with fail
    go_returns
    exact ⟨by rw [HF.out]; rfl, Below.refl _ _⟩
  · by_cases h0 : s.size = 0
    · exact wordRead_plain s (by omega) (mns_no (.inl h0)) (.inl h0) w
    · by_cases hc : s[0] = 45
      · exact wordRead_minus s _ (by omega) (by omega) hc rfl (mns_yes (by omega) hc) w
      · exact wordRead_plain s (by omega) (mns_no (.inr ⟨by omega, hc⟩)) (.inr ⟨by omega, by
          rw [beq_eq_false_iff_ne]; intro e; exact hc (UInt8.toNat_inj.1 (by exact_mod_cast e))⟩) w
end Go.Proofs.YtgjhjojbaieeaaaDoor
