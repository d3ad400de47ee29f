/- The document's textAt, Unquote; the law ScanUnquotes. Conditions: none. -/
import Derived.Test.YtgjhjojbaieeaaaUnq
set_option maxRecDepth 20000
namespace Go.Proofs.Ytgjhjojbaieeaaa
open Go.ChangeShapes Go.WideShapes Go.ChangeAt Go.RowKit
theorem drop_none {s : ByteArray} {k : Nat} (h : s.size ≤ k) : s.data.toList.drop k = [] := List.drop_eq_nil_of_le (show s.data.toList.length ≤ k from h)
theorem dec_close {s : ByteArray} {k : Nat} (hk : k < s.size) (h : s[k] = 34) : dec (s.data.toList.drop k) = some ([], s.data.toList.drop (k + 1)) := by
  rw [byl_drop s k hk, h]
  cases s.data.toList.drop (k + 1) <;> simp [dec]
theorem dec_plain {s : ByteArray} {k : Nat} (hk : k < s.size) (h1 : s[k] ≠ 34) (h2 : s[k] ≠ 92) (h3 : okB s[k] = true) : dec (s.data.toList.drop k) = (dec (s.data.toList.drop (k + 1))).map fun p => (s[k] :: p.1, p.2) := by
  rw [byl_drop s k hk]
  cases s.data.toList.drop (k + 1) with
  | nil => simp [dec, h1]
  | cons e r => rw [dec, if_neg h1, if_neg h2, if_pos h3]
theorem dec_bad {s : ByteArray} {k : Nat} (hk : k < s.size) (h1 : s[k] ≠ 34) (h2 : s[k] ≠ 92) (h3 : okB s[k] = false) : dec (s.data.toList.drop k) = none := by
  rw [byl_drop s k hk]
  cases s.data.toList.drop (k + 1) with
  | nil => simp [dec, h1]
  | cons e r => rw [dec, if_neg h1, if_neg h2, if_neg (by rw [h3]; simp)]
theorem dec_over {s : ByteArray} {k : Nat} (hk : s.size ≤ k) : dec (s.data.toList.drop k) = none := by rw [drop_none hk]; rfl
theorem dec_lone {s : ByteArray} {k : Nat} (hk : k < s.size) (hk2 : s.size ≤ k + 1) (h : s[k] = 92) : dec (s.data.toList.drop k) = none := by
  rw [byl_drop s k hk, drop_none hk2, h]; rfl
theorem dec_esc {s : ByteArray} {k : Nat} (hk : k + 1 < s.size) (h : s[k] = 92) : dec (s.data.toList.drop k) = (escOf s[k + 1]).bind fun x => (dec (s.data.toList.drop (k + 1 + 1))).map fun p => (x :: p.1, p.2) := by
  rw [byl_drop s k (by omega), byl_drop s (k + 1) hk, dec, if_neg (by rw [h]; decide), if_pos h]
/-- How many bytes are said, and how many stand behind. -/
def cnt (n : Nat) (p : Option (List UInt8 × List UInt8)) : Option (Nat × Nat) := p.map fun q => (n + q.1.length, q.2.length)
theorem cnt_cons (n : Nat) (p : Option (List UInt8 × List UInt8)) (c : UInt8) : cnt n (p.map fun q => (c :: q.1, q.2)) = cnt (n + 1) p := by
  cases p with
  | none => rfl
  | some q => simp only [cnt, Option.map_some, List.length_cons]; congr 2; omega
theorem textLen_none {s : ByteArray} (h : cnt 0 (dec (s.data.toList.drop 1)) = none) : textLen s.data.toList = 0 := by
  rcases Nat.eq_zero_or_pos s.size with h0 | h0
  · have := drop_none (s := s) (k := 0) (by omega)
    rw [List.drop_zero] at this
    rw [this]; rfl
  · have := byl_drop s 0 h0
    rw [List.drop_zero] at this
    rw [this]
    cases hd : dec (s.data.toList.drop (0 + 1)) with
    | none => simp only [textLen, hd]
    | some p => rw [show s.data.toList.drop 1 = s.data.toList.drop (0 + 1) from rfl, hd] at h; cases h
theorem textLen_some {s : ByteArray} {n t : Nat} (h : cnt 0 (dec (s.data.toList.drop 1)) = some (n, t)) : textLen s.data.toList = if 200 < n then 0 else s.size - t := by
  rcases Nat.eq_zero_or_pos s.size with h0 | h0
  · rw [dec_over (by omega)] at h; cases h
  · have := byl_drop s 0 h0
    rw [List.drop_zero] at this
    have hl : (s.data.toList.drop (0 + 1)).length = s.size - 1 := by rw [List.length_drop]; rfl
    rw [this]
    cases hd : dec (s.data.toList.drop (0 + 1)) with
    | none => rw [show s.data.toList.drop 1 = s.data.toList.drop (0 + 1) from rfl, hd] at h; cases h
    | some p =>
      obtain ⟨p1, p2⟩ := p
      rw [show s.data.toList.drop 1 = s.data.toList.drop (0 + 1) from rfl, hd] at h
      simp only [cnt, Option.map_some, Option.some.injEq, Prod.mk.injEq, Nat.zero_add] at h
      obtain ⟨rfl, rfl⟩ := h
      simp only [textLen, hd]
      split
      · rfl
      · rw [hl]; omega
theorem cnt_close {s : ByteArray} {k n : Nat} (hk : k < s.size) (h : s[k] = 34) (hC : cnt n (dec (s.data.toList.drop k)) = cnt 0 (dec (s.data.toList.drop 1))) : textLen s.data.toList = if 200 < n then 0 else k + 1 := by
  rw [dec_close hk h] at hC
  have hl : (s.data.toList.drop (k + 1)).length = s.size - (k + 1) := by rw [List.length_drop]; rfl
  simp only [cnt, Option.map_some, List.length_nil, Nat.add_zero, hl] at hC
  rw [textLen_some hC.symm]
  split
  · rfl
  · omega
theorem cnt_none {s : ByteArray} {k n : Nat} (h : dec (s.data.toList.drop k) = none) (hC : cnt n (dec (s.data.toList.drop k)) = cnt 0 (dec (s.data.toList.drop 1))) : textLen s.data.toList = 0 := by
  rw [h] at hC
  exact textLen_none hC.symm
set_option maxHeartbeats 2000000 in
theorem textAt_any (s : ByteArray) (hs : s.size ≤ 140737488351232) (w : World) : Calls Try.prog 114 #[.string s] w fun e w' => e = .returned (.int .i64 ((textLen s.data.toList : Nat) : Int)) ∧ ∃ n, w' = w.drewN n := by
  go_enter Try.func114, Try.ntmps114
  go_wp2_with fail
  go_loopw [3, 4] (fun said i wr => ∃ k n : Nat, i = .int .i64 (k : Int) ∧ said = .int .i64 (n : Int) ∧ n ≤ k ∧ k ≤ s.size + 1 ∧ Hid (cnt n (dec (s.data.toList.drop k)) = cnt 0 (dec (s.data.toList.drop 1))) ∧ ∃ m, wr = w.drewN m) (fun _ i _ => s.size + 2 - (intOf i).toNat)
  case atStart => exact ⟨1, 0, rfl, rfl, by omega, by omega, Lib.hid rfl, 0, rfl⟩
  case round =>
    obtain ⟨k, n, rfl, rfl, hnk, hk, hC, m, rfl⟩ := hrel
    by_cases hlt : k < s.size
    · by_cases hc34 : s[k] = 34
      · have g1 : ((s[k].toNat : Int) == 34) = true := by rw [hc34]; rfl
        have HF := Lib.hid (cnt_close hlt hc34 hC.out)
        clear hc34
        by_cases hn : 200 < n
        · have HG := Lib.hid (HF.out.trans (if_pos hn))
          go_wp2_with fail
          go_ret
          exact ⟨by rw [HG.out]; rfl, m, rfl⟩
        · have HG := Lib.hid (HF.out.trans (if_neg hn))
          go_wp2_with fail
          go_ret
          exact ⟨by rw [HG.out]; rfl, m, rfl⟩
      · have g1 : ((s[k].toNat : Int) == 34) = false := by have := u8_ne hc34; simp at this ⊢; omega
        by_cases hc92 : s[k] = 92
        · have g2 : ((s[k].toNat : Int) == 92) = true := by rw [hc92]; rfl
          by_cases hk1 : k + 1 < s.size
          · have ge : decide ((s.size : Int) ≤ (k : Int) + 1) = false := decide_eq_false (by omega)
            have hdE := dec_esc hk1 hc92
            rcases esc_cases s[k + 1] with he | he | he | he | ⟨he1, he2, he3, he4⟩
            · have e0 : ((s[k + 1].toNat : Int) != 110) = false := by rw [he]; rfl
              have HE := Lib.hid (show cnt (n + 1) (dec (s.data.toList.drop (k + 1 + 1))) = cnt 0 (dec (s.data.toList.drop 1)) by
                rw [← hC.out, hdE, he, show escOf 110 = some 10 by decide, Option.bind_some, cnt_cons])
              clear hc34 hc92 hdE he
              go_wp2_with fail
              go_roundw
              case rel => exact ⟨k + 1 + 1, n + 1, by go_num, by go_num, by omega, by omega, HE, m, rfl⟩
              case measure => simp [intOf]; omega
            · have e0 : ((s[k + 1].toNat : Int) != 110) = true := by rw [he]; rfl
              have e1 : ((s[k + 1].toNat : Int) != 116) = false := by rw [he]; rfl
              have HE := Lib.hid (show cnt (n + 1) (dec (s.data.toList.drop (k + 1 + 1))) = cnt 0 (dec (s.data.toList.drop 1)) by
                rw [← hC.out, hdE, he, show escOf 116 = some 9 by decide, Option.bind_some, cnt_cons])
              clear hc34 hc92 hdE he
              go_wp2_with fail
              go_roundw
              case rel => exact ⟨k + 1 + 1, n + 1, by go_num, by go_num, by omega, by omega, HE, m, rfl⟩
              case measure => simp [intOf]; omega
            · have e0 : ((s[k + 1].toNat : Int) != 110) = true := by rw [he]; rfl
              have e1 : ((s[k + 1].toNat : Int) != 116) = true := by rw [he]; rfl
              have e2 : ((s[k + 1].toNat : Int) != 34) = false := by rw [he]; rfl
              have HE := Lib.hid (show cnt (n + 1) (dec (s.data.toList.drop (k + 1 + 1))) = cnt 0 (dec (s.data.toList.drop 1)) by
                rw [← hC.out, hdE, he, show escOf 34 = some 34 by decide, Option.bind_some, cnt_cons])
              clear hc34 hc92 hdE he
              go_wp2_with fail
              go_roundw
              case rel => exact ⟨k + 1 + 1, n + 1, by go_num, by go_num, by omega, by omega, HE, m, rfl⟩
              case measure => simp [intOf]; omega
            · have e0 : ((s[k + 1].toNat : Int) != 110) = true := by rw [he]; rfl
              have e1 : ((s[k + 1].toNat : Int) != 116) = true := by rw [he]; rfl
              have e2 : ((s[k + 1].toNat : Int) != 34) = true := by rw [he]; rfl
              have e3 : ((s[k + 1].toNat : Int) != 92) = false := by rw [he]; rfl
              have HE := Lib.hid (show cnt (n + 1) (dec (s.data.toList.drop (k + 1 + 1))) = cnt 0 (dec (s.data.toList.drop 1)) by
                rw [← hC.out, hdE, he, show escOf 92 = some 92 by decide, Option.bind_some, cnt_cons])
              clear hc34 hc92 hdE he
              go_wp2_with fail
              go_roundw
              case rel => exact ⟨k + 1 + 1, n + 1, by go_num, by go_num, by omega, by omega, HE, m, rfl⟩
              case measure => simp [intOf]; omega
            · have HF := Lib.hid (cnt_none (hdE.trans (by unfold escOf; rw [if_neg he1, if_neg he2, if_neg he3, if_neg he4]; rfl)) hC.out)
              have e1 : ((s[k + 1].toNat : Int) != 110) = true := by have := u8_ne he1; simp at this ⊢; omega
              have e2 : ((s[k + 1].toNat : Int) != 116) = true := by have := u8_ne he2; simp at this ⊢; omega
              have e3 : ((s[k + 1].toNat : Int) != 34) = true := by have := u8_ne he3; simp at this ⊢; omega
              have e4 : ((s[k + 1].toNat : Int) != 92) = true := by have := u8_ne he4; simp at this ⊢; omega
              clear hc34 hc92 hdE he1 he2 he3 he4
              go_wp2_with fail
              go_ret
              exact ⟨by rw [HF.out]; rfl, m, rfl⟩
          · have ge : decide ((s.size : Int) ≤ (k : Int) + 1) = true := decide_eq_true (by omega)
            have HF := Lib.hid (cnt_none (dec_lone hlt (by omega) hc92) hC.out)
            clear hc34 hc92
            go_wp2_with fail
            go_ret
            exact ⟨by rw [HF.out]; rfl, m, rfl⟩
        · have g2 : ((s[k].toNat : Int) == 92) = false := by have := u8_ne hc92; simp at this ⊢; omega
          by_cases hok : okB s[k] = true
          · have ho := (okB_iff _).1 hok
            have g3 : decide ((s[k].toNat : Int) < 32) = false := decide_eq_false (by omega)
            have g4 : decide ((126 : Int) < (s[k].toNat : Int)) = false := decide_eq_false (by omega)
            have HE := Lib.hid (show cnt (n + 1) (dec (s.data.toList.drop (k + 1))) = cnt 0 (dec (s.data.toList.drop 1)) by rw [← hC.out, dec_plain hlt hc34 hc92 hok, cnt_cons])
            clear ho hc34 hc92 hok
            go_wp2_with fail
            go_roundw
            case rel => exact ⟨k + 1, n + 1, by go_num, by go_num, by omega, by omega, HE, m, rfl⟩
            case measure => simp [intOf]; omega
          · have HF := Lib.hid (cnt_none (dec_bad hlt hc34 hc92 (by simpa using hok)) hC.out)
            have ho : s[k].toNat < 32 ∨ 126 < s[k].toNat := by
              have := mt (okB_iff _).2 hok; omega
            clear hok hc34 hc92
            rcases ho with ho | ho
            · have g3 : decide ((s[k].toNat : Int) < 32) = true := decide_eq_true (by omega)
              go_wp2_with fail
              go_ret
              exact ⟨by rw [HF.out]; rfl, m, rfl⟩
            · have g3 : decide ((s[k].toNat : Int) < 32) = false := decide_eq_false (by omega)
              have g4 : decide ((126 : Int) < (s[k].toNat : Int)) = true := decide_eq_true (by omega)
              go_wp2_with fail
              go_ret
              exact ⟨by rw [HF.out]; rfl, m, rfl⟩
    · have HF := Lib.hid (cnt_none (dec_over (by omega)) hC.out)
      go_wp2_with fail
      go_ret
      exact ⟨by rw [HF.out]; rfl, m, rfl⟩
/-- Unquote, by textAt. -/
theorem unq_text {s : ByteArray} (h0 : 0 < s.size) (h : s[0] = 34) : (textLen s.data.toList ≠ s.size → unq s.data.toList = none) ∧ (textLen s.data.toList = s.size → ∃ m, dec (s.data.toList.drop 1) = some (m, []) ∧ unq s.data.toList = some m ∧ m.length ≤ 200) := by
  have e0 := byl_drop s 0 h0
  rw [List.drop_zero, Nat.zero_add] at e0
  have hu : unq s.data.toList = match dec (s.data.toList.drop 1) with | some (m, []) => if 200 < m.length then none else some m | _ => none := by
    conv => lhs; rw [e0]
    rw [unq, if_pos h]
    cases dec (s.data.toList.drop 1) with
    | none => rfl
    | some p =>
      obtain ⟨m, t⟩ := p
      cases t <;> rfl
  cases hd : dec (s.data.toList.drop 1) with
  | none =>
    rw [hd] at hu
    have := textLen_none (s := s) (by rw [hd]; rfl)
    exact ⟨fun _ => hu, fun e => by omega⟩
  | some p =>
    obtain ⟨m, t⟩ := p
    rw [hd] at hu
    have ht := textLen_some (s := s) (n := m.length) (t := t.length) (by rw [hd]; simp [cnt])
    have hle := dec_len _ _ (Nat.le_refl _) m t hd
    rw [List.length_drop] at hle
    have e1 : s.data.toList.length = s.size := rfl
    cases t with
    | nil =>
      simp only at hu
      by_cases hl : 200 < m.length
      · rw [if_pos hl] at ht hu
        exact ⟨fun _ => hu, fun e => by omega⟩
      · rw [if_neg hl] at ht hu
        exact ⟨fun e => by simp at ht; omega, fun _ => ⟨m, rfl, hu, by omega⟩⟩
    | cons a r =>
      refine ⟨fun _ => hu, fun e => ?_⟩
      rw [ht] at e
      simp at e hle
      split at e <;> omega
theorem ahead_done {out m : List UInt8} {s : ByteArray} {k : Nat} (hk : k + 1 = s.size) (h : ahead out (dec (s.data.toList.drop k)) = some (m, [])) : out = m := by
  by_cases hc : s[k] = 34
  · rw [dec_close (by omega) hc, drop_none (by omega)] at h
    simpa [ahead] using h
  · rw [byl_drop s k (by omega), drop_none (by omega), dec, if_neg hc] at h
    cases h
theorem ahead_plain {out m : List UInt8} {s : ByteArray} {k : Nat} (hk : k + 1 < s.size) (hc : s[k] ≠ 92) (h : ahead out (dec (s.data.toList.drop k)) = some (m, [])) : ahead (out ++ [s[k]]) (dec (s.data.toList.drop (k + 1))) = some (m, []) := by
  by_cases h34 : s[k] = 34
  · rw [dec_close (by omega) h34] at h
    have hl : (s.data.toList.drop (k + 1)).length = s.size - (k + 1) := by rw [List.length_drop]; rfl
    simp only [ahead, Option.map_some, Option.some.injEq, Prod.mk.injEq] at h
    rw [h.2] at hl
    simp at hl
    omega
  · by_cases hok : okB s[k] = true
    · rw [dec_plain (by omega) h34 hc hok] at h
      rw [← h]
      cases dec (s.data.toList.drop (k + 1)) <;> simp [ahead]
    · rw [dec_bad (by omega) h34 hc (by simpa using hok)] at h; cases h
theorem ahead_esc {out m : List UInt8} {s : ByteArray} {k : Nat} (hk : k + 1 < s.size) (hc : s[k] = 92) (h : ahead out (dec (s.data.toList.drop k)) = some (m, [])) : k + 1 + 1 < s.size ∧ ∃ x, escOf s[k + 1] = some x ∧ ahead (out ++ [x]) (dec (s.data.toList.drop (k + 1 + 1))) = some (m, []) := by
  rw [dec_esc hk hc] at h
  cases he : escOf s[k + 1] with
  | none => rw [he] at h; cases h
  | some x =>
    rw [he, Option.bind_some] at h
    refine ⟨?_, x, rfl, ?_⟩
    · rcases Nat.lt_or_ge (k + 1 + 1) s.size with h2 | h2
      · exact h2
      · rw [dec_over h2] at h; cases h
    · rw [← h]
      cases dec (s.data.toList.drop (k + 1 + 1)) <;> simp [ahead]
theorem ahead_len {out m : List UInt8} {s : ByteArray} {k : Nat} (h : ahead out (dec (s.data.toList.drop k)) = some (m, [])) : out.length ≤ m.length := by
  cases hd : dec (s.data.toList.drop k) with
  | none => rw [hd] at h; cases h
  | some p =>
    rw [hd] at h
    simp only [ahead, Option.map_some, Option.some.injEq, Prod.mk.injEq] at h
    rw [← h.1]; simp
theorem toList_mk (l : List UInt8) : (ByteArray.mk l.toArray).toList = l := by rw [ByteArray.toList_eq]
theorem mk_app (a b : List UInt8) : (ByteArray.mk a.toArray ++ ByteArray.mk b.toArray) = ⟨(a ++ b).toArray⟩ := by apply ByteArray.ext; simp
theorem ext_toList {s : ByteArray} {k : Nat} (hk : k < s.size) (c : UInt8) : ((s.extract k (k + 1)).toList == [c]) = decide (s[k] = c) := by
  rw [ext_one s k hk, toList_mk, Bool.eq_iff_iff]; simp
end Go.Proofs.Ytgjhjojbaieeaaa
