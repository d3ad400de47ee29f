/- (the contract alone) The document's ReadNumber; the law WordReads. Conditions: none. -/
import Derived.Test.YtgjhjojbaieeaaaDoorSetStr
import Derived.Test.YtgjhjojbaieeaaaDoorBigInt64
import Derived.Test.YtgjhjojbaieeaaaDoorDecimalA
import Derived.Test.YtgjhjojbaieeaaaDoorRead
set_option maxRecDepth 20000
namespace Go.Proofs.YtgjhjojbaieeaaaDoor
open Go.ChangeShapes Go.WideShapes Go.ChangeAt Go.RowKit
theorem setStr_empty (g : Nat) (s : ByteArray) (w : World) (hz : s.size = 0) : Calls Tryd.prog 20 #[.pointer (some ⟨g, 0, none⟩), .string s, .int .i64 10] w (SP g s w) := by
  have HF := Lib.hid (show parse (byt s) = none by
    have : byt s = [] := List.eq_nil_of_length_eq_zero (by rw [byt_len]; exact hz)
    rw [this]; rfl)
  have gz0 : ((s.size : Int) == 0) = true := by simp [hz]
  have hle : s.size ≤ 0 := by omega
  clear hz
  go_enter Tryd.func20, Tryd.ntmps20
  go_wp2_with fail
  go_returns
  exact SP.no HF.out (Below.refl _ _)
theorem sgn_no {s : ByteArray} (h : 0 < s.size) (h1 : s[0] ≠ 45) (h2 : s[0] ≠ 43) : sgn (byt s) = (false, byt s) := by
  have := byt_drop s 0 h
  rw [List.drop_zero] at this
  rw [this]
  simp only [sgn]
  rw [if_neg (show ¬ s[0].toNat = 45 from fun e => h1 (UInt8.toNat_inj.1 e)), if_neg (show ¬ s[0].toNat = 43 from fun e => h2 (UInt8.toNat_inj.1 e))]
theorem sgn_minus {s : ByteArray} (h : 0 < s.size) (hc : s[0] = 45) : sgn (byt s) = (true, byt (s.extract 1 s.size)) := by
  have := byt_drop s 0 h
  rw [List.drop_zero] at this
  rw [byt_extract, List.take_of_length_le (by rw [byt_len]; omega)]
  conv => lhs; rw [this]
  simp only [sgn]
  rw [if_pos (show s[0].toNat = 45 by rw [hc]; rfl)]
theorem sgn_plus {s : ByteArray} (h : 0 < s.size) (hc : s[0] = 43) : sgn (byt s) = (false, byt (s.extract 1 s.size)) := by
  have := byt_drop s 0 h
  rw [List.drop_zero] at this
  rw [byt_extract, List.take_of_length_le (by rw [byt_len]; omega)]
  conv => lhs; rw [this]
  simp only [sgn]
  rw [if_neg (show ¬ s[0].toNat = 45 by rw [hc]; decide), if_pos (show s[0].toNat = 43 by rw [hc]; rfl)]
theorem setStr_any (g : Nat) (s : ByteArray) (x y : Value) (w : World) (h0 : w.cell? ⟨g, 0, none⟩ = some x) (h1 : w.cell? ⟨g, 1, none⟩ = some y) (f0 : w.frozen? ⟨g, 0, none⟩ = false) (f1 : w.frozen? ⟨g, 1, none⟩ = false) (hs : s.size ≤ 20) : Calls Tryd.prog 20 #[.pointer (some ⟨g, 0, none⟩), .string s, .int .i64 10] w (SP g s w) := by
  by_cases hz : s.size = 0
  · exact setStr_empty g s w hz
  · have h : 0 < s.size := by omega
    by_cases hc1 : s[0] = 45
    · exact setStr_minus g s _ x y w h0 h1 f0 f1 hs h hc1 rfl (sgn_minus h hc1)
    · by_cases hc2 : s[0] = 43
      · exact setStr_plus g s _ x y w h0 h1 f0 f1 hs h hc2 rfl (sgn_plus h hc2)
      · exact setStr_plain g s x y w h0 h1 f0 f1 hs h hc1 hc2 (sgn_no h hc1 hc2)
theorem parse_bound {l : List Nat} {z : Int} (hl : l.length ≤ 20) (h : parse l = some z) : z.natAbs < 10 ^ 20 := by
  unfold parse at h
  split at h
  · rename_i hc
    have h1 := dval_lt _ hc.2
    have h2 : (sgn l).2.length ≤ l.length := by
      cases l with
      | nil => simp [sgn]
      | cons c r =>
        simp only [sgn]
        split
        · simp
        · split <;> simp
    have h3 : (10 : Nat) ^ (sgn l).2.length ≤ 10 ^ 20 := Nat.pow_le_pow_right (by omega) (by omega)
    injection h with h
    subst h
    split <;> omega
  · cases h
theorem rd_of_parse {l : List Nat} {z : Int} (h : parse l = some z) : rd l = if decL z = l ∧ inI z then some z else none := by unfold rd; rw [h]
theorem rd_of_none {l : List Nat} (h : parse l = none) : rd l = none := by unfold rd; rw [h]
set_option maxHeartbeats 1000000 in
theorem readNumber_any (s : ByteArray) (w : World) : Calls Tryd.prog 15 #[.string s] w fun e w' => e = .returned (readV s) ∧ Below w.heap.size w w' := by
  by_cases hl : 20 < s.size
  · have HF := Lib.hid (readV_none (rd_long hl))
    go_enter Tryd.func15, Tryd.ntmps15
    go_wp2_with fail
    go_returns
    exact ⟨by rw [HF.out]; rfl, Below.refl _ _⟩
  · go_enter Tryd.func15, Tryd.ntmps15
    go_wp2_with fail
    refine (setStr_any w.heap.size s _ _ _ (by simp; rfl) (by simp; rfl) (by simp) (by simp) (by omega)).mono ?_
    rintro e w2 (⟨z, hp, rfl, hB, hg⟩ | ⟨hp, rfl, hg⟩)
    · have hbd := parse_bound (by rw [byt_len]; omega) hp
      have hdd := dd_len 19 z.natAbs hbd
      have hwl := wds_len (n := z.natAbs) (k := 3) (Nat.lt_trans hbd (by decide))
      have hr := rd_of_parse hp
      have HB := Lib.hid hB
      have hBel : Below w.heap.size w w2 := below_gb (al _) (by simp) (Nat.le_refl _) hg
      have HBel := Lib.hid hBel
      have hbq := decS_beq z s
      clear hp hB hg hBel hbd
      by_cases he : decL z = byt s
      · rw [decide_eq_true he] at hbq
        by_cases hi : inI z
        · have HF := Lib.hid (readV_some (hr.trans (if_pos ⟨he, hi⟩)))
          have HI := Lib.hid hi
          clear he hi hr
          go_wp2_with fail
          refine (intString_any w.heap.size z w2 HB.out (by omega) (by omega)).mono ?_
          rintro e w3 ⟨rfl, hb3⟩
          have HB3 := Lib.hid (HB.out.into (Nat.le_refl _) hb3)
          have HBel3 := Lib.hid (sq HBel.out hb3)
          clear hb3
          go_wp2_with fail
          refine (isInt64_any w.heap.size z w3 _ HB3.out (by omega)).mono ?_
          rintro e w4 ⟨rfl, n, rfl⟩
          rw [decide_eq_true HI.out]
          go_wp2_with fail
          refine (int64_any w.heap.size z (w3.drewN n) w3.heap.size (HB3.out.keep (w' := w3.drewN n) fun k hk => rfl) HI.out).mono ?_
          rintro e w5 ⟨rfl, m, rfl⟩
          go_wp2_with fail
          go_returns
          exact ⟨by rw [HF.out]; rfl, dr HBel3.out (n + m)⟩
        · have HF := Lib.hid (readV_none (hr.trans (if_neg fun h => hi h.2)))
          have HI := Lib.hid hi
          clear he hi hr
          go_wp2_with fail
          refine (intString_any w.heap.size z w2 HB.out (by omega) (by omega)).mono ?_
          rintro e w3 ⟨rfl, hb3⟩
          have HB3 := Lib.hid (HB.out.into (Nat.le_refl _) hb3)
          have HBel3 := Lib.hid (sq HBel.out hb3)
          clear hb3
          go_wp2_with fail
          refine (isInt64_any w.heap.size z w3 _ HB3.out (by omega)).mono ?_
          rintro e w4 ⟨rfl, n, rfl⟩
          rw [decide_eq_false HI.out]
          go_wp2_with fail
          go_returns
          exact ⟨by rw [HF.out]; rfl, dr HBel3.out n⟩
      · rw [decide_eq_false he] at hbq
        have HF := Lib.hid (readV_none (hr.trans (if_neg fun h => he h.1)))
        clear he hr
        go_wp2_with fail
        refine (intString_any w.heap.size z w2 HB.out (by omega) (by omega)).mono ?_
        rintro e w3 ⟨rfl, hb3⟩
        have HBel3 := Lib.hid (sq HBel.out hb3)
        clear hb3
        go_wp2_with fail
        go_returns
        exact ⟨by rw [HF.out]; rfl, HBel3.out⟩
    · have HF := Lib.hid (readV_none (rd_of_none hp))
      have HBel := Lib.hid (below_gb (al _) (by simp) (Nat.le_refl _) hg : Below w.heap.size w w2)
      clear hp hg
      go_wp2_with fail
      go_returns
      exact ⟨by rw [HF.out]; rfl, HBel.out⟩
end Go.Proofs.YtgjhjojbaieeaaaDoor
