/- Numbers of any size, compared; the law WordCompares is true. Conditions: none. -/
import Derived.Test.YtniepfpjklccmaaBig1
import Derived.Test.YtniepfpjklccmaaRow
import Derived.Test.YtniepfpjklccmaaHolds
set_option maxRecDepth 20000
namespace Go.Proofs.Ytniepfpjklccmaa
open Go.ChangeShapes Go.WideShapes Go.ChangeAt Go.RowKit
def cmpN (a b : Nat) : Int := if a < b then -1 else if b < a then 1 else 0
def cmpZ (a b : Int) : Int := if a < b then -1 else if b < a then 1 else 0
theorem cmpN_lt {a b : Nat} (h : a < b) : cmpN a b = -1 := by unfold cmpN; rw [if_pos h]
theorem cmpN_gt {a b : Nat} (h : b < a) : cmpN a b = 1 := by unfold cmpN; rw [if_neg (by omega), if_pos h]
theorem cmpN_eq {a b : Nat} (h : a = b) : cmpN a b = 0 := by unfold cmpN; rw [if_neg (by omega), if_neg (by omega)]
theorem cmpN_range (a b : Nat) : -1 ≤ cmpN a b ∧ cmpN a b ≤ 1 := by unfold cmpN; (repeat' split) <;> omega
theorem cmpZ_range (a b : Int) : -1 ≤ cmpZ a b ∧ cmpZ a b ≤ 1 := by unfold cmpZ; (repeat' split) <;> omega
theorem cmp_any (A A' : Option Addr) (n n' c c' a b : Nat) (hna : n = (wds a).length) (hnb : n' = (wds b).length) (w : World) (B B' : Nat) (h : Rd w B 1 A n (u32s (wds a))) (h' : Rd w B' 1 A' n' (u32s (wds b))) (hn : n ≤ 1000000) (hn' : n' ≤ 1000000) :
    Calls Try.prog 65 #[.slice A n c, .slice A' n' c'] w fun e w' => e = .returned (.int .i64 (cmpN a b)) ∧ ∃ m, w' = w.drewN m := by
  have HA := Lib.hid hna
  have HB := Lib.hid hnb
  clear hna hnb
  go_enter Try.func65, Try.ntmps65
  by_cases hlen : n = n'
  · subst hlen
    go_wp2_with fail
    go_loopw [5] (fun i wr => ∃ (z : Int) (m : Nat), i = .int .i64 z ∧ -1 ≤ z ∧ z < n ∧ Hid ((wds a).drop (z + 1).toNat = (wds b).drop (z + 1).toNat) ∧ wr = w.drewN m) (fun i _ => (intOf i + 1).toNat)
    case atStart =>
      refine ⟨_, 0, rfl, by omega, by omega, Lib.hid ?_, rfl⟩
      rw [List.drop_eq_nil_of_le (by rw [← HA.out]; omega), List.drop_eq_nil_of_le (by rw [← HB.out]; omega)]
    case round =>
      obtain ⟨z, m, rfl, hz1, hz2, HD, rfl⟩ := hrel
      by_cases hz : 0 ≤ z
      · obtain ⟨j, rfl⟩ := Int.eq_ofNat_of_zero_le hz
        have e1 : ((j : Int) + 1).toNat = j + 1 := by omega
        rw [e1] at HD
        obtain ⟨b1, o1, rfl, hc1⟩ := cell32 h (show j < n by omega)
        obtain ⟨b2, o2, rfl, hc2⟩ := cell32 h' (show j < n by omega)
        have ja : j < (wds a).length := by rw [← HA.out]; omega
        have jb : j < (wds b).length := by rw [← HB.out]; omega
        have HL := Lib.hid (show (wds a).getD j 0 < (wds b).getD j 0 → a < b from fun hlt => by
          have := wv_cmp (wds_lt a) ja jb HD.out hlt
          rwa [wv_wds, wv_wds] at this)
        have HG := Lib.hid (show (wds b).getD j 0 < (wds a).getD j 0 → b < a from fun hlt => by
          have := wv_cmp (wds_lt b) jb ja HD.out.symm hlt
          rwa [wv_wds, wv_wds] at this)
        have HE := Lib.hid (show (wds a).getD j 0 = (wds b).getD j 0 → (wds a).drop j = (wds b).drop j from fun he => by
          rw [List.drop_eq_getElem_cons ja, List.drop_eq_getElem_cons jb, HD.out]
          simp [List.getD, List.getElem?_eq_getElem ja, List.getElem?_eq_getElem jb] at he
          rw [he])
        clear ja jb
        generalize (wds a).getD j 0 = p at *
        generalize (wds b).getD j 0 = q at *
        by_cases hpq : p = q
        · subst hpq
          go_wp2
          go_quiet (fail)
          go_wp2
          go_roundw
          case rel =>
            have e2 : ((j : Int) - 1 + 1).toNat = j := by omega
            exact ⟨_, _, rfl, by omega, by omega, Lib.hid (by rw [e2]; first | exact HE.out rfl | exact HE.out trivial), rfl⟩
          case measure => simp [intOf]
        · have hne : ((p : Int) != (q : Int)) = true := by simp; omega
          go_wp2
          go_quiet (fail)
          by_cases hlt : p < q
          · have H1 := Lib.hid (cmpN_lt (HL.out hlt))
            go_wp2
            go_quiet (fail)
            go_wp2
            go_ret
            exact ⟨by rw [H1.out]; rfl, _, by rw [World.drewN_drewN, World.drewN_drewN]⟩
          · have H1 := Lib.hid (cmpN_gt (HG.out (by omega)))
            go_wp2
            go_quiet (fail)
            go_wp2
            go_ret
            exact ⟨by rw [H1.out]; rfl, _, by rw [World.drewN_drewN, World.drewN_drewN]⟩
      · obtain rfl : z = -1 := by omega
        go_wp2
        go_ret
        have e0 : (-1 + 1 : Int).toNat = 0 := rfl
        have h0 := HD.out
        rw [e0, List.drop_zero, List.drop_zero, wds_inj] at h0
        exact ⟨by rw [cmpN_eq h0]; rfl, m, rfl⟩
  · rcases Nat.lt_or_gt_of_ne hlen with hlt | hlt
    · go_wp2_with fail
      go_ret
      exact ⟨by rw [cmpN_lt (wds_len_lt (by rw [← HA.out, ← HB.out]; exact hlt))]; rfl, 0, rfl⟩
    · go_wp2_with fail
      go_ret
      exact ⟨by rw [cmpN_gt (wds_len_lt (by rw [← HA.out, ← HB.out]; exact hlt))]; rfl, 0, rfl⟩
theorem intCmp_any (g g' : Nat) (y z : Int) (w : World) (h : Big w w.heap.size g y) (h' : Big w w.heap.size g' z) (hl : (wds y.natAbs).length ≤ 1000000) (hl' : (wds z.natAbs).length ≤ 1000000) :
    Calls Try.prog 43 #[.pointer (some ⟨g, 0, none⟩), .pointer (some ⟨g', 0, none⟩)] w fun e w' => e = .returned (.int .i64 (cmpZ y z)) ∧ Below w.heap.size w w' := by
  obtain ⟨A, c, h0, h1, hr, _, _, _, _, _⟩ := h
  obtain ⟨A', c', h0', h1', hr', _, _, _, _, _⟩ := h'
  have HS := Lib.hid (show (y < 0 → z < 0 → cmpZ y z = - cmpN y.natAbs z.natAbs) ∧ (0 ≤ y → 0 ≤ z → cmpZ y z = cmpN y.natAbs z.natAbs) ∧ (y < 0 → 0 ≤ z → cmpZ y z = -1) ∧ (0 ≤ y → z < 0 → cmpZ y z = 1) by
    unfold cmpZ cmpN
    refine ⟨fun a b => ?_, fun a b => ?_, fun a b => ?_, fun a b => ?_⟩ <;> (repeat' split) <;> omega)
  obtain ⟨hb1, hb2⟩ := cmpN_range y.natAbs z.natAbs
  by_cases hy : y < 0 <;> by_cases hz : z < 0 <;> simp only [hy, hz, decide_true, decide_false] at h0 h0' <;>
  (go_enter Try.func43, Try.ntmps43
   go_wp2_with fail
   try go_quiet (fail)
   go_wp2_with fail
   try go_quiet (exact quiet_of2 (cmp_any _ _ _ _ _ _ y.natAbs z.natAbs rfl rfl _ _ _ (hr.drewN _) (hr'.drewN _) (by with_reducible assumption) (by with_reducible assumption)))
   go_wp2_with fail
   go_ret
   refine ⟨?_, by first | exact dr (dr (Below.refl _ _) _) _ | exact dr (Below.refl _ _) _⟩
   first
   | (rw [HS.out.1 (by assumption) (by assumption)]; rfl)
   | (rw [HS.out.2.1 (by assumption) (by assumption)]; rfl)
   | (rw [HS.out.2.2.1 (by assumption) (by assumption)]; rfl)
   | (rw [HS.out.2.2.2 (by assumption) (by assumption)]; rfl)
   | trace_state)
theorem wordOrder_any (a b : Int) (w : World) : Calls Try.prog 42 #[.int .i64 a, .int .i64 b] w fun e w' => e = .returned (.int .i64 (cmpZ a b)) ∧ w = w' := by
  have HS := Lib.hid (show (a < b → cmpZ a b = -1) ∧ (b < a → cmpZ a b = 1) ∧ (a = b → cmpZ a b = 0) by
    unfold cmpZ
    refine ⟨fun _ => ?_, fun _ => ?_, fun _ => ?_⟩ <;> (repeat' split) <;> omega)
  by_cases h1 : a < b
  · go_enter Try.func42, Try.ntmps42
    go_wp2
    go_ret
    exact ⟨by rw [HS.out.1 h1]; rfl, rfl⟩
  · by_cases h2 : b < a
    · go_enter Try.func42, Try.ntmps42
      go_wp2
      go_ret
      exact ⟨by rw [HS.out.2.1 h2]; rfl, rfl⟩
    · go_enter Try.func42, Try.ntmps42
      go_wp2
      go_ret
      exact ⟨by rw [HS.out.2.2 (by omega)]; rfl, rfl⟩
/-- What a comparison answers. -/
def cmpV (op a b : Int) : Bool × Int := if 11 ≤ op ∧ op ≤ 16 then (holdsB op (cmpZ a b), 0) else (false, 13)
theorem wordCompare_any (op a b : Int) (w : World) : Calls Try.prog 20 #[.int .i64 op, .int .i64 a, .int .i64 b] w fun e w' => e = .returned (.tuple #[.bool (cmpV op a b).1, .int .i64 (cmpV op a b).2]) ∧ w = w' := by
  have hr := cmpZ_range a b
  by_cases ho : 11 ≤ op ∧ op ≤ 16
  · have HV := Lib.hid (show cmpV op a b = (holdsB op (cmpZ a b), 0) by unfold cmpV; rw [if_pos ho])
    go_enter Try.func20, Try.ntmps20
    go_wp2_with fail
    refine (wordOrder_any a b _).mono ?_
    rintro e w1 ⟨rfl, rfl⟩
    go_wp2_with fail
    refine (wordHolds_yes op _ hr.1 hr.2 ho.1 ho.2 _).mono ?_
    rintro e w1 ⟨rfl, rfl⟩
    go_wp2_with fail
    go_returns
    exact ⟨by rw [HV.out]; rfl, rfl⟩
  · have HV := Lib.hid (show cmpV op a b = (false, 13) by unfold cmpV; rw [if_neg ho])
    go_enter Try.func20, Try.ntmps20
    go_wp2_with fail
    refine (wordOrder_any a b _).mono ?_
    rintro e w1 ⟨rfl, rfl⟩
    go_wp2_with fail
    refine (wordHolds_no op _ hr.1 hr.2 (by omega) _).mono ?_
    rintro e w1 ⟨rfl, rfl⟩
    go_wp2_with fail
    go_returns
    exact ⟨by rw [HV.out]; rfl, rfl⟩
theorem refCompare_any (op a b : Int) (ha : -9223372036854775808 ≤ a ∧ a ≤ 9223372036854775807) (hb : -9223372036854775808 ≤ b ∧ b ≤ 9223372036854775807) (w : World) : Calls Try.prog 21 #[.int .i64 op, .int .i64 a, .int .i64 b] w fun e w' => e = .returned (.tuple #[.bool (cmpV op a b).1, .int .i64 (cmpV op a b).2]) ∧ Below w.heap.size w w' := by
  have hr := cmpZ_range a b
  have hl1 := wds_len (n := a.natAbs) (k := 2) (by omega)
  have hl2 := wds_len (n := b.natAbs) (k := 2) (by omega)
  by_cases ho : 11 ≤ op ∧ op ≤ 16
  · have HV := Lib.hid (show cmpV op a b = (holdsB op (cmpZ a b), 0) by unfold cmpV; rw [if_pos ho])
    go_enter Try.func21, Try.ntmps21
    go_wp2_with fail
    refine (whole_any a ha _).mono ?_
    rintro e w1 ⟨g1, rfl, hg1, hB1, hb1⟩
    have HB1 := Lib.hid hB1
    clear hB1
    go_wp2_with fail
    refine (whole_any b hb _).mono ?_
    rintro e w2 ⟨g2, rfl, hg2, hB2, hb2⟩
    have HB2 := Lib.hid hB2
    clear hB2
    go_wp2_with fail
    refine (intCmp_any g1 g2 a b _ (HB1.out.into (Nat.le_refl _) hb2) HB2.out (by omega) (by omega)).mono ?_
    rintro e w3 ⟨rfl, hb3⟩
    go_wp2_with fail
    refine (refHolds_yes op _ hr.1 hr.2 ho.1 ho.2 _).mono ?_
    rintro e w4 ⟨rfl, hb4⟩
    go_wp2_with fail
    go_returns
    exact ⟨by rw [HV.out]; rfl, sq (sq (sq hb1 hb2) hb3) hb4⟩
  · have HV := Lib.hid (show cmpV op a b = (false, 13) by unfold cmpV; rw [if_neg ho])
    go_enter Try.func21, Try.ntmps21
    go_wp2_with fail
    refine (whole_any a ha _).mono ?_
    rintro e w1 ⟨g1, rfl, hg1, hB1, hb1⟩
    have HB1 := Lib.hid hB1
    clear hB1
    go_wp2_with fail
    refine (whole_any b hb _).mono ?_
    rintro e w2 ⟨g2, rfl, hg2, hB2, hb2⟩
    have HB2 := Lib.hid hB2
    clear hB2
    go_wp2_with fail
    refine (intCmp_any g1 g2 a b _ (HB1.out.into (Nat.le_refl _) hb2) HB2.out (by omega) (by omega)).mono ?_
    rintro e w3 ⟨rfl, hb3⟩
    go_wp2_with fail
    refine (refHolds_no op _ hr.1 hr.2 (by omega) _).mono ?_
    rintro e w4 ⟨rfl, hb4⟩
    go_wp2_with fail
    go_returns
    exact ⟨by rw [HV.out]; rfl, sq (sq (sq hb1 hb2) hb3) hb4⟩
theorem walkWordCompares (v0 v1 v2 : Value) (w : World) (w0 : IsInt v0) (w1 : IsInt v1) (w2 : IsInt v2) : Calls Try.prog 6 #[v0, v1, v2] w fun e w' => e = .returned (.bool true) ∧ Below w.heap.size w w' := by
  obtain ⟨op, rfl, ho⟩ := w0
  obtain ⟨a, rfl, ha⟩ := w1
  obtain ⟨b, rfl, hb⟩ := w2
  go_enter Try.func6, Try.ntmps6
  go_wp2_with fail
  refine (wordCompare_any op a b _).mono ?_
  rintro e w1 ⟨rfl, rfl⟩
  go_wp2_with fail
  refine (refCompare_any op a b ha hb _).mono ?_
  rintro e w2 ⟨rfl, hb2⟩
  go_wp2_with fail
  go_ret
  exact ⟨by simp, hb2⟩
end Go.Proofs.Ytniepfpjklccmaa
