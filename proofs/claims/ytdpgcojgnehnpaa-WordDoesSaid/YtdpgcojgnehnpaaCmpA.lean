/- Numbers of any size, compared. Conditions: none. -/
import Derived.Test.YtdpgcojgnehnpaaBig1
import Derived.Test.YtdpgcojgnehnpaaRow
set_option maxRecDepth 20000
namespace Go.Proofs.Ytdpgcojgnehnpaa
open Go.ChangeShapes Go.WideShapes Go.ChangeAt Go.RowKit
def cmpN (a b : Nat) : Int := if a < b then -1 else if b < a then 1 else 0
def cmpZ (a b : Int) : Int := if a < b then -1 else if b < a then 1 else 0
theorem cmpN_lt {a b : Nat} (h : a < b) : cmpN a b = -1 := by unfold cmpN; rw [if_pos h]
theorem cmpN_gt {a b : Nat} (h : b < a) : cmpN a b = 1 := by unfold cmpN; rw [if_neg (by omega), if_pos h]
theorem cmpN_eq {a b : Nat} (h : a = b) : cmpN a b = 0 := by unfold cmpN; rw [if_neg (by omega), if_neg (by omega)]
theorem cmpN_range (a b : Nat) : -1 ≤ cmpN a b ∧ cmpN a b ≤ 1 := by unfold cmpN; (repeat' split) <;> omega
theorem cmpZ_range (a b : Int) : -1 ≤ cmpZ a b ∧ cmpZ a b ≤ 1 := by unfold cmpZ; (repeat' split) <;> omega
theorem cmp_any (A A' : Option Addr) (n n' c c' a b : Nat) (hna : n = (wds a).length) (hnb : n' = (wds b).length) (w : World) (B B' : Nat) (h : Rd w B 1 A n (u32s (wds a))) (h' : Rd w B' 1 A' n' (u32s (wds b))) (hn : n ≤ 1000000) (hn' : n' ≤ 1000000) :
    Calls Try.prog 169 #[.slice A n c, .slice A' n' c'] w fun e w' => e = .returned (.int .i64 (cmpN a b)) ∧ ∃ m, w' = w.drewN m := by
  have HA := Lib.hid hna
  have HB := Lib.hid hnb
  clear hna hnb
  go_enter Try.func169, Try.ntmps169
  by_cases hlen : n = n'
  · subst hlen
    go_wp2_with fail
    go_loopw [5] (fun i wr => ∃ (z : Int) (m : Nat), i = .int .i64 z ∧ -1 ≤ z ∧ z < n ∧ Hid ((wds a).drop (z + 1).toNat = (wds b).drop (z + 1).toNat) ∧ wr = w.drewN m) (fun i _ => (intOf i + 1).toNat)
    case atStart =>
      refine ⟨_, 0, rfl, by omega, by omega, Lib.hid ?_, rfl⟩
      rw [List.drop_eq_nil_of_le (by rw [← HA.out]; omega), List.drop_eq_nil_of_le (by rw [← HB.out]; omega)]
    case round =>
      obtain ⟨z, m, rfl, hz1, hz2, HD, rfl⟩ := hrel
      by_cases hz : 0 ≤ z
      · obtain ⟨j, rfl⟩ := Int.eq_ofNat_of_zero_le hz
        have e1 : ((j : Int) + 1).toNat = j + 1 := by omega
        rw [e1] at HD
        obtain ⟨b1, o1, rfl, hc1⟩ := cell32 h (show j < n by omega)
        obtain ⟨b2, o2, rfl, hc2⟩ := cell32 h' (show j < n by omega)
        have ja : j < (wds a).length := by rw [← HA.out]; omega
        have jb : j < (wds b).length := by rw [← HB.out]; omega
        have HL := Lib.hid (show (wds a).getD j 0 < (wds b).getD j 0 → a < b from fun hlt => by
          have := wv_cmp (wds_lt a) ja jb HD.out hlt
          rwa [wv_wds, wv_wds] at this)
        have HG := Lib.hid (show (wds b).getD j 0 < (wds a).getD j 0 → b < a from fun hlt => by
          have := wv_cmp (wds_lt b) jb ja HD.out.symm hlt
          rwa [wv_wds, wv_wds] at this)
        have HE := Lib.hid (show (wds a).getD j 0 = (wds b).getD j 0 → (wds a).drop j = (wds b).drop j from fun he => by
          rw [List.drop_eq_getElem_cons ja, List.drop_eq_getElem_cons jb, HD.out]
          simp [List.getD, List.getElem?_eq_getElem ja, List.getElem?_eq_getElem jb] at he
          rw [he])
        clear ja jb
        generalize (wds a).getD j 0 = p at *
        generalize (wds b).getD j 0 = q at *
        by_cases hpq : p = q
        · subst hpq
          go_wp2
          go_quiet (fail)
          go_wp2
          go_roundw
          case rel =>
            have e2 : ((j : Int) - 1 + 1).toNat = j := by omega
            exact ⟨_, _, rfl, by omega, by omega, Lib.hid (by rw [e2]; first | exact HE.out rfl | exact HE.out trivial), rfl⟩
          case measure => simp [intOf]
        · have hne : ((p : Int) != (q : Int)) = true := by simp; omega
          go_wp2
          go_quiet (fail)
          by_cases hlt : p < q
          · have H1 := Lib.hid (cmpN_lt (HL.out hlt))
            go_wp2
            go_quiet (fail)
            go_wp2
            go_ret
            exact ⟨by rw [H1.out]; rfl, _, by rw [World.drewN_drewN, World.drewN_drewN]⟩
          · have H1 := Lib.hid (cmpN_gt (HG.out (by omega)))
            go_wp2
            go_quiet (fail)
            go_wp2
            go_ret
            exact ⟨by rw [H1.out]; rfl, _, by rw [World.drewN_drewN, World.drewN_drewN]⟩
      · obtain rfl : z = -1 := by omega
        go_wp2
        go_ret
        have e0 : (-1 + 1 : Int).toNat = 0 := rfl
        have h0 := HD.out
        rw [e0, List.drop_zero, List.drop_zero, wds_inj] at h0
        exact ⟨by rw [cmpN_eq h0]; rfl, m, rfl⟩
  · rcases Nat.lt_or_gt_of_ne hlen with hlt | hlt
    · go_wp2_with fail
      go_ret
      exact ⟨by rw [cmpN_lt (wds_len_lt (by rw [← HA.out, ← HB.out]; exact hlt))]; rfl, 0, rfl⟩
    · go_wp2_with fail
      go_ret
      exact ⟨by rw [cmpN_gt (wds_len_lt (by rw [← HA.out, ← HB.out]; exact hlt))]; rfl, 0, rfl⟩
end Go.Proofs.Ytdpgcojgnehnpaa
