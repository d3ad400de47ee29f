/- Numbers of any size: their length in bits, a bit, the noughts at the low end, their low 64 bits. Conditions: none. -/
import Derived.Test.YtgjhjojbaieeaaaDoorSmall
import Derived.Test.YtgjhjojbaieeaaaDoorBl
set_option maxRecDepth 20000
namespace Go.Proofs.YtgjhjojbaieeaaaDoor
open Go.ChangeShapes Go.WideShapes Go.ChangeAt Go.RowKit
theorem andU1 (q : Nat) (h : q < 18446744073709551616) : bits .and .u64 (q : Int) 1 = ((q % 2 : Nat) : Int) := by
  show IntKind.u64.wrap ((BitVec.ofInt 64 (q : Int) &&& BitVec.ofInt 64 ((1 : Nat) : Int)).toNat : Int) = _
  rw [BitVec.toNat_and, ofIntU q h, ofIntU 1 (by omega), show (1 : Nat) = 2 ^ 1 - 1 from rfl, Nat.and_two_pow_sub_one_eq_mod, wrapU _ (by omega) (by omega)]
theorem bit_mod (M j : Nat) (hj : j < 32) : M % 4294967296 / 2 ^ j % 2 = M / 2 ^ j % 2 := by
  have h := Nat.testBit_mod_two_pow M 32 j
  rw [Nat.testBit_eq_decide_div_mod_eq, Nat.testBit_eq_decide_div_mod_eq, decide_eq_true hj, Bool.true_and] at h
  have e : (2 : Nat) ^ 32 = 4294967296 := by decide
  rw [e] at h
  have h1 := Nat.mod_lt (M % 4294967296 / 2 ^ j) (show 0 < 2 by omega)
  have h2 := Nat.mod_lt (M / 2 ^ j) (show 0 < 2 by omega)
  by_cases hb : M / 2 ^ j % 2 = 1
  · rw [decide_eq_true hb, decide_eq_true_iff] at h; omega
  · rw [decide_eq_false hb, decide_eq_false_iff_not] at h; omega
theorem bit_word (N i : Nat) : (wds N).getD (i / 32) 0 / 2 ^ (i % 32) % 2 = N / 2 ^ i % 2 := by
  rw [wds_get, bit_mod _ _ (Nat.mod_lt _ (by omega)), Nat.div_div_eq_div_mul]
  congr 2
  rw [show (4294967296 : Nat) = 2 ^ 32 by decide, ← Nat.pow_mul, ← Nat.pow_add]
  congr 1
  omega
theorem bit_val {X j : Nat} (hX : X < 4294967296) : bits .and .u64 (IntKind.u64.wrap ((X : Int) / 2 ^ j)) 1 = ((X / 2 ^ j % 2 : Nat) : Int) := by
  have e : (X : Int) / 2 ^ j = ((X / 2 ^ j : Nat) : Int) := by rw [Int.natCast_ediv, Int.natCast_pow]; rfl
  have h : X / 2 ^ j ≤ X := Nat.div_le_self _ _
  rw [e]
  generalize X / 2 ^ j = Y at *
  rw [wrapU _ (by omega) (by omega), andU1 _ (by omega)]
theorem bit_zero {N i n : Nat} (hn : n = (wds N).length) (h : n ≤ i / 32) : N / 2 ^ i % 2 = 0 := by
  have h1 : N < 2 ^ i := by
    have h2 := wv_lt (wds_lt N)
    rw [wv_wds, ← hn, show (4294967296 : Nat) = 2 ^ 32 by decide, ← Nat.pow_mul] at h2
    exact Nat.lt_of_lt_of_le h2 (Nat.pow_le_pow_right (by omega) (by omega))
  rw [Nat.div_eq_of_lt h1]
theorem length_any (A : Option Addr) (n c N : Nat) (hn : n = (wds N).length) (w : World) (B : Nat) (h : Rd w B 1 A n (u32s (wds N))) (hl : n ≤ 1000000) :
    Calls Tryd.prog 32 #[.slice A n c] w fun e w' => e = .returned (.int .i64 ((wl N : Nat) : Int)) ∧ w' = w := by
  have HN := Lib.hid hn
  clear hn
  by_cases h0 : n = 0
  · have hN : N = 0 := wds_nil.1 (List.eq_nil_of_length_eq_zero (by have := HN.out; omega))
    have HW := Lib.hid (show wl N = 0 by rw [hN, wl_zero])
    have g0 : ((n : Int) == 0) = true := by simp [h0]
    clear h0 hN
    go_enter Tryd.func32, Tryd.ntmps32
    go_wp2_with fail
    go_ret
    exact ⟨by rw [HW.out]; rfl, rfl⟩
  · have g0 : ((n : Int) == 0) = false := by simp; omega
    obtain ⟨m, rfl⟩ : ∃ m, n = m + 1 := ⟨n - 1, by omega⟩
    obtain ⟨b, off, rfl, hc⟩ := cell32 h (show m < m + 1 by omega)
    have HW := Lib.hid (show wl N = m * 32 + bl ((wds N).getD m 0) by unfold wl; rw [← HN.out]; simp)
    have hT := getD_lt (wds_lt N) m
    generalize (wds N).getD m 0 = top at *
    have HT := Lib.hid hT
    clear h hT
    go_enter Tryd.func32, Tryd.ntmps32
    go_wp2_with fail
    go_loop [3, 4] (fun n t => ∃ k q : Nat, n = .int .i64 (k : Int) ∧ t = .int .u32 (q : Int) ∧ k ≤ 32 ∧ q < 4294967296 ∧ Hid (k + bl q = bl top)) (fun _ t => (intOf t).toNat)
    case atStart => exact ⟨0, top, rfl, rfl, by omega, HT.out, Lib.hid (by omega)⟩
    case round =>
      obtain ⟨k, q, rfl, rfl, hk, hq, HB⟩ := hrel
      by_cases hq0 : q = 0
      · subst hq0
        have HE := Lib.hid (show bl top = k by rw [← HB.out, bl_zero]; rfl)
        go_wp2_with fail
        go_ret
        exact ⟨by rw [HW.out, HE.out]; simp, rfl⟩
      · have gq : ((q : Int) != 0) = true := by simp [hq0]
        have HE := Lib.hid (show k + 1 + bl (q / 2) = bl top by rw [← HB.out, bl_pos hq0]; omega)
        have hb32 := bl_le32 HT.out
        have HK := Lib.hid (show k + 1 ≤ 32 by have := HE.out; omega)
        go_wp2_with fail
        exact ⟨⟨k + 1, q / 2, by go_num, by go_num, HK.out, by omega, HE⟩, by simp [intOf]; omega⟩
theorem bit_any (A : Option Addr) (n c N i : Nat) (hn : n = (wds N).length) (w : World) (B : Nat) (h : Rd w B 1 A n (u32s (wds N))) (hl : n ≤ 1000000) (hi : i ≤ 100) :
    Calls Tryd.prog 43 #[.slice A n c, .int .i64 (i : Int)] w fun e w' => e = .returned (.int .u64 ((N / 2 ^ i % 2 : Nat) : Int)) ∧ w' = w := by
  have HN := Lib.hid hn
  clear hn
  have hi0 : ((i : Int) / 32).toNat = i / 32 := by omega
  have hi1 : decide ((i : Int) < 0) = false := decide_eq_false (by omega)
  by_cases h0 : n ≤ i / 32
  · have g0 : decide ((n : Int) ≤ (i : Int) / 32) = true := decide_eq_true (by omega)
    have HZ := Lib.hid (bit_zero HN.out h0)
    go_enter Tryd.func43, Tryd.ntmps43
    go_wp2_with fail
    go_ret
    exact ⟨by rw [HZ.out]; rfl, rfl⟩
  · have g0 : decide ((n : Int) ≤ (i : Int) / 32) = false := decide_eq_false (by omega)
    obtain ⟨b, off, rfl, hc⟩ := cell32 h (show i / 32 < n by omega)
    have hX := getD_lt (wds_lt N) (i / 32)
    have hw := bit_word N i
    generalize (wds N).getD (i / 32) 0 = X at *
    have HX := Lib.hid (And.intro hX hw)
    clear h hX hw
    go_enter Tryd.func43, Tryd.ntmps43
    go_wp2_with fail
    go_ret
    exact ⟨by rw [← HX.out.2, ← bit_val HX.out.1]; rfl, rfl⟩
/-- How many noughts at the low end, of a number of 64 bits at most. -/
theorem tz_any (g : Nat) (z : Int) (w : World) (B : Nat) (h : Big w B g z) (h0 : z ≠ 0) (h64 : z.natAbs < 18446744073709551616) :
    Calls Tryd.prog 33 #[.pointer (some ⟨g, 0, none⟩)] w fun e w' => (∃ k : Nat, e = .returned (.int .u64 (k : Int)) ∧ k < 64 ∧ z.natAbs % 2 ^ k = 0 ∧ z.natAbs / 2 ^ k % 2 = 1) ∧ ∃ n, w' = w.drewN n := by
  obtain ⟨A, c, c0, c1, hr, hl, hA, f0, f1, hg⟩ := h
  have hlen := wds_len (n := z.natAbs) (k := 2) (by rw [show (4294967296 : Nat) ^ 2 = 18446744073709551616 by decide]; exact h64)
  have hpos : 0 < (wds z.natAbs).length := by rw [List.length_pos_iff, ne_eq, wds_nil]; omega
  have hz0 : 0 < z.natAbs := by omega
  generalize z.natAbs = N at *
  have HNP := Lib.hid hz0
  have HN64 := Lib.hid h64
  generalize hn : (wds N).length = n at *
  have HN := Lib.hid hn.symm
  have HR := Lib.hid hr
  have gp : ((n : Int) == 0) = false := beq_eq_false_iff_ne.2 (by omega)
  clear hn hr hz0 hA hl h64 c0 f0 f1 h0
  go_enter Tryd.func33, Tryd.ntmps33
  go_wp2_with fail
  go_loopw [3] (fun q wr => ∃ k : Nat, q = .int .u64 (k : Int) ∧ k < 64 ∧ Hid (N % 2 ^ k = 0) ∧ ∃ m, wr = w.drewN m) (fun q _ => 64 - (intOf q).toNat)
  case atStart => exact ⟨0, rfl, by omega, Lib.hid (Nat.mod_one _), 0, rfl⟩
  case round =>
    obtain ⟨k, rfl, hk, HZ, m, rfl⟩ := hrel
    have hc1 : (w.drewN m).cell? ⟨g, 1, none⟩ = some (.slice A n c) := c1
    go_wp2_with fail
    refine (bit_any A n c N k HN.out _ B (HR.out.drewN m) (by omega) (by omega)).mono ?_
    rintro e w2 ⟨rfl, rfl⟩
    have h2 := Nat.mod_lt (N / 2 ^ k) (show 0 < 2 by omega)
    by_cases hb : N / 2 ^ k % 2 = 0
    · have HZ2 := Lib.hid (show N % 2 ^ (k + 1) = 0 by
        rw [Nat.pow_succ, Nat.mod_mul, HZ.out, hb]; simp)
      have hk1 : k + 1 < 64 := by
        rcases Nat.lt_or_ge (k + 1) 64 with h | h
        · exact h
        · exfalso
          obtain rfl : k = 63 := by omega
          have h3 := HZ2.out
          rw [show (2 : Nat) ^ (63 + 1) = 18446744073709551616 by decide] at h3
          have h4 := HN64.out
          have h5 := HNP.out
          omega
      rw [hb]
      clear hb h2
      go_wp2_with fail
      exact ⟨⟨k + 1, by go_num, hk1, HZ2, _, rfl⟩, by simp [intOf]; omega⟩
    · have hb1 : N / 2 ^ k % 2 = 1 := by omega
      have HB := Lib.hid hb1
      rw [hb1]
      clear hb hb1 h2
      go_wp2_with fail
      go_ret
      exact ⟨⟨k, rfl, hk, HZ.out, HB.out⟩, _, rfl⟩
end Go.Proofs.YtgjhjojbaieeaaaDoor
