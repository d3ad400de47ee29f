/- The document's 'wrapped' and 'bitwise'; Rsh, Bit. Conditions: none. -/
import Derived.Test.YtdpgcojgnehnpaaBigMod
import Derived.Handy
set_option maxRecDepth 20000
namespace Go.Proofs.Ytdpgcojgnehnpaa
open Go.ChangeShapes Go.WideShapes Go.ChangeAt Go.RowKit
theorem bit63_any (g : Nat) (z : Int) (w : World) (h : Big w w.heap.size g z) (h0 : 0 ≤ z) (hl : (wds z.natAbs).length ≤ 1000000) :
    Calls Try.prog 116 #[.pointer (some ⟨g, 0, none⟩), .int .i64 63] w fun e w' => e = .returned (.int .u64 ((z.natAbs / 2 ^ 63 % 2 : Nat) : Int)) ∧ ∃ n, w' = w.drewN n := by
  obtain ⟨A, c, c0, c1, hr, _⟩ := h
  rw [decide_eq_false (by omega)] at c0
  have HR := Lib.hid hr
  clear hr
  generalize z.natAbs = Z at *
  go_enter Try.func116, Try.ntmps116
  go_wp2_with fail
  refine (bit_any A _ c Z 63 rfl _ _ HR.out hl (by omega)).mono ?_
  rintro e w1 ⟨rfl, rfl⟩
  go_wp2_with fail
  go_ret
  exact ⟨rfl, 0, rfl⟩
set_option maxHeartbeats 1000000 in
theorem wrapped_any (gx : Nat) (z : Int) (w : World) (hx : Big w w.heap.size gx z) (hl : (wds z.natAbs).length ≤ 1000) :
    Calls Try.prog 50 #[.pointer (some ⟨gx, 0, none⟩)] w fun e w' => e = .returned (.int .i64 (wrap64 z)) ∧ Below w.heap.size w w' := by
  have hgx : gx < w.heap.size := hx.wr.lt
  have HX := Lib.hid hx
  clear hx
  go_enter Try.func50, Try.ntmps50
  go_wp2_with fail
  refine (newInt_any 1 (by omega) _).mono ?_
  rintro e w1 ⟨g1, rfl, hg1, hO, hb1⟩
  have HB1 := Lib.hid (sq (al _) hb1)
  have HO := Lib.hid hO
  have hW1 := Lib.hid ((alloc_wr w w.heap.size 99 rfl).below hb1)
  simp at hg1
  clear hO hb1
  go_wp2_with fail
  refine (lsh_any w.heap.size g1 1 (by omega) w1 hW1.out HO.out (by rw [show (1 : Int).natAbs = 1 from rfl, wds_one (by omega) (by omega)]; decide) 64 2 0 (by decide) (by decide) (by omega)).mono ?_
  rintro e w2 ⟨rfl, hM, hg2⟩
  have HM := Lib.hid (show Big w2 w2.heap.size w.heap.size (M64 : Int) from hM)
  have HB2 := Lib.hid (below_gb HB1.out HB1.out.size (Nat.le_refl _) hg2)
  have hs2 := hM.wr.lt
  clear hM hg2
  go_wp2_with fail
  refine (mod_any w2.heap.size gx w.heap.size z _ (alloc_wr w2 _ _ rfl) (HX.out.into (Nat.le_refl _) (sq HB2.out (al _))) (HM.out.into (Nat.le_refl _) (al _)) hl).mono ?_
  rintro e w3 ⟨rfl, hY, hg3⟩
  have HY := Lib.hid hY
  have hB3w : Below w2.heap.size w2 w3 := below_gb (al _) (by simp) (Nat.le_refl _) hg3
  have HB3 := Lib.hid (sq HB2.out hB3w)
  have HM3 := Lib.hid (HM.out.into (Nat.le_refl _) hB3w)
  clear hY hg3 hB3w
  have hz0 : 0 ≤ z % (M64 : Int) := Int.emod_nonneg _ (by unfold M64; decide)
  have hz1 : z % (M64 : Int) < (M64 : Int) := Int.emod_lt_of_pos _ (by unfold M64; decide)
  have hlY : (wds (z % (M64 : Int)).natAbs).length ≤ 2 := wds_len (k := 2) (by unfold M64 at *; omega)
  have HW := Lib.hid (show wrap64 z = wrap64 (z % (M64 : Int)) by unfold RowKit.wrap64 M64; omega)
  generalize z % (M64 : Int) = y at *
  go_wp2_with fail
  refine (bit63_any w2.heap.size y w3 HY.out hz0 (by omega)).mono ?_
  rintro e w4 ⟨rfl, m4, rfl⟩
  have hB4 : Below w.heap.size w (w3.drewN m4) := dr HB3.out m4
  have HB4 := Lib.hid hB4
  clear hB4
  have hyb : (y < 9223372036854775808 → y.natAbs / 2 ^ 63 % 2 = 0 ∧ wrap64 y = y) ∧ (¬ y < 9223372036854775808 → y.natAbs / 2 ^ 63 % 2 = 1 ∧ wrap64 y = y - (M64 : Int)) := by
    have e63 : (2 : Nat) ^ 63 = 9223372036854775808 := by decide
    rw [e63]
    unfold M64 at *
    unfold RowKit.wrap64
    omega
  have HYB := Lib.hid hyb
  clear hyb
  generalize hbb : y.natAbs / 2 ^ 63 % 2 = bb at *
  have HBB := Lib.hid hbb
  clear hbb
  by_cases hlt : y < 9223372036854775808
  · have hb0 : bb = 0 := (HYB.out.1 hlt).1
    subst hb0
    rw [show ((0 : Nat) : Int) = 0 from rfl]
    have HE := Lib.hid (HYB.out.1 hlt).2
    go_wp2_with fail
    refine (int64_any w2.heap.size y _ _ (HY.out.into (Nat.le_refl _) (dr (Below.refl _ _) m4)) (by unfold inI; omega)).mono ?_
    rintro e w5 ⟨rfl, m5, rfl⟩
    go_wp2_with fail
    go_ret
    refine ⟨?_, dr HB3.out _⟩
    rw [HW.out, HE.out]
    rfl
  · have hb0 : bb = 1 := (HYB.out.2 hlt).1
    subst hb0
    rw [show ((1 : Nat) : Int) = 1 from rfl]
    have HE := Lib.hid (HYB.out.2 hlt).2
    go_wp2_with fail
    have hBd : Below w3.heap.size w3 (w3.drewN m4) := dr (Below.refl _ _) m4
    refine (intSub_any w2.heap.size w2.heap.size w.heap.size y (M64 : Int) _ (HY.out.wr.below hBd) (HY.out.into (Nat.le_refl _) hBd) (HM3.out.into (Nat.le_refl _) hBd) (by omega) (by rw [show ((M64 : Int)).natAbs = M64 from rfl, wds_M64]; decide)).mono ?_
    rintro e w5 ⟨rfl, hY5, hg5⟩
    have HY5 := Lib.hid hY5
    have HB5 := Lib.hid (below_gb HB4.out HB4.out.size (Nat.le_of_lt hs2) hg5)
    clear hY5 hg5
    go_wp2_with fail
    refine (int64_any w2.heap.size (y - (M64 : Int)) _ _ HY5.out (by unfold M64 at *; unfold inI; omega)).mono ?_
    rintro e w6 ⟨rfl, m6, rfl⟩
    go_wp2_with fail
    go_ret
    refine ⟨?_, dr HB5.out _⟩
    rw [HW.out, HE.out]
    rfl
theorem andI1 (q : Int) : bits .and .i64 q 1 = q % 2 := by
  show IntKind.i64.wrap ((BitVec.ofInt 64 q &&& BitVec.ofInt 64 ((1 : Nat) : Int)).toNat : Int) = _
  rw [BitVec.toNat_and, ofIntU 1 (by omega), show (1 : Nat) = 2 ^ 1 - 1 from rfl, Nat.and_two_pow_sub_one_eq_mod]
  have e : ((BitVec.ofInt 64 q).toNat : Int) = q % 18446744073709551616 := by
    rw [BitVec.toNat_ofInt]
    omega
  have : (((BitVec.ofInt 64 q).toNat % 2 ^ 1 : Nat) : Int) = q % 2 := by omega
  rw [this, IntKind.wrap_i64]
  omega
theorem bit_of (a : Int) (k : Nat) (hk : k < 64) : (((BitVec.ofInt 64 a).toNat / 2 ^ k % 2 : Nat) : Int) = a / 2 ^ k % 2 := by
  have e : ((BitVec.ofInt 64 a).toNat : Int) = a % 18446744073709551616 := by
    rw [BitVec.toNat_ofInt]
    omega
  have e2 : (((BitVec.ofInt 64 a).toNat / 2 ^ k % 2 : Nat) : Int) = ((BitVec.ofInt 64 a).toNat : Int) / 2 ^ k % 2 := by
    rw [Int.natCast_emod, Int.natCast_ediv, Int.natCast_pow]; rfl
  rw [e2, e]
  have h1 : a = a % 18446744073709551616 + 2 ^ k * (2 ^ (63 - k) * (2 * (a / 18446744073709551616))) := by
    rw [← Int.mul_assoc, ← Int.pow_add, show k + (63 - k) = 63 by omega, ← Int.mul_assoc, show (2 : Int) ^ 63 * 2 = 18446744073709551616 by decide]
    omega
  have hp : (2 : Int) ^ k ≠ 0 := Int.pow_ne_zero (by decide)
  have h2 : a / 2 ^ k = a % 18446744073709551616 / 2 ^ k + 2 ^ (63 - k) * (2 * (a / 18446744073709551616)) := by
    conv => lhs; rw [h1]
    rw [Int.add_mul_ediv_left _ _ hp]
  rw [h2, show (2 : Int) ^ (63 - k) * (2 * (a / 18446744073709551616)) = 2 * (2 ^ (63 - k) * (a / 18446744073709551616)) by rw [← Int.mul_assoc, ← Int.mul_assoc, Int.mul_comm (2 ^ (63 - k)) 2], Int.add_mul_emod_self_left]
/-- The bits that 'bitwise' gathers. -/
def bwU (op : Int) (a b : Int) : Nat := (if op = 8 then BitVec.ofInt 64 a &&& BitVec.ofInt 64 b else if op = 9 then BitVec.ofInt 64 a ||| BitVec.ofInt 64 b else BitVec.ofInt 64 a ^^^ BitVec.ofInt 64 b).toNat
theorem nat_bit (u k : Nat) : (u / 2 ^ k % 2 : Nat) = if u.testBit k then 1 else 0 := by
  rw [Nat.testBit_eq_decide_div_mod_eq]
  have := Nat.mod_lt (u / 2 ^ k) (show 0 < 2 by omega)
  by_cases h : u / 2 ^ k % 2 = 1
  · simp [h]
  · simp [h]; omega
theorem bw_bit (op a b : Int) (k : Nat) (hk : k < 64) (x y : Int) (hx : x = a / 2 ^ k % 2) (hy : y = b / 2 ^ k % 2) :
    ((bwU op a b / 2 ^ k % 2 : Nat) : Int) = if op = 8 then x * y else if op = 9 then x + y - x * y else (x + y) % 2 := by
  rw [← bit_of a k hk] at hx
  rw [← bit_of b k hk] at hy
  subst hx hy
  unfold bwU
  rw [nat_bit, nat_bit, nat_bit]
  split
  · rw [BitVec.toNat_and, Nat.testBit_and]
    cases (BitVec.ofInt 64 a).toNat.testBit k <;> cases (BitVec.ofInt 64 b).toNat.testBit k <;> simp
  · split
    · rw [BitVec.toNat_or, Nat.testBit_or]
      cases (BitVec.ofInt 64 a).toNat.testBit k <;> cases (BitVec.ofInt 64 b).toNat.testBit k <;> simp
    · rw [BitVec.toNat_xor, Nat.testBit_xor]
      cases (BitVec.ofInt 64 a).toNat.testBit k <;> cases (BitVec.ofInt 64 b).toNat.testBit k <;> simp
theorem bw_step (u k : Nat) (hu : u < 18446744073709551616) : (u / 2 ^ (k + 1) * 2 + u / 2 ^ k % 2 = u / 2 ^ k) ∧ u / 2 ^ (k + 1) < 9223372036854775808 := by
  have e : u / 2 ^ (k + 1) = u / 2 ^ k / 2 := by rw [Nat.pow_succ, Nat.div_div_eq_div_mul]
  rw [e]
  have : u / 2 ^ k ≤ u := Nat.div_le_self _ _
  omega
set_option maxHeartbeats 1000000 in
theorem bitwise_any (op a b : Int) (w : World) : Calls Try.prog 49 #[.int .i64 op, .int .i64 a, .int .i64 b] w fun e w' => e = .returned (.int .i64 (wrap64 (bwU op a b))) ∧ w' = w := by
  have hu : bwU op a b < 18446744073709551616 := by unfold bwU; exact (BitVec.isLt _)
  have HU := Lib.hid hu
  clear hu
  have HA := Lib.hid andI1
  go_enter Try.func49, Try.ntmps49
  go_wp2_with fail
  go_loop [7, 8] (fun n k => ∃ j : Nat, j ≤ 64 ∧ k = .int .i64 ((j : Int) - 1) ∧ n = .int .i64 (wrap64 ((bwU op a b / 2 ^ j : Nat) : Int))) (fun _ k => (intOf k + 1).toNat)
  case atStart =>
    refine ⟨64, by omega, rfl, ?_⟩
    rw [Nat.div_eq_of_lt HU.out]
    simp [RowKit.wrap64]
  case round =>
    obtain ⟨j, hj, rfl, rfl⟩ := hrel
    rcases j with _ | k
    · rw [show ((0 : Nat) : Int) - 1 = -1 from rfl, show (2 : Nat) ^ 0 = 1 from rfl, Nat.div_one]
      go_wp2_with fail
      go_ret
      exact ⟨rfl, rfl⟩
    · have ek : ((k + 1 : Nat) : Int) - 1 = (k : Int) := by omega
      obtain ⟨h1, h2⟩ := bw_step (bwU op a b) k HU.out
      obtain ⟨x, hx⟩ : ∃ x, x = a / 2 ^ k % 2 := ⟨_, rfl⟩
      obtain ⟨y, hy⟩ : ∃ y, y = b / 2 ^ k % 2 := ⟨_, rfl⟩
      have hz := bw_bit op a b k (by omega) x y hx hy
      have hx2 : x = 0 ∨ x = 1 := by omega
      have hy2 : y = 0 ∨ y = 1 := by omega
      have HXY := Lib.hid (And.intro hx hy)
      have eX : bits .and .i64 (a / 2 ^ k) 1 = x := by rw [HA.out, HXY.out.1]
      have eY : bits .and .i64 (b / 2 ^ k) 1 = y := by rw [HA.out, HXY.out.2]
      have HZ := Lib.hid (And.intro h1 hz)
      generalize bwU op a b / 2 ^ (k + 1) = u at *
      have hwu : wrap64 ((u : Nat) : Int) = (u : Int) := by unfold RowKit.wrap64; omega
      clear h1 hz hx hy
      have HE := Lib.hid (show ((bwU op a b / 2 ^ k : Nat) : Int) = (u : Int) * 2 + (if op = 8 then x * y else if op = 9 then x + y - x * y else (x + y) % 2) by
        rw [← HZ.out.2]
        have := HZ.out.1
        omega)
      rw [ek, hwu]
      by_cases h8 : op = 8
      · subst h8
        go_wp2
        refine ⟨⟨k, by omega, rfl, ?_⟩, by simp [intOf]⟩
        rw [HE.out, if_pos rfl]
        congr 1
        rcases hx2 with rfl | rfl <;> rcases hy2 with rfl | rfl <;> (unfold RowKit.wrap64; omega)
      · have g8 : (op == 8) = false := by simp [h8]
        by_cases h9 : op = 9
        · subst h9
          go_wp2
          refine ⟨⟨k, by omega, rfl, ?_⟩, by simp [intOf]⟩
          rw [HE.out, if_neg h8, if_pos rfl]
          congr 1
          rcases hx2 with rfl | rfl <;> rcases hy2 with rfl | rfl <;> (unfold RowKit.wrap64; omega)
        · have g9 : (op == 9) = false := by simp [h9]
          go_wp2
          refine ⟨⟨k, by omega, rfl, ?_⟩, by simp [intOf]⟩
          rw [HE.out, if_neg h8, if_neg h9]
          congr 1
          rcases hx2 with rfl | rfl <;> rcases hy2 with rfl | rfl <;> (unfold RowKit.wrap64; omega)
theorem neg_div (X p : Nat) (hp : 0 < p) (hX : 0 < X) : -(((X - 1) / p + 1 : Nat) : Int) = (-(X : Int)) / (p : Int) := by
  have h1 := Nat.div_add_mod (X - 1) p
  have h2 := Nat.mod_lt (X - 1) hp
  generalize (X - 1) / p = q at *
  generalize (X - 1) % p = r at *
  have e : (-(X : Int)) = ((p : Int) - r - 1) + (p : Int) * (-((q : Int) + 1)) := by
    have h3 : (X : Int) = (p : Int) * q + r + 1 := by
      have : X = p * q + r + 1 := by omega
      rw [this]; simp
    rw [h3, Int.mul_neg, Int.mul_add]
    omega
  rw [e, Int.add_mul_ediv_left _ _ (by omega), Int.ediv_eq_zero_of_lt (by omega) (by omega)]
  omega
theorem rd_one (w : World) (B : Nat) (hB : B = w.heap.size + 1) : Rd (w.alloc (.cells #[.int .u32 1] 190)) B 1 (some ⟨w.heap.size, 0, none⟩) 1 (u32s (wds 1)) := by
  subst hB
  rw [wds_one (by omega) (by omega)]
  exact Rd.lit1 w (.int .u32 1) 190
set_option maxHeartbeats 1000000 in
theorem rsh_any (g gx : Nat) (x : Int) (w : World) (hw : Wr w g) (hx : Big w w.heap.size gx x) (hl : (wds x.natAbs).length ≤ 1000) (z : Int) (k s : Nat) (hz : z / 32 = (k : Int)) (hz2 : z % 32 = (s : Int)) (hk : k ≤ 1000) :
    Calls Try.prog 48 #[.pointer (some ⟨g, 0, none⟩), .pointer (some ⟨gx, 0, none⟩), .int .u64 z] w fun e w' => e = .returned (.pointer (some ⟨g, 0, none⟩)) ∧ Big w' w'.heap.size g (x / 2 ^ (32 * k + s)) ∧ w.grownBy w' (some g) := by
  have HW := Lib.hid hw
  have HLg := Lib.hid hw.lt
  have HZ := Lib.hid (And.intro hz hz2)
  obtain ⟨Ax, cx, x0, x1, xr, _⟩ := hx
  have HX := Lib.hid xr
  clear xr hw hz hz2
  by_cases hneg : x < 0
  · rw [decide_eq_true hneg] at x0
    have HV := Lib.hid (show sgz true ((x.natAbs - 1) / 2 ^ (32 * k + s) + 1) = x / 2 ^ (32 * k + s) by
      have h := neg_div x.natAbs (2 ^ (32 * k + s)) (Nat.two_pow_pos _) (by omega)
      unfold sgz
      rw [if_pos rfl, h, Int.natCast_pow]
      congr 1
      omega)
    have HP := Lib.hid (show 1 ≤ x.natAbs by omega)
    clear hneg
    generalize x.natAbs = X at *
    have HLN := Lib.hid (show 1 ≤ (wds X).length from List.length_pos_iff.2 (fun e => by have := wds_nil.1 e; have := HP.out; omega))
    generalize hnx : (wds X).length = n at *
    have HN := Lib.hid hnx
    clear hnx
    have hl1 : n ≤ 1000000 := by omega
    go_enter Try.func48, Try.ntmps48
    go_wp2_with fail
    refine (sub_any Ax _ n 1 cx 1 (wds X) (wds 1) HN.out.symm (by rw [wds_one (by omega) (by omega)]; rfl) HLN.out (by rw [wv_wds, wv_wds]; exact HP.out) (wds_lt _) (wds_lt _) _ (HX.out.into (Nat.le_refl _) (al _)) (by simpa using rd_one w _ rfl) hl1).mono ?_
    intro e w1 h1
    rw [wv_wds, wv_wds] at h1
    obtain ⟨A1, c1, rfl, hok1⟩ := wpost_ok h1
    clear h1
    have HO1 := Lib.hid hok1
    have hlen1 : (wds (X - 1)).length ≤ n := by have := HN.out; rw [← this]; exact wds_mono (Nat.sub_le _ _)
    clear hok1
    go_wp2_with fail
    refine (right_any A1 _ c1 (wds (X - 1)) rfl (wds_lt _) _ HO1.out.1 (by omega) z k s HZ.out.1 HZ.out.2 hk).mono ?_
    intro e w2 h2
    rw [wv_wds] at h2
    obtain ⟨A2, c2, rfl, hok2⟩ := wpost_ok h2
    clear h2
    have HO2 := Lib.hid hok2
    have hlen2 : (wds ((X - 1) / 2 ^ (32 * k + s))).length ≤ n := Nat.le_trans (wds_mono (Nat.div_le_self _ _)) hlen1
    clear hok2
    generalize (X - 1) / 2 ^ (32 * k + s) = Y at *
    go_wp2_with fail
    refine (add_any A2 _ _ 1 c2 1 (wds Y) (wds 1) rfl (by rw [wds_one (by omega) (by omega)]; rfl) (wds_lt _) (wds_lt _) _ (HO2.out.1.into (Nat.le_refl _) (al _)) (by simpa using rd_one w2 _ rfl) (by omega) (by omega)).mono ?_
    intro e w3 h3
    rw [wv_wds, wv_wds] at h3
    obtain ⟨A3, c3, rfl, hok3⟩ := wpost_ok h3
    clear h3
    have hB : Below w.heap.size w w3 := sq (sq (sq (sq (al _) HO1.out.below) HO2.out.below) (al _)) hok3.below
    have hok : WOk (Y + 1) w A3 c3 w3 := ⟨hok3.1, hok3.2.1, fun b off e => by
      have h7 := hok3.2.2.1 b off e
      have h8 := (sq (sq (al _) HO1.out.below) HO2.out.below : Below w.heap.size w w2).size
      simp at h7
      omega, hB⟩
    have HO := Lib.hid hok
    clear hok3 hok hB
    go_wp2_with fail
    refine (give_wr g true A3 (Y + 1) c3 _ w w3 HV.out (HW.out.below HO.out.below) HLg.out HO.out).mono ?_
    rintro e w4 ⟨rfl, hB4, hg4, _⟩
    have H4 := Lib.hid (And.intro hB4 hg4)
    clear hB4 hg4
    go_wp2_with fail
    go_ret
    exact ⟨rfl, H4.out.1, H4.out.2⟩
  · rw [decide_eq_false hneg] at x0
    have HV := Lib.hid (show sgz false (x.natAbs / 2 ^ (32 * k + s)) = x / 2 ^ (32 * k + s) by
      unfold sgz
      rw [if_neg (by simp), Int.natCast_ediv, Int.natCast_pow]
      congr 1
      omega)
    clear hneg
    generalize x.natAbs = X at *
    go_enter Try.func48, Try.ntmps48
    go_wp2_with fail
    refine (right_any Ax _ cx (wds X) rfl (wds_lt _) _ HX.out (by omega) z k s HZ.out.1 HZ.out.2 hk).mono ?_
    intro e w2 h2
    rw [wv_wds] at h2
    obtain ⟨A2, c2, rfl, hok2⟩ := wpost_ok h2
    clear h2
    have HO := Lib.hid hok2
    clear hok2
    go_wp2_with fail
    refine (give_wr g false A2 _ c2 _ w w2 HV.out (HW.out.below HO.out.below) HLg.out HO.out).mono ?_
    rintro e w4 ⟨rfl, hB4, hg4, _⟩
    have H4 := Lib.hid (And.intro hB4 hg4)
    clear hB4 hg4
    go_wp2_with fail
    go_ret
    exact ⟨rfl, H4.out.1, H4.out.2⟩
end Go.Proofs.Ytdpgcojgnehnpaa
