/- The document's Do: what it answers, operation by operation. Conditions: the numbers are of 64 bits. -/
import Derived.Test.YtdpgcojgnehnpaaRefDoA
import Derived.Test.YtdpgcojgnehnpaaWordDo
set_option maxRecDepth 20000
namespace Go.Proofs.Ytdpgcojgnehnpaa
open Go.ChangeShapes Go.WideShapes Go.ChangeAt Go.RowKit
def i64 (a : Int) : Prop := -9223372036854775808 ≤ a ∧ a ≤ 9223372036854775807
theorem len2 {a : Int} (h : i64 a) : (wds a.natAbs).length ≤ 2 := wds_len (k := 2) (by unfold i64 at h; omega)
theorem nat_lt {a : Int} {n : Nat} (h : a.natAbs < 4294967296 ^ n) : (wds a.natAbs).length ≤ n := wds_len h
set_option maxHeartbeats 1000000 in
theorem refDo_add (a b : Int) (ha : i64 a) (hb : i64 b) (w : World) : Calls Try.prog 12 #[.int .i64 1, .int .i64 a, .int .i64 b] w fun e w' => e = tup (wrap64 (a + b)) 0 ∧ Below w.heap.size w w' := by
  have hla := len2 ha
  have hlb := len2 hb
  have hlz : (wds (a + b).natAbs).length ≤ 4 := by
    refine wds_len ?_
    unfold i64 at *; omega
  go_enter Try.func12, Try.ntmps12
  go_wp2_with fail
  refine (whole_any a ha _).mono ?_
  rintro e w1 ⟨g1, rfl, hg1, h1, hb1⟩
  have hs1 := hb1.size
  simp at hg1 hs1
  have H1 := Lib.hid h1
  have hW1 := Lib.hid ((alloc_wr w w.heap.size 99 rfl).below hb1)
  have HB1 := Lib.hid (sq (al _) hb1)
  clear h1 hb1
  go_wp2_with fail
  refine (whole_any b hb _).mono ?_
  rintro e w2 ⟨g2, rfl, hg2, h2, hb2⟩
  have H1' := Lib.hid (H1.out.into (Nat.le_refl _) hb2)
  have H2 := Lib.hid h2
  have hW2 := Lib.hid (hW1.out.below hb2)
  have HB2 := Lib.hid (sq HB1.out hb2)
  clear h2 hb2
  go_wp2_with fail
  refine (intAdd_any w.heap.size g1 g2 a b  w2 hW2.out H1'.out H2.out (by omega) (by omega)).mono ?_
  rintro e w3 ⟨rfl, h3, hg3⟩
  have H3 := Lib.hid h3
  have HB3 := Lib.hid (below_gb HB2.out HB2.out.size (Nat.le_refl _) hg3)
  clear h3 hg3
  go_wp2_with fail
  refine (wrapped_any w.heap.size (a + b) w3 H3.out (by omega)).mono ?_
  rintro e w4 ⟨rfl, hb4⟩
  go_wp2_with fail
  go_ret2
  exact ⟨rfl, sq HB3.out hb4⟩
set_option maxHeartbeats 1000000 in
theorem refDo_sub (a b : Int) (ha : i64 a) (hb : i64 b) (w : World) : Calls Try.prog 12 #[.int .i64 2, .int .i64 a, .int .i64 b] w fun e w' => e = tup (wrap64 (a - b)) 0 ∧ Below w.heap.size w w' := by
  have hla := len2 ha
  have hlb := len2 hb
  have hlz : (wds (a - b).natAbs).length ≤ 4 := by
    refine wds_len ?_
    unfold i64 at *; omega
  go_enter Try.func12, Try.ntmps12
  go_wp2_with fail
  refine (whole_any a ha _).mono ?_
  rintro e w1 ⟨g1, rfl, hg1, h1, hb1⟩
  have hs1 := hb1.size
  simp at hg1 hs1
  have H1 := Lib.hid h1
  have hW1 := Lib.hid ((alloc_wr w w.heap.size 99 rfl).below hb1)
  have HB1 := Lib.hid (sq (al _) hb1)
  clear h1 hb1
  go_wp2_with fail
  refine (whole_any b hb _).mono ?_
  rintro e w2 ⟨g2, rfl, hg2, h2, hb2⟩
  have H1' := Lib.hid (H1.out.into (Nat.le_refl _) hb2)
  have H2 := Lib.hid h2
  have hW2 := Lib.hid (hW1.out.below hb2)
  have HB2 := Lib.hid (sq HB1.out hb2)
  clear h2 hb2
  go_wp2_with fail
  refine (intSub_any w.heap.size g1 g2 a b  w2 hW2.out H1'.out H2.out (by omega) (by omega)).mono ?_
  rintro e w3 ⟨rfl, h3, hg3⟩
  have H3 := Lib.hid h3
  have HB3 := Lib.hid (below_gb HB2.out HB2.out.size (Nat.le_refl _) hg3)
  clear h3 hg3
  go_wp2_with fail
  refine (wrapped_any w.heap.size (a - b) w3 H3.out (by omega)).mono ?_
  rintro e w4 ⟨rfl, hb4⟩
  go_wp2_with fail
  go_ret2
  exact ⟨rfl, sq HB3.out hb4⟩
set_option maxHeartbeats 1000000 in
theorem refDo_mul (a b : Int) (ha : i64 a) (hb : i64 b) (w : World) : Calls Try.prog 12 #[.int .i64 3, .int .i64 a, .int .i64 b] w fun e w' => e = tup (wrap64 (a * b)) 0 ∧ Below w.heap.size w w' := by
  have hla := len2 ha
  have hlb := len2 hb
  have hlz : (wds (a * b).natAbs).length ≤ 4 := by
    refine wds_len ?_
    rw [Int.natAbs_mul]
    have h1 : a.natAbs * b.natAbs ≤ 9223372036854775808 * 9223372036854775808 := Nat.mul_le_mul (by unfold i64 at ha; omega) (by unfold i64 at hb; omega)
    omega
  go_enter Try.func12, Try.ntmps12
  go_wp2_with fail
  refine (whole_any a ha _).mono ?_
  rintro e w1 ⟨g1, rfl, hg1, h1, hb1⟩
  have hs1 := hb1.size
  simp at hg1 hs1
  have H1 := Lib.hid h1
  have hW1 := Lib.hid ((alloc_wr w w.heap.size 99 rfl).below hb1)
  have HB1 := Lib.hid (sq (al _) hb1)
  clear h1 hb1
  go_wp2_with fail
  refine (whole_any b hb _).mono ?_
  rintro e w2 ⟨g2, rfl, hg2, h2, hb2⟩
  have H1' := Lib.hid (H1.out.into (Nat.le_refl _) hb2)
  have H2 := Lib.hid h2
  have hW2 := Lib.hid (hW1.out.below hb2)
  have HB2 := Lib.hid (sq HB1.out hb2)
  clear h2 hb2
  go_wp2_with fail
  refine (intMul_any w.heap.size g1 g2 a b (by omega) (by omega) w2 hW2.out H1'.out H2.out (by omega) (by omega)).mono ?_
  rintro e w3 ⟨rfl, h3, hg3⟩
  have H3 := Lib.hid h3
  have HB3 := Lib.hid (below_gb HB2.out HB2.out.size (Nat.le_refl _) hg3)
  clear h3 hg3
  go_wp2_with fail
  refine (wrapped_any w.heap.size (a * b) w3 H3.out (by omega)).mono ?_
  rintro e w4 ⟨rfl, hb4⟩
  go_wp2_with fail
  go_ret2
  exact ⟨rfl, sq HB3.out hb4⟩
-- part 2
set_option maxHeartbeats 1000000 in
theorem refDo_div (a b : Int) (ha : i64 a) (hb : i64 b) (hb0 : ¬ b = 0) (w : World) : Calls Try.prog 12 #[.int .i64 4, .int .i64 a, .int .i64 b] w fun e w' => e = tup (wrap64 (a.tdiv b)) 0 ∧ Below w.heap.size w w' := by
  have hla := len2 ha
  have hlz : (wds (a.tdiv b).natAbs).length ≤ 4 := by
    rw [Int.natAbs_tdiv]
    exact Nat.le_trans (wds_mono (Nat.div_le_self _ _)) (by omega)
  have hbb : (b == 0) = false := by simp [hb0]
  have HC := Lib.hid (show (a.natAbs < 18446744073709551616 ∧ b.natAbs < 18446744073709551616 ∧ b.natAbs ≠ 0) ∨ b.natAbs = M64 from .inl (by unfold i64 at *; omega))
  clear hb0
  go_enter Try.func12, Try.ntmps12
  go_wp2_with fail
  refine (whole_any a ha _).mono ?_
  rintro e w1 ⟨g1, rfl, hg1, h1, hb1⟩
  have hs1 := hb1.size
  simp at hg1 hs1
  have H1 := Lib.hid h1
  have hW1 := Lib.hid ((alloc_wr (w.alloc (.cells #[.bool false, .slice none 0 0] 99)) (w.heap.size + 1) 99 (by simp)).below hb1)
  have HB1 := Lib.hid (sq (al2 (al _) _) hb1)
  clear h1 hb1
  go_wp2_with fail
  refine (whole_any b hb _).mono ?_
  rintro e w2 ⟨g2, rfl, hg2, h2, hb2⟩
  have hs2 := hb2.size
  have hb3 : Below w1.heap.size w1 (w2.alloc (.cells #[.bool false, .slice none 0 0] 99)) := sq hb2 (al _)
  have HQ1 := Lib.hid (H1.out.into (Nat.le_refl _) hb3)
  have HQ2 := Lib.hid (h2.into (Nat.le_refl _) (al (.cells #[.bool false, .slice none 0 0] 99)))
  have HW2 := Lib.hid (hW1.out.below hb3)
  have HB2 := Lib.hid (sq HB1.out hb3)
  clear h2 hb2 hb3
  go_wp2_with fail
  refine (quoRem_any (w.heap.size + 1) g1 g2 w2.heap.size a b (by omega) _ HW2.out (alloc_wr w2 _ _ rfl) HQ1.out HQ2.out (by omega) HC.out).mono ?_
  rintro e w4 ⟨rfl, h4, h5, h6⟩
  have H4 := Lib.hid h4.1
  have HB4 := Lib.hid (HB2.out.trans (h6.below (by simp; omega) (by omega) (by omega)))
  clear h4 h5 h6
  go_wp2_with fail
  refine (wrapped_any (w.heap.size + 1) (a.tdiv b) w4 H4.out (by omega)).mono ?_
  rintro e w5 ⟨rfl, hb5⟩
  go_wp2_with fail
  go_ret2
  exact ⟨rfl, sq HB4.out hb5⟩
set_option maxHeartbeats 1000000 in
theorem refDo_rem (a b : Int) (ha : i64 a) (hb : i64 b) (hb0 : ¬ b = 0) (w : World) : Calls Try.prog 12 #[.int .i64 5, .int .i64 a, .int .i64 b] w fun e w' => e = tup (wrap64 (a.tmod b)) 0 ∧ Below w.heap.size w w' := by
  have hla := len2 ha
  have hlz : (wds (a.tmod b).natAbs).length ≤ 4 := by
    rw [Int.natAbs_tmod]
    exact Nat.le_trans (wds_mono (Nat.mod_le _ _)) (by omega)
  have hbb : (b == 0) = false := by simp [hb0]
  have HC := Lib.hid (show (a.natAbs < 18446744073709551616 ∧ b.natAbs < 18446744073709551616 ∧ b.natAbs ≠ 0) ∨ b.natAbs = M64 from .inl (by unfold i64 at *; omega))
  clear hb0
  go_enter Try.func12, Try.ntmps12
  go_wp2_with fail
  refine (whole_any a ha _).mono ?_
  rintro e w1 ⟨g1, rfl, hg1, h1, hb1⟩
  have hs1 := hb1.size
  simp at hg1 hs1
  have H1 := Lib.hid h1
  have hW1 := Lib.hid ((alloc_wr (w.alloc (.cells #[.bool false, .slice none 0 0] 99)) (w.heap.size + 1) 99 (by simp)).below hb1)
  have HB1 := Lib.hid (sq (al2 (al _) _) hb1)
  clear h1 hb1
  go_wp2_with fail
  refine (whole_any b hb _).mono ?_
  rintro e w2 ⟨g2, rfl, hg2, h2, hb2⟩
  have hs2 := hb2.size
  have hb3 : Below w1.heap.size w1 (w2.alloc (.cells #[.bool false, .slice none 0 0] 99)) := sq hb2 (al _)
  have HQ1 := Lib.hid (H1.out.into (Nat.le_refl _) hb3)
  have HQ2 := Lib.hid (h2.into (Nat.le_refl _) (al (.cells #[.bool false, .slice none 0 0] 99)))
  have HW2 := Lib.hid (hW1.out.below hb3)
  have HB2 := Lib.hid (sq HB1.out hb3)
  clear h2 hb2 hb3
  go_wp2_with fail
  refine (quoRem_any (w.heap.size + 1) g1 g2 w2.heap.size a b (by omega) _ HW2.out (alloc_wr w2 _ _ rfl) HQ1.out HQ2.out (by omega) HC.out).mono ?_
  rintro e w4 ⟨rfl, h4, h5, h6⟩
  have H4 := Lib.hid h5.1
  have HB4 := Lib.hid (HB2.out.trans (h6.below (by simp; omega) (by omega) (by omega)))
  clear h4 h5 h6
  go_wp2_with fail
  refine (wrapped_any w2.heap.size (a.tmod b) w4 H4.out (by omega)).mono ?_
  rintro e w5 ⟨rfl, hb5⟩
  go_wp2_with fail
  go_ret2
  exact ⟨rfl, sq HB4.out hb5⟩
-- part 3
set_option maxHeartbeats 1000000 in
theorem refDo_shlA (a b : Int) (ha : i64 a) (hb0 : 0 ≤ b) (h70 : b ≤ 70) (m : Nat) (hm : b = (m : Int)) (w : World) : Calls Try.prog 12 #[.int .i64 6, .int .i64 a, .int .i64 b] w fun e w' => e = tup (wrap64 (a * 2 ^ m)) 0 ∧ Below w.heap.size w w' := by
  have hla := len2 ha
  have hb1' : ¬ b < 0 := by omega
  have hm2 : m ≤ 70 := by have := hb0; omega
  have hm3 : 32 * (m / 32) + m % 32 = m := by omega
  have hz1 : (b : Int) / 32 = ((m / 32 : Nat) : Int) := by omega
  have hz2 : (b : Int) % 32 = ((m % 32 : Nat) : Int) := by omega
  have hlz : (wds (a * 2 ^ m).natAbs).length ≤ 5 := by
    refine wds_len ?_
    rw [Int.natAbs_mul, Int.natAbs_pow, show (2 : Int).natAbs = 2 from rfl]
    have h1 : a.natAbs * 2 ^ m ≤ 9223372036854775808 * 2 ^ 70 := Nat.mul_le_mul (by unfold i64 at ha; omega) (Nat.pow_le_pow_right (by omega) hm2)
    exact Nat.lt_of_le_of_lt h1 (by decide)
  have HM := Lib.hid (And.intro hm (And.intro hm3 (And.intro hz1 hz2)))
  clear hm hm3 hz1 hz2
  go_enter Try.func12, Try.ntmps12
  go_wp2_with fail
  refine (whole_any a ha _).mono ?_
  rintro e w1 ⟨g1, rfl, hg1, h1, hb1⟩
  have hs1 := hb1.size
  simp at hg1 hs1
  have H1 := Lib.hid h1
  have hW1 := Lib.hid ((alloc_wr w w.heap.size 99 rfl).below hb1)
  have HB1 := Lib.hid (sq (al _) hb1)
  clear h1 hb1
  go_wp2_with fail
  refine (lsh_any w.heap.size g1 a (by omega) w1 hW1.out H1.out (by omega) b (m / 32) (m % 32) HM.out.2.2.1 HM.out.2.2.2 (by omega)).mono ?_
  rintro e w3 ⟨rfl, h3, hg3⟩
  rw [HM.out.2.1] at h3
  have H3 := Lib.hid h3
  have HB3 := Lib.hid (below_gb HB1.out HB1.out.size (Nat.le_refl _) hg3)
  clear h3 hg3
  go_wp2_with fail
  refine (wrapped_any w.heap.size (a * 2 ^ m) w3 H3.out (by omega)).mono ?_
  rintro e w4 ⟨rfl, hb4⟩
  go_wp2_with fail
  go_ret2
  exact ⟨rfl, sq HB3.out hb4⟩
set_option maxHeartbeats 1000000 in
theorem refDo_shlB (a b : Int) (ha : i64 a) (hb0 : 0 ≤ b) (h70 : 70 < b) (m : Nat) (hm : 70 = (m : Int)) (w : World) : Calls Try.prog 12 #[.int .i64 6, .int .i64 a, .int .i64 b] w fun e w' => e = tup (wrap64 (a * 2 ^ m)) 0 ∧ Below w.heap.size w w' := by
  have hla := len2 ha
  have hb1' : ¬ b < 0 := by omega
  have hm2 : m ≤ 70 := by have := hb0; omega
  have hm3 : 32 * (m / 32) + m % 32 = m := by omega
  have hz1 : (70 : Int) / 32 = ((m / 32 : Nat) : Int) := by omega
  have hz2 : (70 : Int) % 32 = ((m % 32 : Nat) : Int) := by omega
  have hlz : (wds (a * 2 ^ m).natAbs).length ≤ 5 := by
    refine wds_len ?_
    rw [Int.natAbs_mul, Int.natAbs_pow, show (2 : Int).natAbs = 2 from rfl]
    have h1 : a.natAbs * 2 ^ m ≤ 9223372036854775808 * 2 ^ 70 := Nat.mul_le_mul (by unfold i64 at ha; omega) (Nat.pow_le_pow_right (by omega) hm2)
    exact Nat.lt_of_le_of_lt h1 (by decide)
  have HM := Lib.hid (And.intro hm (And.intro hm3 (And.intro hz1 hz2)))
  clear hm hm3 hz1 hz2
  go_enter Try.func12, Try.ntmps12
  go_wp2_with fail
  refine (whole_any a ha _).mono ?_
  rintro e w1 ⟨g1, rfl, hg1, h1, hb1⟩
  have hs1 := hb1.size
  simp at hg1 hs1
  have H1 := Lib.hid h1
  have hW1 := Lib.hid ((alloc_wr w w.heap.size 99 rfl).below hb1)
  have HB1 := Lib.hid (sq (al _) hb1)
  clear h1 hb1
  go_wp2_with fail
  refine (lsh_any w.heap.size g1 a (by omega) w1 hW1.out H1.out (by omega) 70 (m / 32) (m % 32) HM.out.2.2.1 HM.out.2.2.2 (by omega)).mono ?_
  rintro e w3 ⟨rfl, h3, hg3⟩
  rw [HM.out.2.1] at h3
  have H3 := Lib.hid h3
  have HB3 := Lib.hid (below_gb HB1.out HB1.out.size (Nat.le_refl _) hg3)
  clear h3 hg3
  go_wp2_with fail
  refine (wrapped_any w.heap.size (a * 2 ^ m) w3 H3.out (by omega)).mono ?_
  rintro e w4 ⟨rfl, hb4⟩
  go_wp2_with fail
  go_ret2
  exact ⟨rfl, sq HB3.out hb4⟩
theorem refDo_shl (a b : Int) (ha : i64 a) (hb0 : 0 ≤ b) (w : World) : Calls Try.prog 12 #[.int .i64 6, .int .i64 a, .int .i64 b] w fun e w' => e = tup (wrap64 (a * 2 ^ (min b 70).toNat)) 0 ∧ Below w.heap.size w w' := by
  rcases Int.lt_or_le 70 b with h | h
  · exact refDo_shlB a b ha hb0 h _ (by omega) w
  · exact refDo_shlA a b ha hb0 h _ (by omega) w
set_option maxHeartbeats 1000000 in
theorem refDo_shrA (a b : Int) (ha : i64 a) (hb0 : 0 ≤ b) (h70 : b ≤ 70) (m : Nat) (hm : b = (m : Int)) (w : World) : Calls Try.prog 12 #[.int .i64 7, .int .i64 a, .int .i64 b] w fun e w' => e = tup (wrap64 (a / 2 ^ m)) 0 ∧ Below w.heap.size w w' := by
  have hla := len2 ha
  have hb1' : ¬ b < 0 := by omega
  have hm2 : m ≤ 70 := by have := hb0; omega
  have hm3 : 32 * (m / 32) + m % 32 = m := by omega
  have hz1 : (b : Int) / 32 = ((m / 32 : Nat) : Int) := by omega
  have hz2 : (b : Int) % 32 = ((m % 32 : Nat) : Int) := by omega
  have hlz : (wds (a / 2 ^ m).natAbs).length ≤ 5 := by
    refine Nat.le_trans (wds_mono (b := 9223372036854775808) ?_) (wds_len (k := 5) (by decide))
    have hp : (0 : Int) < 2 ^ m := Int.pow_pos (by decide)
    unfold i64 at ha
    have h5 : -9223372036854775808 ≤ a / 2 ^ m := by
      rw [Int.le_ediv_iff_mul_le hp]
      have : (1 : Int) ≤ 2 ^ m := hp
      generalize (2 : Int) ^ m = p at *
      omega
    have h6 : a / 2 ^ m ≤ 9223372036854775807 := by
      rw [← Int.lt_add_one_iff, Int.ediv_lt_iff_lt_mul hp]
      have : (1 : Int) ≤ 2 ^ m := hp
      generalize (2 : Int) ^ m = p at *
      omega
    omega
  have HM := Lib.hid (And.intro hm (And.intro hm3 (And.intro hz1 hz2)))
  clear hm hm3 hz1 hz2
  go_enter Try.func12, Try.ntmps12
  go_wp2_with fail
  refine (whole_any a ha _).mono ?_
  rintro e w1 ⟨g1, rfl, hg1, h1, hb1⟩
  have hs1 := hb1.size
  simp at hg1 hs1
  have H1 := Lib.hid h1
  have hW1 := Lib.hid ((alloc_wr w w.heap.size 99 rfl).below hb1)
  have HB1 := Lib.hid (sq (al _) hb1)
  clear h1 hb1
  go_wp2_with fail
  refine (rsh_any w.heap.size g1 a  w1 hW1.out H1.out (by omega) b (m / 32) (m % 32) HM.out.2.2.1 HM.out.2.2.2 (by omega)).mono ?_
  rintro e w3 ⟨rfl, h3, hg3⟩
  rw [HM.out.2.1] at h3
  have H3 := Lib.hid h3
  have HB3 := Lib.hid (below_gb HB1.out HB1.out.size (Nat.le_refl _) hg3)
  clear h3 hg3
  go_wp2_with fail
  refine (wrapped_any w.heap.size (a / 2 ^ m) w3 H3.out (by omega)).mono ?_
  rintro e w4 ⟨rfl, hb4⟩
  go_wp2_with fail
  go_ret2
  exact ⟨rfl, sq HB3.out hb4⟩
set_option maxHeartbeats 1000000 in
theorem refDo_shrB (a b : Int) (ha : i64 a) (hb0 : 0 ≤ b) (h70 : 70 < b) (m : Nat) (hm : 70 = (m : Int)) (w : World) : Calls Try.prog 12 #[.int .i64 7, .int .i64 a, .int .i64 b] w fun e w' => e = tup (wrap64 (a / 2 ^ m)) 0 ∧ Below w.heap.size w w' := by
  have hla := len2 ha
  have hb1' : ¬ b < 0 := by omega
  have hm2 : m ≤ 70 := by have := hb0; omega
  have hm3 : 32 * (m / 32) + m % 32 = m := by omega
  have hz1 : (70 : Int) / 32 = ((m / 32 : Nat) : Int) := by omega
  have hz2 : (70 : Int) % 32 = ((m % 32 : Nat) : Int) := by omega
  have hlz : (wds (a / 2 ^ m).natAbs).length ≤ 5 := by
    refine Nat.le_trans (wds_mono (b := 9223372036854775808) ?_) (wds_len (k := 5) (by decide))
    have hp : (0 : Int) < 2 ^ m := Int.pow_pos (by decide)
    unfold i64 at ha
    have h5 : -9223372036854775808 ≤ a / 2 ^ m := by
      rw [Int.le_ediv_iff_mul_le hp]
      have : (1 : Int) ≤ 2 ^ m := hp
      generalize (2 : Int) ^ m = p at *
      omega
    have h6 : a / 2 ^ m ≤ 9223372036854775807 := by
      rw [← Int.lt_add_one_iff, Int.ediv_lt_iff_lt_mul hp]
      have : (1 : Int) ≤ 2 ^ m := hp
      generalize (2 : Int) ^ m = p at *
      omega
    omega
  have HM := Lib.hid (And.intro hm (And.intro hm3 (And.intro hz1 hz2)))
  clear hm hm3 hz1 hz2
  go_enter Try.func12, Try.ntmps12
  go_wp2_with fail
  refine (whole_any a ha _).mono ?_
  rintro e w1 ⟨g1, rfl, hg1, h1, hb1⟩
  have hs1 := hb1.size
  simp at hg1 hs1
  have H1 := Lib.hid h1
  have hW1 := Lib.hid ((alloc_wr w w.heap.size 99 rfl).below hb1)
  have HB1 := Lib.hid (sq (al _) hb1)
  clear h1 hb1
  go_wp2_with fail
  refine (rsh_any w.heap.size g1 a  w1 hW1.out H1.out (by omega) 70 (m / 32) (m % 32) HM.out.2.2.1 HM.out.2.2.2 (by omega)).mono ?_
  rintro e w3 ⟨rfl, h3, hg3⟩
  rw [HM.out.2.1] at h3
  have H3 := Lib.hid h3
  have HB3 := Lib.hid (below_gb HB1.out HB1.out.size (Nat.le_refl _) hg3)
  clear h3 hg3
  go_wp2_with fail
  refine (wrapped_any w.heap.size (a / 2 ^ m) w3 H3.out (by omega)).mono ?_
  rintro e w4 ⟨rfl, hb4⟩
  go_wp2_with fail
  go_ret2
  exact ⟨rfl, sq HB3.out hb4⟩
theorem refDo_shr (a b : Int) (ha : i64 a) (hb0 : 0 ≤ b) (w : World) : Calls Try.prog 12 #[.int .i64 7, .int .i64 a, .int .i64 b] w fun e w' => e = tup (wrap64 (a / 2 ^ (min b 70).toNat)) 0 ∧ Below w.heap.size w w' := by
  rcases Int.lt_or_le 70 b with h | h
  · exact refDo_shrB a b ha hb0 h _ (by omega) w
  · exact refDo_shrA a b ha hb0 h _ (by omega) w
theorem refDo_and (a b : Int) (w : World) : Calls Try.prog 12 #[.int .i64 8, .int .i64 a, .int .i64 b] w fun e w' => e = tup (wrap64 (bwU 8 a b)) 0 ∧ Below w.heap.size w w' := by
  go_enter Try.func12, Try.ntmps12
  go_wp2_with fail
  refine (bitwise_any 8 a b _).mono ?_
  rintro e w1 ⟨rfl, rfl⟩
  go_wp2_with fail
  go_ret2
  exact ⟨rfl, al _⟩
theorem refDo_or (a b : Int) (w : World) : Calls Try.prog 12 #[.int .i64 9, .int .i64 a, .int .i64 b] w fun e w' => e = tup (wrap64 (bwU 9 a b)) 0 ∧ Below w.heap.size w w' := by
  go_enter Try.func12, Try.ntmps12
  go_wp2_with fail
  refine (bitwise_any 9 a b _).mono ?_
  rintro e w1 ⟨rfl, rfl⟩
  go_wp2_with fail
  go_ret2
  exact ⟨rfl, al _⟩
theorem refDo_xor (a b : Int) (w : World) : Calls Try.prog 12 #[.int .i64 10, .int .i64 a, .int .i64 b] w fun e w' => e = tup (wrap64 (bwU 10 a b)) 0 ∧ Below w.heap.size w w' := by
  go_enter Try.func12, Try.ntmps12
  go_wp2_with fail
  refine (bitwise_any 10 a b _).mono ?_
  rintro e w1 ⟨rfl, rfl⟩
  go_wp2_with fail
  go_ret2
  exact ⟨rfl, al _⟩
theorem refDo_div0 (op a : Int) (ho : op = 4 ∨ op = 5) (w : World) : Calls Try.prog 12 #[.int .i64 op, .int .i64 a, .int .i64 0] w fun e w' => e = tup 0 20 ∧ Below w.heap.size w w' := by
  rcases ho with rfl | rfl
  all_goals
    go_enter Try.func12, Try.ntmps12
    go_wp2
    go_ret2
    exact ⟨rfl, al _⟩
theorem refDo_neg (op a b : Int) (ho : op = 6 ∨ op = 7) (hb : b < 0) (w : World) : Calls Try.prog 12 #[.int .i64 op, .int .i64 a, .int .i64 b] w fun e w' => e = tup 0 21 ∧ Below w.heap.size w w' := by
  rcases ho with rfl | rfl
  all_goals
    go_enter Try.func12, Try.ntmps12
    go_wp2
    go_ret2
    exact ⟨rfl, al _⟩
theorem refDo_kind (op a b : Int) (h : op < 1 ∨ 10 < op) (w : World) : Calls Try.prog 12 #[.int .i64 op, .int .i64 a, .int .i64 b] w fun e w' => e = tup 0 13 ∧ Below w.heap.size w w' := by
  have e1 : (op == 1) = false := by simp; omega
  have e2 : (op == 2) = false := by simp; omega
  have e3 : (op == 3) = false := by simp; omega
  have e4 : (op == 4) = false := by simp; omega
  have e5 : (op == 5) = false := by simp; omega
  have e6 : (op == 6) = false := by simp; omega
  have e7 : (op == 7) = false := by simp; omega
  have e8 : (op == 8) = false := by simp; omega
  have e9 : (op == 9) = false := by simp; omega
  have e10 : (op == 10) = false := by simp; omega
  clear h
  go_enter Try.func12, Try.ntmps12
  go_wp2
  go_ret2
  exact ⟨rfl, al _⟩
end Go.Proofs.Ytdpgcojgnehnpaa
