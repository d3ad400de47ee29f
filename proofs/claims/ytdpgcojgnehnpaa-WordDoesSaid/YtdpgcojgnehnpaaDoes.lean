/- The law WordDoes is true. Conditions: none. -/
import Derived.Test.YtdpgcojgnehnpaaRefDo
set_option maxRecDepth 20000
namespace Go.Proofs.Ytdpgcojgnehnpaa
open Go.ChangeShapes Go.WideShapes Go.ChangeAt Go.RowKit
def Both (op a b : Int) : Prop := ∃ x e : Int, (∀ w, Calls Try.prog 11 #[.int .i64 op, .int .i64 a, .int .i64 b] w fun q w' => q = tup x e ∧ w' = w) ∧ ∀ w, Calls Try.prog 12 #[.int .i64 op, .int .i64 a, .int .i64 b] w fun q w' => q = tup x e ∧ Below w.heap.size w w'
theorem Both.of {op a b x y e : Int} (hxy : x = y) (h : ∀ w, Calls Try.prog 11 #[.int .i64 op, .int .i64 a, .int .i64 b] w fun q w' => q = tup x e ∧ w' = w) (h' : ∀ w, Calls Try.prog 12 #[.int .i64 op, .int .i64 a, .int .i64 b] w fun q w' => q = tup y e ∧ Below w.heap.size w w') : Both op a b := by
  subst hxy
  exact ⟨x, e, h, h'⟩
theorem wrap_in {z : Int} (h : i64 z) : wrap64 z = z := by unfold i64 at h; unfold RowKit.wrap64; omega
theorem shl_same {a b : Int} (hb : 0 ≤ b) : shlV a b = wrap64 (a * 2 ^ (min b 70).toNat) := by
  unfold shlV
  split
  · rename_i h
    obtain ⟨m, hm⟩ : ∃ m, (min b 70).toNat = 64 + m := ⟨(min b 70).toNat - 64, by omega⟩
    rw [hm, Int.pow_add, show (2 : Int) ^ 64 = 18446744073709551616 by decide, ← Int.mul_assoc, Int.mul_comm a, Int.mul_assoc]
    unfold RowKit.wrap64
    omega
  · rw [show min b 70 = b by omega]
theorem shr_same {a b : Int} (ha : i64 a) (hb : 0 ≤ b) : shrV a b = wrap64 (a / 2 ^ (min b 70).toNat) := by
  unfold shrV
  split
  · rename_i h
    obtain ⟨m, hm⟩ : ∃ m, (min b 70).toNat = 64 + m := ⟨(min b 70).toNat - 64, by omega⟩
    have hp : (1 : Int) ≤ 2 ^ m := Int.pow_pos (by decide)
    rw [hm, Int.pow_add, show (2 : Int) ^ 64 = 18446744073709551616 by decide]
    generalize (2 : Int) ^ m = p at *
    have hp2 : (0 : Int) < 18446744073709551616 * p := by omega
    unfold i64 at ha
    by_cases h0 : a < 0
    · rw [if_pos h0]
      have : a / (18446744073709551616 * p) = -1 := by
        have e : a = (a + 18446744073709551616 * p) + (18446744073709551616 * p) * (-1) := by omega
        rw [e, Int.add_mul_ediv_left _ _ (by omega), Int.ediv_eq_zero_of_lt (by omega) (by omega)]
        rfl
      rw [this]; simp [RowKit.wrap64]
    · rw [if_neg h0, Int.ediv_eq_zero_of_lt (by omega) (by omega)]; simp [RowKit.wrap64]
  · rename_i h
    rw [show min b 70 = b by omega]
    have hp : (0 : Int) < 2 ^ b.toNat := Int.pow_pos (by decide)
    rw [wrap_in]
    unfold i64 at *
    constructor
    · rw [Int.le_ediv_iff_mul_le hp]
      have : (1 : Int) ≤ 2 ^ b.toNat := hp
      generalize (2 : Int) ^ b.toNat = p at *
      omega
    · rw [← Int.lt_add_one_iff, Int.ediv_lt_iff_lt_mul hp]
      have : (1 : Int) ≤ 2 ^ b.toNat := hp
      generalize (2 : Int) ^ b.toNat = p at *
      omega
theorem wrap_i (z : Int) : IntKind.i64.wrap z = wrap64 z := by rw [IntKind.wrap_i64]; unfold RowKit.wrap64; omega
theorem do_both (op a b : Int) (ha : i64 a) (hb : i64 b) : Both op a b := by
  by_cases h : op < 1 ∨ 10 < op
  · exact .of rfl (wordDo_kind op a b h) (refDo_kind op a b h)
  have h10 : op = 1 ∨ op = 2 ∨ op = 3 ∨ op = 4 ∨ op = 5 ∨ op = 6 ∨ op = 7 ∨ op = 8 ∨ op = 9 ∨ op = 10 := by omega
  clear h
  rcases h10 with rfl | rfl | rfl | rfl | rfl | rfl | rfl | rfl | rfl | rfl
  · exact .of rfl (wordDo_add a b) (refDo_add a b ha hb)
  · exact .of rfl (wordDo_sub a b) (refDo_sub a b ha hb)
  · exact .of rfl (wordDo_mul a b) (refDo_mul a b ha hb)
  · by_cases h0 : b = 0
    · subst h0
      exact .of rfl (wordDo_div0 4 a (.inl rfl)) (refDo_div0 4 a (.inl rfl))
    · exact .of rfl (wordDo_div a b (by simp [h0]) h0) (refDo_div a b ha hb h0)
  · by_cases h0 : b = 0
    · subst h0
      exact .of rfl (wordDo_div0 5 a (.inr rfl)) (refDo_div0 5 a (.inr rfl))
    · refine .of ?_ (wordDo_rem a b (by simp [h0]) h0) (refDo_rem a b ha hb h0)
      have h1 := Int.natAbs_tmod a b
      have h2 : a.natAbs % b.natAbs ≤ a.natAbs := Nat.mod_le _ _
      have h3 : a.natAbs % b.natAbs < b.natAbs := Nat.mod_lt _ (by omega)
      refine (wrap_in ?_).symm
      unfold i64 at *
      omega
  · by_cases h0 : b < 0
    · exact .of rfl (wordDo_neg 6 a b (.inl rfl) h0) (refDo_neg 6 a b (.inl rfl) h0)
    · exact .of (shl_same (by omega)) (wordDo_shl a b (by omega)) (refDo_shl a b ha (by omega))
  · by_cases h0 : b < 0
    · exact .of rfl (wordDo_neg 7 a b (.inr rfl) h0) (refDo_neg 7 a b (.inr rfl) h0)
    · exact .of (shr_same ha (by omega)) (wordDo_shr a b (by omega)) (refDo_shr a b ha (by omega))
  · exact .of (wrap_i _) (wordDo_and a b) (refDo_and a b)
  · exact .of (wrap_i _) (wordDo_or a b) (refDo_or a b)
  · exact .of (wrap_i _) (wordDo_xor a b) (refDo_xor a b)
theorem walkWordDoes (v0 v1 v2 : Value) (w : World) (w0 : IsInt v0) (w1 : IsInt v1) (w2 : IsInt v2) : Calls Try.prog 3 #[v0, v1, v2] w fun e w' => e = .returned (.bool true) ∧ Below w.heap.size w w' := by
  obtain ⟨op, rfl, _⟩ := w0
  obtain ⟨a, rfl, ha⟩ := w1
  obtain ⟨b, rfl, hb⟩ := w2
  obtain ⟨x, e, h1, h2⟩ := do_both op a b ha hb
  go_enter Try.func3, Try.ntmps3
  go_wp2_with fail
  refine (h1 _).mono ?_
  rintro q w1 ⟨rfl, rfl⟩
  unfold tup
  go_wp2_with fail
  refine (h2 _).mono ?_
  rintro q w2 ⟨rfl, hb2⟩
  unfold tup
  go_wp2_with fail
  go_ret
  exact ⟨by simp, hb2⟩
end Go.Proofs.Ytdpgcojgnehnpaa
