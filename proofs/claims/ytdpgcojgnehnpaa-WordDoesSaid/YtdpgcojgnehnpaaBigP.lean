/- Plain: shifts of words, and division by 2^64, word by word. Conditions: none. -/
import Derived.Test.YtdpgcojgnehnpaaBigSub
namespace Go.Proofs.Ytdpgcojgnehnpaa
open Go.RowKit
theorem pow64 (w : Nat) : 4294967296 ^ w = 2 ^ (32 * w) := by
  rw [show (4294967296 : Nat) = 2 ^ 32 by decide, ← Nat.pow_mul]
theorem wv_zeros_app (w : Nat) (l : List Nat) : wv (List.replicate w 0 ++ l) = 2 ^ (32 * w) * wv l := by
  rw [wv_app, wv_rep, List.length_replicate, pow64]; omega
/-- What the loop of 'left' keeps: behind w noughts the words done, the carry, noughts. -/
def Lf (l : List Nat) (s k : Nat) (t : List Nat) (c : Nat) : Prop := t.length = k ∧ (∀ x ∈ t, x < 4294967296) ∧ c < 2 ^ s ∧ wv (t ++ [c]) = wv (l.take k) * 2 ^ s
theorem Lf.start (l : List Nat) (s : Nat) : Lf l s 0 [] 0 := ⟨rfl, by simp, Nat.two_pow_pos s, by simp [wv]⟩
theorem Lf.step {l t : List Nat} {s k c : Nat} (hs : s < 32) (hl : ∀ x ∈ l, x < 4294967296) (h : Lf l s k t c) : Lf l s (k + 1) (t ++ [c ||| (l.getD k 0 * 2 ^ s % 4294967296)]) (l.getD k 0 * 2 ^ s / 4294967296) := by
  obtain ⟨h1, h2, h3, h4⟩ := h
  obtain ⟨a, b, c', d⟩ := left_step hs h1 h3 (getD_lt hl k) h4
  refine ⟨by simp [h1], ?_, c', a⟩
  intro x hx
  rcases List.mem_append.1 hx with hx | hx
  · exact h2 x hx
  · simp at hx; subst hx; exact b
theorem Lf.done {l t : List Nat} {s w c n : Nat} (hs : s < 32) (hn : n = l.length) (h : Lf l s n t c) : wv (List.replicate w 0 ++ (t ++ [c])) = wv l * 2 ^ (32 * w + s) ∧ ∀ x ∈ List.replicate w 0 ++ (t ++ [c]), x < 4294967296 := by
  obtain ⟨h1, h2, h3, h4⟩ := h
  have hc : c < 4294967296 := Nat.lt_of_lt_of_le h3 (Nat.le_trans (Nat.pow_le_pow_right (by omega) (Nat.le_of_lt hs)) (by decide))
  refine ⟨?_, ?_⟩
  · rw [wv_zeros_app, h4, List.take_of_length_le (by omega), Nat.pow_add, Nat.mul_left_comm]
  · intro x hx
    rcases List.mem_append.1 hx with hx | hx
    · rw [(List.mem_replicate.1 hx).2]; omega
    · rcases List.mem_append.1 hx with hx | hx
      · exact h2 x hx
      · simp at hx; omega
theorem lf_get {w k c : Nat} {t : List Nat} (m : Nat) (h : t.length = k) : (List.replicate w 0 ++ (t ++ c :: List.replicate m 0)).getD (k + w) 0 = c := by
  rw [List.getD, List.getElem?_append_right (by simp), List.length_replicate, List.getElem?_append_right (by omega), show k + w - w - t.length = 0 by omega]
  rfl
theorem lf_get2 {w k c : Nat} {t : List Nat} (m : Nat) (h : t.length = k) : (List.replicate w 0 ++ (t ++ c :: List.replicate m 0)).getD (k + w + 1) 0 = 0 := by
  rw [List.getD, List.getElem?_append_right (by simp; omega), List.length_replicate, List.getElem?_append_right (by omega), show k + w + 1 - w - t.length = 0 + 1 by omega, List.getElem?_cons_succ, List.getElem?_replicate]
  split <;> rfl
theorem lf_set {w k c : Nat} {t : List Nat} (m x y : Nat) (h : t.length = k) : ((List.replicate w 0 ++ (t ++ c :: List.replicate (m + 1) 0)).set (k + w) x).set (k + w + 1) y = List.replicate w 0 ++ ((t ++ [x]) ++ y :: List.replicate m 0) := by
  have e1 : ∀ (X : List Nat) (j : Nat), (List.replicate w 0 ++ X).set (j + w) x = List.replicate w 0 ++ X.set j x := fun X j => by
    rw [List.set_append_right _ _ (by simp), List.length_replicate, Nat.add_sub_cancel]
  have e2 : ∀ (X : List Nat) (j : Nat), (List.replicate w 0 ++ X).set (j + w) y = List.replicate w 0 ++ X.set j y := fun X j => by
    rw [List.set_append_right _ _ (by simp), List.length_replicate, Nat.add_sub_cancel]
  rw [e1, show k + w + 1 = (k + 1) + w by omega, e2, List.set_append_right _ _ (by omega), h, Nat.sub_self, List.set_cons_zero, List.set_append_right _ _ (by omega), h, show k + 1 - k = 0 + 1 by omega, List.set_cons_succ, List.replicate_succ, List.set_cons_zero]
  simp
/-- Division by 2^95 of a number shifted by 31, word by word. -/
theorem shift_div (N : Nat) : N * 2 ^ 31 / 18446744073709551616 / 2147483648 = N / 18446744073709551616 := by
  rw [Nat.div_div_eq_div_mul, show (2 : Nat) ^ 31 = 2147483648 from rfl, Nat.mul_div_mul_right _ _ (by omega)]
theorem shift_mod (N : Nat) : (N * 2 ^ 31 % 18446744073709551616 + 18446744073709551616 * (N * 2 ^ 31 / 18446744073709551616 % 2147483648)) / 2 ^ 31 = N % 18446744073709551616 := by
  rw [show (2 : Nat) ^ 31 = 2147483648 from rfl]
  have h1 := Nat.div_add_mod N 18446744073709551616
  omega
end Go.Proofs.Ytdpgcojgnehnpaa
