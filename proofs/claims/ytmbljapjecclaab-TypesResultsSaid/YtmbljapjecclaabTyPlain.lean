/- Plain: a function's type, and its pieces one by one. Conditions: none. -/
import Derived.Test.YtmbljapjecclaabTyParams
import Derived.Test.YtmbljapjecclaabTyRef
set_option maxRecDepth 20000
namespace Go.Proofs.Ytmbljapjecclaab
open Go.ChangeShapes Go.WideShapes Go.ChangeAt Go.RowKit
theorem drop_cons {S : ByteArray} {k : Nat} (h : k < S.size) : S.data.toList.drop k = S[k] :: S.data.toList.drop (k + 1) := by
  rw [List.drop_eq_getElem_cons (by simpa using h)]
  rfl
theorem word_f {L : List UInt8} : tyWord (102 :: L) = none := by
  simp [tyWord, tyW, List.find?, List.isPrefixOf]
theorem word_comma {L : List UInt8} : tyWord (44 :: L) = none := by
  simp [tyWord, tyW, List.find?, List.isPrefixOf]
theorem fn_head {S : ByteArray} {k : Nat} (h : k < S.size) (hb : hasB S k ⟨#[102, 117, 110, 99, 40]⟩ = true) : S[k] = 102 := by
  unfold hasB at hb
  rw [drop_cons h] at hb
  simp [List.isPrefixOf] at hb
  exact hb.1.symm
theorem fn_size {S : ByteArray} {k : Nat} (hk : k ≤ S.size) (hb : hasB S k ⟨#[102, 117, 110, 99, 40]⟩ = true) : k + 5 ≤ S.size := by
  rcases Nat.lt_or_ge S.size (k + 5) with h | h
  · rw [hasB_no (t := ⟨#[102, 117, 110, 99, 40]⟩) h hk] at hb
    exact absurd hb (by simp)
  · exact h
/-- No type begins with a comma. -/
theorem tyAt_comma {f : Nat} {S : ByteArray} {k : Nat} (h : k < S.size) (hc : S[k] = 44) : tyAt f S k = none := by
  cases f with
  | zero => rfl
  | succ f =>
    rw [tyAt_fn (by rw [drop_cons h, hc]; exact word_comma)]
    unfold fnAt
    cases hb : hasB S k ⟨#[102, 117, 110, 99, 40]⟩
    · rfl
    · have := fn_head h hb
      rw [hc] at this
      exact absurd this (by decide)
theorem tyAt_f {f : Nat} {S : ByteArray} {k : Nat} (h : k < S.size) (hc : S[k] = 102) : tyAt (f + 1) S k = fnAt f S k := tyAt_fn (by rw [drop_cons h, hc]; exact word_f)
/-- What holds at the loop's head: what is gathered, and what is still to come. -/
def PcI (s : ByteArray) (l ps : List ByteArray) (k : Nat) : Prop := addP ps (pcsAt s.size s ps.length k) = some (l, s.size) ∧ k ≤ s.size ∧ ps.length ≤ 4 ∧ 5 ≤ k
theorem fnP_inv {s : ByteArray} {l : List ByteArray} {p : Nat} (h : fnP s.size s 0 = some (l, p)) : hasB s 0 ⟨#[102, 117, 110, 99, 40]⟩ = true ∧ pcsAt s.size s 0 5 = some (l, p) := by
  unfold fnP at h
  split at h
  · rename_i hb
    exact ⟨hb, h⟩
  · simp at h
theorem ptO_start {s : ByteArray} (h : tyOk s = true) (h0 : 0 < s.size) (hc : s[0] = 102) : ∃ l, ptO s = some l ∧ PcI s l [] 5 := by
  unfold tyOk at h
  rw [Bool.and_eq_true, decide_eq_true_eq, decide_eq_true_eq] at h
  obtain ⟨h1, h2⟩ := h
  rw [tyAt_f h0 hc, ← fnP_end, Option.map_eq_some_iff] at h2
  obtain ⟨⟨l, p⟩, h2, h3⟩ := h2
  simp only at h3
  subst h3
  obtain ⟨hb, hp⟩ := fnP_inv h2
  exact ⟨l, ptO_yes h1 h2, by rw [addP_nil]; exact hp, fn_size (Nat.zero_le _) hb, by simp, Nat.le_refl _⟩
theorem ptO_inv {s : ByteArray} {l : List ByteArray} (h : ptO s = some l) : s.size ≤ 100 ∧ fnP s.size s 0 = some (l, s.size) := by
  unfold ptO at h
  split at h
  · rename_i hl
    split at h
    · rename_i l' p hf
      split at h
      · rename_i hp
        injection h with h
        subst h
        rw [hp] at hf
        exact ⟨hl, hf⟩
      · simp at h
    · simp at h
  · simp at h
theorem ptO_bad {s : ByteArray} (h : tyOk s = false) : ptO s = none := by
  cases hp : ptO s with
  | none => rfl
  | some l =>
    obtain ⟨h1, h2⟩ := ptO_inv hp
    obtain ⟨hb, _⟩ := fnP_inv h2
    have h0 : 0 < s.size := by have := fn_size (Nat.zero_le _) hb; omega
    have h3 : tyAt (s.size + 1) s 0 = some s.size := by rw [tyAt_f h0 (fn_head h0 hb), ← fnP_end, h2]; rfl
    unfold tyOk at h
    rw [h3] at h
    simp [h1] at h
theorem ptO_other {s : ByteArray} (h0 : 0 < s.size) (hc : s[0] ≠ 102) : ptO s = none := by
  cases hp : ptO s with
  | none => rfl
  | some l => exact absurd (fn_head h0 (fnP_inv (ptO_inv hp).2).1) hc
theorem PcI.lt {s : ByteArray} {l ps : List ByteArray} {k : Nat} (h : PcI s l ps k) : k < s.size := by
  obtain ⟨h1, h2, h3, h4⟩ := h
  rcases Nat.lt_or_ge k s.size with hk | hk
  · exact hk
  · have he := pcsAt_end (f := s.size) (S := s) _ ps.length k rfl h3
    rw [parsAt_end hk h2 h3, Option.map_eq_none_iff] at he
    rw [he] at h1
    simp [addP] at h1
theorem PcI.close {s : ByteArray} {l ps : List ByteArray} {k : Nat} (h : PcI s l ps k) (hc : s[k]'h.lt = 41) : l = ps ++ [s.extract (k + 1) s.size] := by
  have h1 := h.1
  rw [pcsAt_close (by rw [hasB_one h.lt, hc]; rfl)] at h1
  unfold resP addP at h1
  rw [Option.map_map, Option.map_eq_some_iff] at h1
  obtain ⟨p, _, h1⟩ := h1
  injection h1 with h1 h2
  simp only at h1 h2
  rw [← h1, h2]
theorem PcI.next {s : ByteArray} {l ps : List ByteArray} {k : Nat} (h : PcI s l ps k) (hc : s[k]'h.lt ≠ 41) : ∃ k' p, k' = (if s[k]'h.lt = 44 then k + 1 else k) ∧ tyAt s.size s k' = some p ∧ PcI s l (ps ++ [s.extract k' p]) p ∧ k' < p := by
  obtain ⟨h1, h2, h3, h4⟩ := id h
  have hn : hasB s k ⟨#[41]⟩ = false := by rw [hasB_one h.lt]; simpa using hc
  have fin : ∀ k' p, k' ≤ s.size → k ≤ k' → ps.length < 4 → tyAt s.size s k' = some p → addP ps ((pcsAt s.size s (ps.length + 1) p).map fun q => (s.extract k' p :: q.1, q.2)) = some (l, s.size) → PcI s l (ps ++ [s.extract k' p]) p ∧ k' < p := by
    intro k' p e1 e2 e5 e3 e4
    have := tyAt_le e1 e3
    rw [addP_cons] at e4
    exact ⟨⟨by rw [List.length_append]; exact e4, this.2, by rw [List.length_append]; simp; omega, by omega⟩, this.1⟩
  by_cases hm : ps.length = 0
  · have hcm : s[k]'h.lt ≠ 44 := by
      intro e
      rw [hm, pcsAt_first hn, tyAt_comma h.lt e] at h1
      simp [addP] at h1
    rw [hm, pcsAt_first hn] at h1
    cases ht : tyAt s.size s k with
    | none => rw [ht] at h1; simp [addP] at h1
    | some p =>
      rw [ht, Option.bind_some] at h1
      exact ⟨k, p, by rw [if_neg hcm], ht, fin k p h2 (Nat.le_refl _) (by omega) ht (by rw [hm]; exact h1)⟩
  · have hm4 : ps.length < 4 := by
      rcases Nat.lt_or_ge ps.length 4 with e | e
      · exact e
      · rw [pcsAt_full hn e] at h1
        simp [addP] at h1
    cases hb : hasB s k ⟨#[44]⟩ with
    | false =>
      rw [pcsAt_no hn (by omega) hm4 hb] at h1
      simp [addP] at h1
    | true =>
      have hcm : s[k]'h.lt = 44 := by rw [hasB_one h.lt] at hb; simpa using hb
      rw [pcsAt_more hn (by omega) hm4 hb] at h1
      cases ht : tyAt s.size s (k + 1) with
      | none => rw [ht] at h1; simp [addP] at h1
      | some p =>
        rw [ht, Option.bind_some] at h1
        exact ⟨k + 1, p, by rw [if_pos hcm], ht, fin (k + 1) p h.lt (by omega) hm4 ht h1⟩
end Go.Proofs.Ytmbljapjecclaab
