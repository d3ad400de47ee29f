/- Plain: prefixes as lists; lines glued; bounds. Conditions: none. -/
import Derived.Test.YtdpgcojgnehnpaaRdP
set_option maxRecDepth 20000
namespace Go.Proofs.Ytdpgcojgnehnpaa
open Go
theorem size_mk (l : List UInt8) : (⟨l.toArray⟩ : ByteArray).size = l.length := by show l.toArray.size = _; simp
theorem mk_inj {a b : List UInt8} : (⟨a.toArray⟩ : ByteArray) = ⟨b.toArray⟩ ↔ a = b := by
  constructor
  · intro h
    have := congrArg (fun x : ByteArray => x.data.toList) h
    simpa using this
  · rintro rfl; rfl
theorem pfx_mk (p q : List UInt8) : pfxB ⟨p.toArray⟩ ⟨q.toArray⟩ = decide (p.take q.length = q) := by
  unfold pfxB
  rw [size_mk, size_mk, extract_list]
  simp only [List.drop_zero, mk_inj]
  by_cases h : q.length ≤ p.length
  · rw [decide_eq_true h, Bool.true_and]
  · rw [decide_eq_false h, Bool.false_and, decide_eq_false]
    intro e
    have := congrArg List.length e
    rw [List.length_take] at this
    omega
theorem cutP_mk {p q : List UInt8} (h : p.take q.length = q) : cutP ⟨p.toArray⟩ ⟨q.toArray⟩ = ⟨(p.drop q.length).toArray⟩ := by
  unfold cutP
  rw [if_pos (by rw [pfx_mk, decide_eq_true h]), size_mk, size_mk, extract_list, List.take_of_length_le (by simp)]
theorem sfx_mk (t q : List UInt8) : sfxB ⟨t.toArray⟩ ⟨q.toArray⟩ = decide (q.length ≤ t.length ∧ t.drop (t.length - q.length) = q) := by
  unfold sfxB
  rw [size_mk, size_mk, extract_list, List.take_of_length_le (by simp), Bool.decide_and]
  simp only [mk_inj]
theorem cutS_yes {t q : List UInt8} (h : sfxB ⟨t.toArray⟩ ⟨q.toArray⟩ = true) : cutS ⟨t.toArray⟩ ⟨q.toArray⟩ = ⟨(t.take (t.length - q.length)).toArray⟩ := by
  unfold cutS
  rw [if_pos h, size_mk, size_mk, extract_list, List.drop_zero]
theorem cutS_no {t q : List UInt8} (h : sfxB ⟨t.toArray⟩ ⟨q.toArray⟩ = false) : cutS ⟨t.toArray⟩ ⟨q.toArray⟩ = ⟨t.toArray⟩ := by
  unfold cutS
  rw [h]; rfl
/-- 'tailP' by what CutSuffix leaves. -/
theorem tail_cut (i : Nat) (t : List UInt8) : tailP i t = if (readPV (cutS ⟨t.toArray⟩ ⟨recB.toArray⟩)).2 = true then some ⟨i, (readPV (cutS ⟨t.toArray⟩ ⟨recB.toArray⟩)).1, sfxB ⟨t.toArray⟩ ⟨recB.toArray⟩, false⟩ else none := by
  have hl : recB.length = 12 := rfl
  unfold tailP
  cases hs : sfxB ⟨t.toArray⟩ ⟨recB.toArray⟩
  · have h1 := hs
    rw [sfx_mk, decide_eq_false_iff_not, hl] at h1
    rw [if_neg h1, cutS_no hs]
  · have h1 := hs
    rw [sfx_mk, decide_eq_true_eq, hl] at h1
    rw [if_pos h1, cutS_yes hs, hl]
def glue : List (List UInt8) → List UInt8
  | [] => []
  | [p] => p
  | p :: q :: r => p ++ 10 :: glue (q :: r)
theorem glue_cons (p : List UInt8) (r : List (List UInt8)) (x : List UInt8) : glue (p :: (r ++ [x])) = p ++ 10 :: glue (r ++ [x]) := by
  cases r <;> rfl
theorem cutG_ne : ∀ (L cur : List UInt8), cutG 10 L cur ≠ []
  | [], cur => by simp [cutG]
  | c :: r, cur => by
    unfold cutG
    split
    · simp
    · exact cutG_ne r _
theorem glue_cut : ∀ (L cur : List UInt8), glue (cutG 10 L cur) = cur ++ L
  | [], cur => by simp [cutG, glue]
  | c :: r, cur => by
    have h1 := glue_cut r []
    have h2 := glue_cut r (cur ++ [c])
    have h3 := cutG_ne r []
    unfold cutG
    split
    · rename_i hc
      subst hc
      cases hq : cutG 10 r [] with
      | nil => exact absurd hq h3
      | cons a b =>
        rw [hq] at h1
        simp only [glue]
        rw [h1]; simp
    · rw [h2]; simp
theorem cut_nl : ∀ (L cur : List UInt8), (10 : UInt8) ∉ cur → ∀ p ∈ cutG 10 L cur, (10 : UInt8) ∉ p
  | [], cur, h, p, hp => by
    simp [cutG] at hp
    subst hp; exact h
  | c :: r, cur, h, p, hp => by
    unfold cutG at hp
    split at hp
    · rcases List.mem_cons.1 hp with rfl | hp
      · exact h
      · exact cut_nl r [] (by simp) p hp
    · rename_i hc
      exact cut_nl r (cur ++ [c]) (by simp [h]; exact fun e => hc e.symm) p hp
theorem unq_len {l q : List UInt8} (h : unq l = some q) : q.length ≤ l.length := by
  unfold unq at h
  split at h
  · cases h
  · rename_i c r
    split at h
    · split at h
      · rename_i m hd
        split at h
        · cases h
        · injection h with h
          subst h
          have := dec_len _ r (Nat.le_refl _) m [] hd
          simp at this ⊢
          omega
      · cases h
    · cases h
theorem readPV_bulk (s : ByteArray) : (readPV s).1.bulk ≤ s.size + 1 ∧ (readPV s).1.l = [] := by
  unfold readPV VV.bulk
  split
  · exact ⟨by show (⟨#[]⟩ : ByteArray).size + 0 + 1 ≤ s.size + 1; have : (⟨#[]⟩ : ByteArray).size = 0 := rfl; omega, rfl⟩
  · split
    · rename_i q hq
      have := unq_len hq
      refine ⟨?_, rfl⟩
      show (⟨q.toArray⟩ : ByteArray).size + 0 + 1 ≤ s.size + 1
      rw [size_mk]
      have h2 : s.data.toList.length = s.size := by simp
      omega
    · exact ⟨by simp, rfl⟩
theorem cutS_le (t q : List UInt8) : (cutS ⟨t.toArray⟩ ⟨q.toArray⟩).size ≤ t.length := by
  cases h : sfxB ⟨t.toArray⟩ ⟨q.toArray⟩
  · rw [cutS_no h, size_mk]; exact Nat.le_refl _
  · rw [cutS_yes h, size_mk, List.length_take]; omega
theorem rd_in {l : List Nat} {z : Int} (h : rd l = some z) : -9223372036854775808 ≤ z ∧ z ≤ 9223372036854775807 := (rd_some.1 h).2
theorem readPV_n (s : ByteArray) : -9223372036854775808 ≤ (readPV s).1.n ∧ (readPV s).1.n ≤ 9223372036854775807 := by
  unfold readPV
  split
  · rename_i z hz; exact rd_in hz
  · split <;> exact ⟨by simp, by simp⟩
theorem readPV_k (s : ByteArray) : -9223372036854775808 ≤ (readPV s).1.k ∧ (readPV s).1.k ≤ 9223372036854775807 := by
  unfold readPV
  split
  · exact ⟨by simp, by simp⟩
  · split <;> exact ⟨by simp, by simp⟩
end Go.Proofs.Ytdpgcojgnehnpaa
