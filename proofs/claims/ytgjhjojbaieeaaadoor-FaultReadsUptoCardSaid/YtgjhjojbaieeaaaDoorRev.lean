/- Plain: a list reversed in place. Conditions: none. -/
namespace Go.Proofs.YtgjhjojbaieeaaaDoor
/-- A list that is being reversed in place: i exchanges are done. -/
def Rvd {α : Type} (L xs : List α) (i : Nat) : Prop := xs.length = L.length ∧ 2 * i ≤ L.length ∧ ∀ k, k < L.length → xs[k]? = if k < i ∨ L.length - i ≤ k then L[L.length - 1 - k]? else L[k]?
theorem Rvd.start {α : Type} (L : List α) : Rvd L L 0 := ⟨rfl, by omega, fun k hk => by rw [if_neg (by omega)]⟩
theorem Rvd.step {α : Type} {L xs : List α} {i j : Nat} {p q : α} (h : Rvd L xs i) (hj : j + i + 1 = L.length) (hi : i < j) (hp : L[i]? = some p) (hq : L[j]? = some q) : Rvd L ((xs.set i q).set j p) (i + 1) := by
  obtain ⟨h1, h2, h3⟩ := h
  refine ⟨by simp [h1], by omega, fun k hk => ?_⟩
  rw [List.getElem?_set, List.getElem?_set]
  by_cases e1 : j = k
  · subst e1
    simp [h1, hk]
    rw [if_pos (by omega), ← hp]
    congr 1; omega
  · by_cases e2 : i = k
    · subst e2
      simp [h1, hk, e1]
      rw [← hq]
      congr 1; omega
    · rw [if_neg e1, if_neg e2, h3 k hk]
      by_cases e3 : k < i ∨ L.length - i ≤ k
      · rw [if_pos e3, if_pos (by omega)]
      · rw [if_neg e3, if_neg (by omega)]
theorem Rvd.at {α : Type} {L xs : List α} {i k : Nat} (h : Rvd L xs i) (h1 : i ≤ k) (h2 : k + i < L.length) : xs[k]? = L[k]? := by
  rw [h.2.2 k (by omega), if_neg (by omega)]
theorem Rvd.done {α : Type} {L xs : List α} {i : Nat} (h : Rvd L xs i) (hi : L.length ≤ 2 * i + 1) : xs = L.reverse := by
  obtain ⟨h1, h2, h3⟩ := h
  apply List.ext_getElem?
  intro k
  by_cases hk : k < L.length
  · rw [h3 k hk, List.getElem?_reverse hk]
    split
    · rfl
    · congr 1; omega
  · rw [List.getElem?_eq_none (by omega), List.getElem?_eq_none (by simp; omega)]
end Go.Proofs.YtgjhjojbaieeaaaDoor
