/- Trees of nodes, plain: what lies beneath a node; each node the kid of one at most. Conditions: none. -/
import Derived.Test.YtkpejdkffkhekaaGreatDoorPgA
namespace Go.Proofs.YtkpejdkffkhekaaGreatDoor
/-- One step of the way back. -/
theorem backK_succ {T : List ND} {st : Nat → Option Nat} {n : ND} {i next a : Nat} (h : backK T st n (i + 1) next = some a) : ∃ (k s : Nat) (m : ND), n.kids[i]? = some (k : Int) ∧ k + 1 = next ∧ T[k]? = some m ∧ kidN n i m.kind = true ∧ st k = some s ∧ backK T st n i s = some a := by
  simp only [backK] at h
  cases hk : n.kids[i]? with
  | none => rw [hk] at h; cases h
  | some k =>
    rw [hk] at h
    simp only at h
    split at h
    · rename_i hkk
      cases hT : T[k.toNat]? with
      | none => rw [hT] at h; cases h
      | some m =>
        rw [hT] at h
        simp only at h
        split at h
        · rename_i hm
          cases hq : st k.toNat with
          | none => rw [hq] at h; cases h
          | some s =>
            rw [hq] at h
            exact ⟨k.toNat, s, m, by rw [Int.toNat_of_nonneg hkk.2], by omega, hT, hm, hq, h⟩
        · cases h
    · cases h
theorem backK_mk {T : List ND} {st : Nat → Option Nat} {n m : ND} {i k s : Nat} (h1 : n.kids[i]? = some (k : Int)) (h2 : T[k]? = some m) (h3 : kidN n i m.kind = true) (h4 : st k = some s) : backK T st n (i + 1) (k + 1) = backK T st n i s := by
  simp only [backK, h1]
  rw [if_pos ⟨by omega, by omega⟩]
  simp only [Int.toNat_natCast, h2, h3, h4, if_true]
theorem startOf_some {T : List ND} {k a : Nat} (h : startOf T k = some a) : ∃ n, T[k]? = some n ∧ cntN n = true ∧ backK T (startOf T) n n.kids.length k = some a := by
  rw [startOf_eq] at h
  unfold stepNd at h
  cases hT : T[k]? with
  | none => rw [hT] at h; cases h
  | some n =>
    rw [hT] at h
    simp only at h
    split at h
    · rename_i hc
      exact ⟨n, rfl, hc, h⟩
    · cases h
theorem startOf_mk {T : List ND} {k a : Nat} {n : ND} (h1 : T[k]? = some n) (h2 : cntN n = true) (h3 : backK T (startOf T) n n.kids.length k = some a) : startOf T k = some a := by
  rw [startOf_eq]
  unfold stepNd
  rw [h1]
  simp only
  rw [if_pos h2]
  exact h3
/-- What lies between begins no earlier. -/
theorem startOf_in {T : List ND} : ∀ (k a : Nat), startOf T k = some a → ∀ j, a ≤ j → j ≤ k → ∃ s, startOf T j = some s ∧ a ≤ s := by
  intro k
  induction k using Nat.strongRecOn with
  | _ k ih =>
    intro a h j h1 h2
    by_cases hjk : j = k
    · subst hjk
      exact ⟨a, h, Nat.le_refl _⟩
    · obtain ⟨n, hT, _, hb⟩ := startOf_some h
      have key : ∀ (i next : Nat), next ≤ k → backK T (startOf T) n i next = some a → ∀ j, a ≤ j → j < next → ∃ s, startOf T j = some s ∧ a ≤ s := by
        intro i
        induction i with
        | zero =>
          intro next _ hb j h1 h2
          simp only [backK] at hb
          injection hb with hb
          omega
        | succ i ihi =>
          intro next hn hb j h1 h2
          obtain ⟨q, s, m, _, hq, _, _, hs, hb'⟩ := backK_succ hb
          have has : a ≤ s := backK_le i s a (fun j t _ ht => startOf_le j t ht) hb'
          have hsq := startOf_le q s hs
          by_cases hj : j < s
          · exact ihi s (by omega) hb' j h1 hj
          · obtain ⟨t, ht, hst⟩ := ih q (by omega) s hs j (by omega) (by omega)
            exact ⟨t, ht, by omega⟩
      exact key _ k (Nat.le_refl _) hb j h1 (by omega)
/-- What the way back tells of each kid. -/
theorem backK_kid {T : List ND} {n : ND} {a : Nat} : ∀ (m next : Nat), backK T (startOf T) n m next = some a → ∀ p, p < m → ∃ (k s : Nat), n.kids[p]? = some (k : Int) ∧ startOf T k = some s ∧ a ≤ s ∧ s ≤ k ∧ k < next ∧ (∀ p' k', p' < p → n.kids[p']? = some k' → k' < (s : Int)) ∧ (∀ j, k < j → j < next → ∃ s', startOf T j = some s' ∧ k < s')
  | 0, _, _, _, h => by omega
  | m + 1, next, hb, p, hp => by
    obtain ⟨q, t, x, hq1, hq2, _, _, ht, hb'⟩ := backK_succ hb
    have hat := backK_le m t a (fun j s _ hs => startOf_le j s hs) hb'
    have htq := startOf_le q t ht
    have ih := backK_kid m t hb'
    by_cases hpm : p = m
    · subst hpm
      refine ⟨q, t, hq1, ht, hat, htq, by omega, fun p' k' hp' hk' => ?_, fun j h1 h2 => by omega⟩
      obtain ⟨k, s, h1, _, _, _, h5, _⟩ := ih p' hp'
      rw [h1] at hk'
      injection hk' with hk'
      omega
    · obtain ⟨k, s, h1, h2, h3, h4, h5, h6, h7⟩ := ih p (by omega)
      refine ⟨k, s, h1, h2, h3, h4, by omega, h6, fun j hj1 hj2 => ?_⟩
      by_cases hjt : j < t
      · exact h7 j hj1 hjt
      · obtain ⟨s', hs', hle⟩ := startOf_in q t ht j (by omega) (by omega)
        exact ⟨s', hs', by omega⟩
def kidAt (T : List ND) (i p : Nat) : Option Int := (T[i]?).bind fun n => n.kids[p]?
def Bef (j q i p : Nat) : Prop := j < i ∨ j = i ∧ q < p
/-- Kids stand ahead, and each is the kid of one node at most. -/
def UpP (T : List ND) : Prop := ∀ i p k, kidAt T i p = some k → (0 ≤ k ∧ k < (i : Int)) ∧ ∀ j q, Bef j q i p → kidAt T j q ≠ some k
theorem up_of {T : List ND} (h : ∀ k, k < T.length → (startOf T k).isSome = true) : UpP T := by
  intro i p k hk
  have hkid : ∀ i p k, kidAt T i p = some k → ∃ (n : ND) (a k' s : Nat), T[i]? = some n ∧ startOf T i = some a ∧ p < n.kids.length ∧ n.kids[p]? = some (k' : Int) ∧ k = (k' : Int) ∧ startOf T k' = some s ∧ a ≤ s ∧ s ≤ k' ∧ k' < i ∧ (∀ p' q, p' < p → n.kids[p']? = some q → q < (s : Int)) ∧ (∀ j, k' < j → j < i → ∃ s', startOf T j = some s' ∧ k' < s') := by
    intro i p k hk
    unfold kidAt at hk
    cases hT : T[i]? with
    | none => rw [hT] at hk; cases hk
    | some n =>
      rw [hT] at hk
      have hk' : n.kids[p]? = some k := hk
      obtain ⟨a, ha⟩ := Option.isSome_iff_exists.1 (h i (List.getElem?_eq_some_iff.1 hT).1)
      obtain ⟨n', hT', _, hb⟩ := startOf_some ha
      rw [hT] at hT'
      injection hT' with hT'
      subst hT'
      have hp := (List.getElem?_eq_some_iff.1 hk').1
      obtain ⟨k2, s, h1, h2, h3, h4, h5, h6, h7⟩ := backK_kid _ _ hb p hp
      rw [hk'] at h1
      injection h1 with h1
      exact ⟨n, a, k2, s, rfl, ha, hp, by rw [hk', h1], h1, h2, h3, h4, h5, h6, h7⟩
  obtain ⟨n, a, k', s, hT, ha, hp, hk', rfl, hs, has, hsk, hki, hsib, hin⟩ := hkid i p k hk
  refine ⟨⟨by omega, by omega⟩, fun j q hb hjq => ?_⟩
  rcases hb with hj | ⟨rfl, hq⟩
  · obtain ⟨n2, a2, k2, s2, _, ha2, _, _, e2, hs2, has2, hsk2, hkj, _, _⟩ := hkid j q _ hjq
    have : k2 = k' := by omega
    subst this
    obtain ⟨s', hs', hlt⟩ := hin j hkj hj
    rw [ha2] at hs'
    injection hs' with hs'
    omega
  · unfold kidAt at hjq
    rw [hT] at hjq
    have := hsib q _ hq hjq
    omega
/-- The node's kids from the first on. -/
def Fwd (T : List ND) (n : ND) (a : Nat) : Nat → Nat → Prop
  | 0, e => e = a
  | m + 1, e => ∃ (k s : Nat) (x : ND), n.kids[m]? = some (k : Int) ∧ T[k]? = some x ∧ kidN n m x.kind = true ∧ Fwd T n a m s ∧ startOf T k = some s ∧ e = k + 1
theorem fwd_iff {T : List ND} {n : ND} {a : Nat} : ∀ (m e : Nat), Fwd T n a m e ↔ backK T (startOf T) n m e = some a
  | 0, e => by
    simp only [Fwd, backK]
    constructor
    · intro h; rw [h]
    · intro h; injection h
  | m + 1, e => by
    constructor
    · rintro ⟨k, s, x, h1, h2, h3, h4, h5, rfl⟩
      rw [backK_mk h1 h2 h3 h5]
      exact (fwd_iff m s).1 h4
    · intro h
      obtain ⟨k, s, x, h1, h2, h3, h4, h5, h6⟩ := backK_succ h
      exact ⟨k, s, x, h1, h3, h4, (fwd_iff m s).2 h6, h5, h2.symm⟩
/-- All that is laid right is laid right beneath the last node. -/
def LaidT (T : List ND) : Prop := 0 < T.length ∧ (∃ n, T[T.length - 1]? = some n ∧ n.kind = 1) ∧ startOf T (T.length - 1) = some 0
theorem laid_all {T : List ND} (h : LaidT T) : ∀ k, k < T.length → (startOf T k).isSome = true := by
  intro k hk
  obtain ⟨s, hs, _⟩ := startOf_in _ _ h.2.2 k (Nat.zero_le _) (by omega)
  rw [hs]; rfl
theorem laid_up {T : List ND} (h : LaidT T) : UpP T := up_of (laid_all h)
end Go.Proofs.YtkpejdkffkhekaaGreatDoor
