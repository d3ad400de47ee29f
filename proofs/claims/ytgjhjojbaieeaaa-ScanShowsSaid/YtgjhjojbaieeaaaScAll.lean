/- The cutter's 'token' is the plain step. Conditions: none. -/
import Derived.Test.YtgjhjojbaieeaaaScDisp
set_option maxRecDepth 20000
namespace Go.Proofs.Ytgjhjojbaieeaaa
open Go.ChangeShapes Go.WideShapes Go.ChangeAt Go.RowKit
theorem nx_put {src : ByteArray} {p n : Nat} {T : List Tk} {k : Int} (h : stepS (src.data.toList.drop p) = .tok k n) : nx src.data.toList p T = putR src p n T k := by
  unfold nx putR addR
  rw [h]
  dsimp only
  cases addT src.data.toList p T k ((src.data.toList.drop p).take n) <;> rfl
theorem nx_err {src : ByteArray} {p : Nat} {T : List Tk} {c : Int} (h : stepS (src.data.toList.drop p) = .err c) : nx src.data.toList p T = .error c := by
  unfold nx
  rw [h]
theorem nx_skip {src : ByteArray} {p n : Nat} {T : List Tk} (h : stepS (src.data.toList.drop p) = .skip n) : nx src.data.toList p T = .ok (p + n, T) := by
  unfold nx
  rw [h]
theorem nx_nl {src : ByteArray} {p : Nat} {T : List Tk} (h : stepS (src.data.toList.drop p) = .nl) : nx src.data.toList p T = semiR src p (p + 1) T := by
  unfold nx semiR
  rw [h]
  dsimp only
  cases semiT src.data.toList p T <;> rfl
theorem token_any (g : Nat) (src : ByteArray) (p : Nat) (T : List Tk) (w : World) (hcu : CuS w g src p T) (hT : T.length ≤ 2000) (hsz : src.size ≤ 8000) (hp : p < src.size) :
    Calls Try.prog 61 #[.pointer (some ⟨g, 0, none⟩)] w (MP g src p w (nx src.data.toList p T)) := by
  have hhd := head_get src p hp
  by_cases h10 : src[p] = 10
  · rw [nx_nl (by unfold stepS; simp only [hhd]; rw [if_pos h10])]
    exact token_nl g src p T w hcu hT hsz hp h10
  by_cases hbl : src[p] = 32 ∨ src[p] = 9 ∨ src[p] = 13
  · rw [nx_skip (by unfold stepS; simp only [hhd]; rw [if_neg h10, if_pos hbl])]
    exact token_blank g src p T w hcu hsz hp hbl
  have hpl : Plain src[p] := ⟨h10, fun h => hbl (.inl h), fun h => hbl (.inr (.inl h)), fun h => hbl (.inr (.inr h))⟩
  by_cases hcm : (src.data.toList.drop p).take 2 = [47, 47]
  · rw [nx_skip (by unfold stepS; simp only [hhd]; rw [if_neg h10, if_neg hbl, if_pos hcm])]
    exact token_remark g src p T w hcu hsz hp hpl hcm
  cases hL : isL src[p] with
  | true =>
    have e : nx src.data.toList p T = nameR src p T := by
      unfold nameR
      by_cases h16 : 16 < alen (src.data.toList.drop p)
      · rw [if_pos h16]
        exact nx_err (by unfold stepS; simp only [hhd]; rw [if_neg h10, if_neg hbl, if_neg hcm, if_pos hL, if_pos h16])
      · rw [if_neg h16]
        exact nx_put (by unfold stepS; simp only [hhd]; rw [if_neg h10, if_neg hbl, if_neg hcm, if_pos hL, if_neg h16])
    rw [e]
    exact token_name g src p T w hcu hT hsz hp hpl hcm hL
  | false =>
    have hLn : ¬ isL src[p] = true := by rw [hL]; simp
    cases hD : isD src[p] with
    | true =>
      have e : nx src.data.toList p T = numR src p T := by
        unfold numR
        split
        · rename_i h
          exact nx_err (by unfold stepS; simp only [hhd]; rw [if_neg h10, if_neg hbl, if_neg hcm, if_neg hLn, if_pos hD, if_pos h])
        · rename_i h
          exact nx_put (by unfold stepS; simp only [hhd]; rw [if_neg h10, if_neg hbl, if_neg hcm, if_neg hLn, if_pos hD, if_neg h])
      rw [e]
      exact token_number g src p T w hcu hT hsz hp hpl hcm hL hD
    | false =>
      have hDn : ¬ isD src[p] = true := by rw [hD]; simp
      by_cases h34 : src[p] = 34
      · have e : nx src.data.toList p T = textR src p T := by
          unfold textR
          split
          · rename_i h
            exact nx_err (by unfold stepS; simp only [hhd]; rw [if_neg h10, if_neg hbl, if_neg hcm, if_neg hLn, if_neg hDn, if_pos h34, if_pos h])
          · rename_i h
            exact nx_put (by unfold stepS; simp only [hhd]; rw [if_neg h10, if_neg hbl, if_neg hcm, if_neg hLn, if_neg hDn, if_pos h34, if_neg h])
        rw [e]
        exact token_text g src p T w hcu hT hsz hp hpl hcm h34
      · by_cases h59 : src[p] = 59
        · rw [nx_put (k := 6) (n := 1) (by unfold stepS; simp only [hhd]; rw [if_neg h10, if_neg hbl, if_neg hcm, if_neg hLn, if_neg hDn, if_neg h34, if_pos h59])]
          exact token_semi g src p T w hcu hT hsz hp hpl hcm h59
        · have e : nx src.data.toList p T = signR src p T := by
            unfold signR
            split
            · rename_i h
              exact nx_err (by unfold stepS; simp only [hhd]; rw [if_neg h10, if_neg hbl, if_neg hcm, if_neg hLn, if_neg hDn, if_neg h34, if_neg h59, if_pos h])
            · rename_i h
              exact nx_put (by unfold stepS; simp only [hhd]; rw [if_neg h10, if_neg hbl, if_neg hcm, if_neg hLn, if_neg hDn, if_neg h34, if_neg h59, if_neg h])
          rw [e]
          exact token_sign g src p T w hcu hT hsz hp hpl hcm hL hD h34 h59
/-! ### the plain step goes on, and stays within bounds -/
theorem addT_len {L : List UInt8} {p : Nat} {T T' : List Tk} {k : Int} {s : List UInt8} (h : addT L p T k s = some T') (hT : T.length ≤ 2000) : T'.length ≤ 2000 := by
  unfold addT at h
  split at h
  · cases h
  · injection h with h
    subst h
    simp
    omega
theorem semiT_len {L : List UInt8} {p : Nat} {T T' : List Tk} (h : semiT L p T = some T') (hT : T.length ≤ 2000) : T'.length ≤ 2000 := by
  unfold semiT at h
  split at h
  · exact addT_len h hT
  · injection h with h
    subst h
    exact hT
theorem isA_pos {L : List UInt8} (hne : L ≠ []) (h : isA (L.headD 0) = true) : 0 < alen L := by
  cases L with
  | nil => exact absurd rfl hne
  | cons c r =>
    unfold alen
    rw [List.takeWhile_cons_of_pos (by simpa using h)]
    simp
theorem textLen_le (L : List UInt8) : textLen L ≤ L.length := by
  cases L with
  | nil => simp [textLen]
  | cons c r =>
    rw [textLen]
    split
    · simp
    · split
      · simp
      · simp; omega
theorem step_len {L : List UInt8} (hne : L ≠ []) : (∀ n, stepS L = .skip n → 0 < n ∧ n ≤ L.length) ∧ (∀ k n, stepS L = .tok k n → 0 < n ∧ n ≤ L.length) := by
  have h1 : 1 ≤ L.length := List.length_pos_iff.2 hne
  have ha : alen L ≤ L.length := tw_len _ _
  have hl : llen L ≤ L.length := tw_len _ _
  have hs := (signV_facts L).2.1
  have ht := textLen_le L
  unfold stepS
  simp only
  refine ⟨fun n h => ?_, fun k n h => ?_⟩
  · split at h
    · cases h
    · split at h
      · injection h with h; omega
      · split at h
        · rename_i hn _ hcm
          injection h with h
          subst h
          refine ⟨?_, hl⟩
          cases L with
          | nil => exact absurd rfl hne
          | cons c r =>
            unfold llen
            rw [List.takeWhile_cons_of_pos (by simpa using hn)]
            simp
        · repeat' split at h
          all_goals cases h
  · split at h
    · cases h
    · split at h
      · cases h
      · split at h
        · cases h
        · split at h
          · rename_i hL
            have hpos := isA_pos hne (by unfold isA; rw [hL]; rfl)
            split at h
            · cases h
            · injection h with _ h; omega
          · split at h
            · rename_i hD
              have hpos := isA_pos hne (by unfold isA; rw [hD]; simp)
              split at h
              · cases h
              · injection h with _ h; omega
            · split at h
              · split at h
                · cases h
                · injection h with _ h; omega
              · split at h
                · injection h with _ h; omega
                · split at h
                  · cases h
                  · rename_i hsg
                    injection h with _ h
                    have := List.length_pos_iff.2 hsg
                    omega
theorem nx_ok {src : ByteArray} {p p' : Nat} {T T' : List Tk} (hp : p < src.size) (hT : T.length ≤ 2000) (h : nx src.data.toList p T = .ok (p', T')) : p < p' ∧ p' ≤ src.size ∧ T'.length ≤ 2000 := by
  have hne : src.data.toList.drop p ≠ [] := fun e => by
    have := drop_len src p
    rw [e] at this
    simp at this
    omega
  obtain ⟨h1, h2⟩ := step_len hne
  have hd := drop_len src p
  cases hs : stepS (src.data.toList.drop p) with
  | nl =>
    rw [nx_nl hs] at h
    unfold semiR at h
    split at h
    · cases h
    · rename_i T'' hT''
      injection h with h
      injection h with e1 e2
      subst e1 e2
      exact ⟨by omega, by omega, semiT_len hT'' hT⟩
  | skip n =>
    rw [nx_skip hs] at h
    injection h with h
    injection h with e1 e2
    subst e1 e2
    have := h1 n hs
    exact ⟨by omega, by omega, hT⟩
  | tok k n =>
    rw [nx_put hs] at h
    unfold putR addR at h
    split at h
    · cases h
    · rename_i T'' hT''
      injection h with h
      injection h with e1 e2
      subst e1 e2
      have := h2 k n hs
      exact ⟨by omega, by omega, addT_len hT'' hT⟩
  | err c =>
    rw [nx_err hs] at h
    cases h
end Go.Proofs.Ytgjhjojbaieeaaa
