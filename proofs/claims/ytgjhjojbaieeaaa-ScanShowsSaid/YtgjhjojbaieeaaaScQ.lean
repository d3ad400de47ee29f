/- Plain: where a quoted text ends. Conditions: none. -/
import Derived.Test.YtgjhjojbaieeaaaScNum
namespace Go.Proofs.Ytgjhjojbaieeaaa
open Go
/-- How many bytes stand ahead of the closing quote. -/
def qpos : List UInt8 → Option Nat
  | [] => none
  | [c] => if c = 34 then some 0 else none
  | c :: e :: r => if c = 34 then some 0 else if c = 10 then none else if c = 92 then (qpos r).map (· + 2) else (qpos (e :: r)).map (· + 1)
theorem qpos_dec : ∀ (n : Nat) (l : List UInt8), l.length ≤ n → ∀ m t, dec l = some (m, t) → ∃ k, qpos l = some k ∧ t = l.drop (k + 1) ∧ dec (l.take (k + 1)) = some (m, []) := by
  intro n
  induction n with
  | zero =>
    intro l h m t hd
    obtain rfl : l = [] := List.eq_nil_of_length_eq_zero (by omega)
    simp [dec] at hd
  | succ n ih =>
    intro l h m t hd
    match l with
    | [] => simp [dec] at hd
    | [c] =>
      rw [dec] at hd
      by_cases h1 : c = 34
      · simp [h1] at hd
        obtain ⟨rfl, rfl⟩ := hd
        exact ⟨0, by simp [qpos, h1], by simp, by simp [dec, h1]⟩
      · simp [h1] at hd
    | c :: e :: r =>
      rw [dec] at hd
      by_cases g1 : c = 34
      · simp [g1] at hd
        obtain ⟨rfl, rfl⟩ := hd
        exact ⟨0, by simp [qpos, g1], by simp, by simp [dec, g1]⟩
      · rw [if_neg g1] at hd
        by_cases g2 : c = 92
        · rw [if_pos g2] at hd
          cases he : escOf e with
          | none => rw [he] at hd; simp at hd
          | some x =>
            rw [he] at hd
            simp only [Option.bind_some, Option.map_eq_some_iff, Prod.mk.injEq] at hd
            obtain ⟨⟨p1, p2⟩, hp, rfl, rfl⟩ := hd
            obtain ⟨k, h1, h2, h3⟩ := ih r (by simp at h; omega) _ _ hp
            refine ⟨k + 2, ?_, by simpa using h2, ?_⟩
            · rw [qpos, if_neg g1, if_neg (by rw [g2]; decide), if_pos g2, h1]; rfl
            · simp only [show k + 2 + 1 = (k + 1) + 1 + 1 by omega, List.take_succ_cons]
              rw [dec, if_neg g1, if_pos g2, he, h3]
              rfl
        · rw [if_neg g2] at hd
          by_cases g3 : okB c = true
          · rw [if_pos g3] at hd
            simp only [Option.map_eq_some_iff, Prod.mk.injEq] at hd
            obtain ⟨⟨p1, p2⟩, hp, rfl, rfl⟩ := hd
            obtain ⟨k, h1, h2, h3⟩ := ih (e :: r) (by simp at h ⊢; omega) _ _ hp
            have g4 : c ≠ 10 := by rintro rfl; revert g3; decide
            refine ⟨k + 1, ?_, by simpa using h2, ?_⟩
            · rw [qpos, if_neg g1, if_neg g4, if_neg g2, h1]; rfl
            · rw [List.take_succ_cons]
              rw [show (e :: r).take (k + 1) = e :: r.take k from rfl] at h3 ⊢
              rw [dec, if_neg g1, if_neg g2, if_pos g3, h3]
              rfl
          · rw [if_neg g3] at hd; simp at hd
theorem dec_more : ∀ (n : Nat) (l : List UInt8), l.length ≤ n → ∀ m t b, dec l = some (m, t) → dec (l ++ b) = some (m, t ++ b) := by
  intro n
  induction n with
  | zero =>
    intro l h m t b hd
    obtain rfl : l = [] := List.eq_nil_of_length_eq_zero (by omega)
    simp [dec] at hd
  | succ n ih =>
    intro l h m t b hd
    match l with
    | [] => simp [dec] at hd
    | [c] =>
      rw [dec] at hd
      by_cases h1 : c = 34
      · simp [h1] at hd
        obtain ⟨rfl, rfl⟩ := hd
        cases b <;> simp [dec, h1]
      · simp [h1] at hd
    | c :: e :: r =>
      rw [List.cons_append, List.cons_append]
      rw [dec] at hd ⊢
      by_cases g1 : c = 34
      · simp [g1] at hd
        obtain ⟨rfl, rfl⟩ := hd
        simp [g1]
      · rw [if_neg g1] at hd ⊢
        by_cases g2 : c = 92
        · rw [if_pos g2] at hd ⊢
          cases he : escOf e with
          | none => rw [he] at hd; simp at hd
          | some x =>
            rw [he] at hd
            simp only [Option.bind_some, Option.map_eq_some_iff, Prod.mk.injEq] at hd
            obtain ⟨⟨p1, p2⟩, hp, rfl, rfl⟩ := hd
            rw [Option.bind_some, ih r (by simp at h; omega) _ _ b hp]
            rfl
        · rw [if_neg g2] at hd ⊢
          by_cases g3 : okB c = true
          · rw [if_pos g3] at hd ⊢
            simp only [Option.map_eq_some_iff, Prod.mk.injEq] at hd
            obtain ⟨⟨p1, p2⟩, hp, rfl, rfl⟩ := hd
            rw [← List.cons_append, ih (e :: r) (by simp at h ⊢; omega) _ _ b hp]
            rfl
          · rw [if_neg g3] at hd; simp at hd
/-- The steps of the search. -/
def qAt (r : List UInt8) (i : Nat) : Prop := qpos r = (qpos (r.drop i)).map (· + i)
theorem qAt.start (r : List UInt8) : qAt r 0 := by
  unfold qAt
  rw [List.drop_zero]
  cases qpos r <;> simp
theorem qAt.close {r : List UInt8} {i : Nat} (h : qAt r i) (hx : r[i]? = some 34) : qpos r = some i := by
  have hi : i < r.length := by rw [List.getElem?_eq_some_iff] at hx; exact hx.1
  have e : r.drop i = 34 :: r.drop (i + 1) := by
    rw [List.drop_eq_getElem_cons hi]
    rw [List.getElem?_eq_getElem hi] at hx
    injection hx with hx
    rw [hx]
  unfold qAt at h
  rw [h, e]
  cases hr : r.drop (i + 1) <;> simp [qpos]
theorem qAt.nl {r : List UInt8} {i : Nat} (h : qAt r i) (hx : r[i]? = some 10) : qpos r = none := by
  have hi : i < r.length := by rw [List.getElem?_eq_some_iff] at hx; exact hx.1
  have e : r.drop i = 10 :: r.drop (i + 1) := by
    rw [List.drop_eq_getElem_cons hi]
    rw [List.getElem?_eq_getElem hi] at hx
    injection hx with hx
    rw [hx]
  unfold qAt at h
  rw [h, e]
  cases hr : r.drop (i + 1) <;> simp [qpos]
theorem qAt.over {r : List UInt8} {i : Nat} (h : qAt r i) (hi : r.length ≤ i) : qpos r = none := by
  unfold qAt at h
  rw [h, List.drop_eq_nil_of_le hi]
  rfl
theorem qAt.esc {r : List UInt8} {i : Nat} (h : qAt r i) (hx : r[i]? = some 92) : qAt r (i + 2) := by
  have hi : i < r.length := by rw [List.getElem?_eq_some_iff] at hx; exact hx.1
  have e : r.drop i = 92 :: r.drop (i + 1) := by
    rw [List.drop_eq_getElem_cons hi]
    rw [List.getElem?_eq_getElem hi] at hx
    injection hx with hx
    rw [hx]
  unfold qAt at h ⊢
  rw [h, e]
  rcases Nat.lt_or_ge (i + 1) r.length with h2 | h2
  · rw [List.drop_eq_getElem_cons h2, qpos]
    simp only [show (92 : UInt8) ≠ 34 by decide, show (92 : UInt8) ≠ 10 by decide, if_false, if_true, Option.map_map]
    congr 1
    funext x
    simp
    omega
  · rw [List.drop_eq_nil_of_le h2, List.drop_eq_nil_of_le (by omega)]
    simp [qpos]
theorem qAt.plain {r : List UInt8} {i : Nat} {c : UInt8} (h : qAt r i) (hx : r[i]? = some c) (h1 : c ≠ 34) (h2 : c ≠ 10) (h3 : c ≠ 92) : qAt r (i + 1) := by
  have hi : i < r.length := by rw [List.getElem?_eq_some_iff] at hx; exact hx.1
  have e : r.drop i = c :: r.drop (i + 1) := by
    rw [List.drop_eq_getElem_cons hi]
    rw [List.getElem?_eq_getElem hi] at hx
    injection hx with hx
    rw [hx]
  unfold qAt at h ⊢
  rw [h, e]
  rcases Nat.lt_or_ge (i + 1) r.length with h4 | h4
  · rw [List.drop_eq_getElem_cons h4, qpos, if_neg h1, if_neg h2, if_neg h3, Option.map_map]
    congr 1
    funext x
    simp
    omega
  · rw [List.drop_eq_nil_of_le h4]
    simp [qpos, h1]
theorem dec_nl : ∀ (n : Nat) (l : List UInt8), l.length ≤ n → ∀ m, dec l = some (m, []) → ∀ c ∈ l, c ≠ 10 := by
  intro n
  induction n with
  | zero =>
    intro l h m hd
    obtain rfl : l = [] := List.eq_nil_of_length_eq_zero (by omega)
    simp
  | succ n ih =>
    intro l h m hd
    match l with
    | [] => simp
    | [c] =>
      rw [dec] at hd
      by_cases h1 : c = 34
      · intro d hd2
        simp at hd2
        rw [hd2, h1]; decide
      · simp [h1] at hd
    | c :: e :: r =>
      rw [dec] at hd
      by_cases g1 : c = 34
      · simp [g1] at hd
      · rw [if_neg g1] at hd
        by_cases g2 : c = 92
        · rw [if_pos g2] at hd
          cases he : escOf e with
          | none => rw [he] at hd; simp at hd
          | some x =>
            rw [he] at hd
            simp only [Option.bind_some, Option.map_eq_some_iff, Prod.mk.injEq] at hd
            obtain ⟨⟨p1, p2⟩, hp, _, rfl⟩ := hd
            have e10 : escOf 10 = none := by decide
            have he10 : e ≠ 10 := by rintro rfl; rw [e10] at he; cases he
            intro d hd2
            simp at hd2
            rcases hd2 with rfl | rfl | hd2
            · rw [g2]; decide
            · exact he10
            · exact ih r (by simp at h; omega) _ hp d hd2
        · rw [if_neg g2] at hd
          by_cases g3 : okB c = true
          · rw [if_pos g3] at hd
            simp only [Option.map_eq_some_iff, Prod.mk.injEq] at hd
            obtain ⟨⟨p1, p2⟩, hp, _, rfl⟩ := hd
            have g4 : c ≠ 10 := by rintro rfl; revert g3; decide
            intro d hd2
            rcases List.mem_cons.1 hd2 with rfl | hd2
            · exact g4
            · exact ih (e :: r) (by simp at h ⊢; omega) _ hp d hd2
          · rw [if_neg g3] at hd; simp at hd
theorem text_no {r : List UInt8} (h : qpos r = none) : textLen (34 :: r) = 0 := by
  rw [textLen]
  cases hd : dec r with
  | none => rfl
  | some x =>
    obtain ⟨m, t⟩ := x
    obtain ⟨k, h1, _⟩ := qpos_dec _ r (Nat.le_refl _) m t hd
    rw [h] at h1
    cases h1
theorem text_yes {r : List UInt8} {k : Nat} (h : qpos r = some k) (hk : k < r.length) :
    (unq (34 :: r.take (k + 1)) = none → textLen (34 :: r) = 0) ∧ (∀ m, unq (34 :: r.take (k + 1)) = some m → textLen (34 :: r) = k + 2 ∧ ∀ c ∈ 34 :: r.take (k + 1), c ≠ 10) := by
  rw [textLen, unq, if_pos rfl]
  cases hd : dec r with
  | none =>
    have hn : ∀ m, dec (r.take (k + 1)) ≠ some (m, []) := fun m hm => by
      have := dec_more _ _ (Nat.le_refl _) m [] (r.drop (k + 1)) hm
      rw [List.take_append_drop, hd] at this
      cases this
    refine ⟨fun _ => rfl, fun m hm => ?_⟩
    split at hm
    · rename_i m' hm'
      exact absurd hm' (hn m')
    · cases hm
  | some x =>
    obtain ⟨m, t⟩ := x
    obtain ⟨k', h1, h2, h3⟩ := qpos_dec _ r (Nat.le_refl _) m t hd
    rw [h] at h1
    injection h1 with h1
    subst h1
    have hnl := dec_nl _ _ (Nat.le_refl _) m h3
    simp only [h3]
    have ht : t.length = r.length - (k + 1) := by rw [h2, List.length_drop]
    refine ⟨fun hm => ?_, fun q hm => ?_⟩
    · split at hm
      · rename_i h5; rw [if_pos h5]
      · cases hm
    · split at hm
      · cases hm
      · rename_i h5
        rw [if_neg h5]
        refine ⟨by omega, fun c hc => ?_⟩
        rcases List.mem_cons.1 hc with rfl | hc
        · decide
        · exact hnl c hc
end Go.Proofs.Ytgjhjojbaieeaaa
