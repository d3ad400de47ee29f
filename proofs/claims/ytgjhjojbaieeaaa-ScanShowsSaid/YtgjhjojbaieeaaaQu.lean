/- Plain: quoted texts, as lists of bytes. Conditions: none. -/
import Derived.WalkKit
namespace Go.Proofs.Ytgjhjojbaieeaaa
open Go
/-- Can a byte be written as it is? -/
def okB (c : UInt8) : Bool := decide (32 ≤ c.toNat) && decide (c.toNat ≤ 126)
/-- What a backslash and a byte say. -/
def escOf (c : UInt8) : Option UInt8 := if c = 110 then some 10 else if c = 116 then some 9 else if c = 34 then some 34 else if c = 92 then some 92 else none
/-- What a quoted text says, from behind the first quote on, and what stands behind the last one. -/
def dec : List UInt8 → Option (List UInt8 × List UInt8)
  | [] => none
  | [c] => if c = 34 then some ([], []) else none
  | c :: e :: r => if c = 34 then some ([], e :: r) else if c = 92 then (escOf e).bind fun x => (dec r).map fun p => (x :: p.1, p.2) else if okB c = true then (dec (e :: r)).map fun p => (c :: p.1, p.2) else none
/-- What stands between the quotes, read whole. -/
def decAll : List UInt8 → Option (List UInt8)
  | [] => some []
  | [c] => if c = 34 ∨ c = 92 then none else if okB c = true then some [c] else none
  | c :: e :: r => if c = 34 then none else if c = 92 then (escOf e).bind fun x => (decAll r).map (x :: ·) else if okB c = true then (decAll (e :: r)).map (c :: ·) else none
theorem dec_in : ∀ (n : Nat) (l : List UInt8), l.length ≤ n → ∀ m, dec (l ++ [34]) = some (m, []) ↔ decAll l = some m := by
  intro n
  induction n with
  | zero =>
    intro l h m
    obtain rfl : l = [] := List.eq_nil_of_length_eq_zero (by omega)
    simp [dec, decAll]
  | succ n ih =>
    intro l h m
    match l with
    | [] => simp [dec, decAll]
    | [c] =>
      have e0 : escOf 34 = some 34 := by decide
      simp only [List.cons_append, List.nil_append, dec, decAll, e0]
      by_cases h1 : c = 34
      · simp [h1]
      · by_cases h2 : c = 92
        · simp [h2]
        · by_cases h3 : okB c = true
          · simp [h1, h2, h3]
          · simp [h1, h2, h3]
    | c :: e :: r =>
      have h1 := ih r (by simp at h; omega)
      have h2 := ih (e :: r) (by simp at h ⊢; omega)
      have e1 : dec (c :: e :: r ++ [34]) = if c = 34 then some ([], e :: r ++ [34]) else if c = 92 then (escOf e).bind fun x => (dec (r ++ [34])).map fun p => (x :: p.1, p.2) else if okB c = true then (dec (e :: r ++ [34])).map fun p => (c :: p.1, p.2) else none := by
        simp only [List.cons_append]; rw [dec]
      rw [e1, decAll]
      by_cases g1 : c = 34
      · simp [g1]
      · rw [if_neg g1, if_neg g1]
        by_cases g2 : c = 92
        · rw [if_pos g2, if_pos g2]
          cases escOf e with
          | none => simp
          | some x =>
            simp only [Option.bind_some, Option.map_eq_some_iff]
            constructor
            · rintro ⟨⟨a, b⟩, ha, hb⟩
              simp only [Prod.mk.injEq] at hb
              obtain ⟨rfl, rfl⟩ := hb
              exact ⟨a, (h1 a).1 ha, rfl⟩
            · rintro ⟨a, ha, rfl⟩
              exact ⟨(a, []), (h1 a).2 ha, rfl⟩
        · rw [if_neg g2, if_neg g2]
          by_cases g3 : okB c = true
          · rw [if_pos g3, if_pos g3]
            simp only [Option.map_eq_some_iff]
            constructor
            · rintro ⟨⟨a, b⟩, ha, hb⟩
              simp only [Prod.mk.injEq] at hb
              obtain ⟨rfl, rfl⟩ := hb
              exact ⟨a, (h2 a).1 ha, rfl⟩
            · rintro ⟨a, ha, rfl⟩
              exact ⟨(a, []), (h2 a).2 ha, rfl⟩
          · rw [if_neg g3, if_neg g3]; simp
theorem dec_last : ∀ (n : Nat) (l : List UInt8), l.length ≤ n → ∀ m, dec l = some (m, []) → ∃ a, l = a ++ [34] := by
  intro n
  induction n with
  | zero =>
    intro l h m hd
    obtain rfl : l = [] := List.eq_nil_of_length_eq_zero (by omega)
    simp [dec] at hd
  | succ n ih =>
    intro l h m hd
    match l with
    | [] => simp [dec] at hd
    | [c] =>
      rw [dec] at hd
      by_cases h1 : c = 34
      · exact ⟨[], by simp [h1]⟩
      · simp [h1] at hd
    | c :: e :: r =>
      rw [dec] at hd
      by_cases g1 : c = 34
      · simp [g1] at hd
      · rw [if_neg g1] at hd
        by_cases g2 : c = 92
        · rw [if_pos g2] at hd
          cases he : escOf e with
          | none => rw [he] at hd; simp at hd
          | some x =>
            rw [he] at hd
            simp only [Option.bind_some, Option.map_eq_some_iff, Prod.mk.injEq] at hd
            obtain ⟨⟨p1, p2⟩, hp, _, rfl⟩ := hd
            obtain ⟨a, rfl⟩ := ih r (by simp at h; omega) _ hp
            exact ⟨c :: e :: a, by simp⟩
        · rw [if_neg g2] at hd
          by_cases g3 : okB c = true
          · rw [if_pos g3] at hd
            simp only [Option.map_eq_some_iff, Prod.mk.injEq] at hd
            obtain ⟨⟨p1, p2⟩, hp, _, rfl⟩ := hd
            obtain ⟨a, ha⟩ := ih (e :: r) (by simp at h ⊢; omega) _ hp
            exact ⟨c :: a, by rw [ha]; simp⟩
          · rw [if_neg g3] at hd; simp at hd
theorem dec_len : ∀ (n : Nat) (l : List UInt8), l.length ≤ n → ∀ m t, dec l = some (m, t) → m.length + t.length < l.length := by
  intro n
  induction n with
  | zero =>
    intro l h m t hd
    obtain rfl : l = [] := List.eq_nil_of_length_eq_zero (by omega)
    simp [dec] at hd
  | succ n ih =>
    intro l h m t hd
    match l with
    | [] => simp [dec] at hd
    | [c] =>
      rw [dec] at hd
      by_cases h1 : c = 34
      · simp [h1] at hd; obtain ⟨rfl, rfl⟩ := hd; simp
      · simp [h1] at hd
    | c :: e :: r =>
      rw [dec] at hd
      by_cases g1 : c = 34
      · simp [g1] at hd; obtain ⟨rfl, rfl⟩ := hd; simp
      · rw [if_neg g1] at hd
        by_cases g2 : c = 92
        · rw [if_pos g2] at hd
          cases he : escOf e with
          | none => rw [he] at hd; simp at hd
          | some x =>
            rw [he] at hd
            simp only [Option.bind_some, Option.map_eq_some_iff, Prod.mk.injEq] at hd
            obtain ⟨⟨p1, p2⟩, hp, rfl, rfl⟩ := hd
            have := ih r (by simp at h; omega) _ _ hp
            simp; omega
        · rw [if_neg g2] at hd
          by_cases g3 : okB c = true
          · rw [if_pos g3] at hd
            simp only [Option.map_eq_some_iff, Prod.mk.injEq] at hd
            obtain ⟨⟨p1, p2⟩, hp, rfl, rfl⟩ := hd
            have := ih (e :: r) (by simp at h ⊢; omega) _ _ hp
            simp at *; omega
          · rw [if_neg g3] at hd; simp at hd
/-- What is gathered, ahead of what is still to be read. -/
def ahead (out : List UInt8) (p : Option (List UInt8 × List UInt8)) : Option (List UInt8 × List UInt8) := p.map fun q => (out ++ q.1, q.2)
theorem ahead_nil (p : Option (List UInt8 × List UInt8)) : ahead [] p = p := by cases p <;> simp [ahead]
/-- How many bytes a quoted text has at the begin of a list; 0: it is wrong. -/
def textLen : List UInt8 → Nat
  | [] => 0
  | _ :: r => match dec r with
    | none => 0
    | some (m, t) => if 200 < m.length then 0 else 1 + r.length - t.length
/-- What a quoted text says. -/
def unq : List UInt8 → Option (List UInt8)
  | [] => none
  | c :: r => if c = 34 then match dec r with
    | some (m, []) => if 200 < m.length then none else some m
    | _ => none else none
/-- A byte in quotes. -/
def quoC (c : UInt8) : Option (List UInt8) := if c = 34 ∨ c = 92 then some [92, c] else if c = 10 then some [92, 110] else if c = 9 then some [92, 116] else if okB c = true then some [c] else none
/-- Bytes in quotes, without the quotes. -/
def quoL : List UInt8 → Option (List UInt8)
  | [] => some []
  | c :: r => (quoC c).bind fun a => (quoL r).map (a ++ ·)
theorem quoL_app (l m : List UInt8) : quoL (l ++ m) = (quoL l).bind fun a => (quoL m).map (a ++ ·) := by
  induction l with
  | nil => simp [quoL]
  | cons c r ih =>
    simp only [List.cons_append, quoL, ih]
    cases quoC c with
    | none => simp
    | some a =>
      cases quoL r with
      | none => simp
      | some b => cases quoL m <;> simp
theorem quoL_snoc (l : List UInt8) (c : UInt8) : quoL (l ++ [c]) = (quoL l).bind fun a => (quoC c).map (a ++ ·) := by
  rw [quoL_app]
  simp only [quoL]
  cases quoC c <;> simp
theorem quoC_len {c : UInt8} {a : List UInt8} (h : quoC c = some a) : a.length ≤ 2 := by
  unfold quoC at h
  split at h
  · simp at h; subst h; simp
  · split at h
    · simp at h; subst h; simp
    · split at h
      · simp at h; subst h; simp
      · split at h
        · simp at h; subst h; simp
        · cases h
theorem quoL_len : ∀ {l a : List UInt8}, quoL l = some a → a.length ≤ 2 * l.length
  | [], a, h => by simp [quoL] at h; subst h; simp
  | c :: r, a, h => by
    simp only [quoL, Option.bind_eq_some_iff, Option.map_eq_some_iff] at h
    obtain ⟨b, hb, d, hd, rfl⟩ := h
    have := quoC_len hb
    have := quoL_len hd
    simp; omega
end Go.Proofs.Ytgjhjojbaieeaaa
