/- Plain: run-time errors read back from their texts. Conditions: none. -/
import Derived.Test.YtgjhjojbaieeaaaDoorFText
import Derived.Test.YtgjhjojbaieeaaaDoorRead
set_option maxRecDepth 20000
namespace Go.Proofs.YtgjhjojbaieeaaaDoor
open Go
def isM (c : UInt8) : Bool := decide (c = 45) || (decide (48 ≤ c.toNat) && decide (c.toNat ≤ 57))
/-- A number's text. -/
def dl (n : Int) : List UInt8 := (decS n).data.toList
def rdB (l : List UInt8) : Option Int := rd (l.map UInt8.toNat)
/-- How many minuses and digits stand at the begin. -/
def mlen (l : List UInt8) : Nat := (l.takeWhile isM).length
theorem dl_map (n : Int) : (dl n).map UInt8.toNat = byt (decS n) := rfl
theorem decL_char (n : Int) : ∀ d ∈ decL n, d = 45 ∨ (48 ≤ d ∧ d ≤ 57) := by
  have h : ∀ d ∈ dd n.natAbs, 48 ≤ d ∧ d ≤ 57 := by
    intro d hd
    have := List.all_eq_true.1 (digs_dd n.natAbs) d hd
    simpa using this
  intro d hd
  unfold decL at hd
  split at hd
  · rcases List.mem_cons.1 hd with rfl | hd
    · exact .inl rfl
    · exact .inr (h d hd)
  · exact .inr (h d hd)
theorem byt_decS (n : Int) : byt (decS n) = decL n := byt_strOf fun d hd => by rcases decL_char n d hd with h | h <;> omega
theorem dl_md (n : Int) : ∀ c ∈ dl n, isM c = true := by
  intro c hc
  have h : c.toNat ∈ decL n := by
    rw [← byt_decS, ← dl_map]
    exact List.mem_map_of_mem hc
  unfold isM
  rcases decL_char n _ h with h | h
  · have : c = 45 := UInt8.toNat_inj.1 h
    simp [this]
  · simp [h]
theorem dl_ne (n : Int) : dl n ≠ [] := by
  intro h
  have h2 := byt_decS n
  rw [← dl_map, h] at h2
  have h3 := parse_decL n
  rw [← h2] at h3
  revert h3
  simp [parse, sgn]
theorem rdB_dl {n : Int} (h : inI n) : rdB (dl n) = some n := by
  unfold rdB
  rw [dl_map, byt_decS]
  exact rd_some.2 ⟨rfl, h⟩
theorem rdB_some {l : List UInt8} {n : Int} (h : rdB l = some n) : l = dl n ∧ inI n := by
  obtain ⟨h1, h2⟩ := rd_some.1 h
  refine ⟨?_, h2⟩
  have h3 : l.map UInt8.toNat = (dl n).map UInt8.toNat := by rw [dl_map, byt_decS]; exact h1.symm
  exact List.map_inj_right (fun a b h => UInt8.toNat_inj.1 h) |>.1 h3
theorem rdB_nil : rdB [] = none := by
  cases h : rdB [] with
  | none => rfl
  | some n => exact absurd (rdB_some h).1.symm (dl_ne n)
/-- Does no number go on here? -/
def stopM (l : List UInt8) : Prop := ∀ c r, l = c :: r → isM c = false
theorem mlen_app {a b : List UInt8} (ha : ∀ c ∈ a, isM c = true) (hb : stopM b) : mlen (a ++ b) = a.length := by
  unfold mlen
  induction a with
  | nil =>
    cases b with
    | nil => rfl
    | cons c r => rw [List.nil_append, List.takeWhile_cons_of_neg (by rw [hb c r rfl]; decide)]
  | cons c r ih =>
    rw [List.cons_append, List.takeWhile_cons_of_pos (ha c List.mem_cons_self), List.length_cons, ih fun d hd => ha d (List.mem_cons_of_mem _ hd)]
    rfl
/-! ### texts with numbers in them -/
def strip : List UInt8 → List UInt8 → Option (List UInt8)
  | [], s => some s
  | _ :: _, [] => none
  | c :: p, d :: s => if c = d then strip p s else none
theorem strip_some : ∀ {p s t : List UInt8}, strip p s = some t ↔ s = p ++ t
  | [], s, t => by simp [strip]
  | c :: p, [], t => by simp [strip]
  | c :: p, d :: s, t => by
    rw [strip]
    split
    · rename_i h
      rw [strip_some, h]
      simp
    · rename_i h
      simp [Ne.symm h]
theorem strip_app (p q s : List UInt8) : strip (p ++ q) (p ++ s) = strip q s := by
  induction p with
  | nil => rfl
  | cons c p ih => rw [List.cons_append, List.cons_append, strip, if_pos rfl, ih]
theorem strip_self (p s : List UInt8) : strip p (p ++ s) = some s := strip_some.2 rfl
theorem strip_take (p s : List UInt8) : strip p s = if s.take p.length = p then some (s.drop p.length) else none := by
  split
  · rename_i h
    rw [strip_some]
    conv => lhs; rw [← List.take_append_drop p.length s]
    rw [h]
  · rename_i h
    cases hs : strip p s with
    | none => rfl
    | some t => exact absurd (by rw [strip_some.1 hs]; simp) h
/-- Pieces, a number ahead of each. -/
def numGo : List (List UInt8) → List UInt8 → List Int → Option (List Int)
  | [], s, acc => if s = [] then some acc else none
  | p :: ps, s, acc => match rdB (s.take (mlen s)) with
    | none => none
    | some v => match strip p (s.drop (mlen s)) with
      | none => none
      | some t => numGo ps t (acc ++ [v])
def numP : List (List UInt8) → List UInt8 → Option (List Int)
  | [], _ => none
  | p :: ps, s => match strip p s with
    | none => none
    | some t => numGo ps t []
theorem numGo_dl {p : List UInt8} {ps : List (List UInt8)} {n : Int} {r : List UInt8} {acc : List Int} (h : inI n) (hr : stopM r) : numGo (p :: ps) (dl n ++ r) acc = match strip p r with | none => none | some t => numGo ps t (acc ++ [n]) := by
  rw [numGo, mlen_app (dl_md n) hr, List.take_left, List.drop_left, rdB_dl h]
theorem numGo_stop {p : List UInt8} {ps : List (List UInt8)} {r : List UInt8} {acc : List Int} (hr : stopM r) : numGo (p :: ps) r acc = none := by
  have h := mlen_app (a := []) (by simp) hr
  rw [List.nil_append] at h
  rw [numGo, h]
  simp [rdB_nil]
theorem numGo_inv {p : List UInt8} {ps : List (List UInt8)} {s : List UInt8} {acc l : List Int} (h : numGo (p :: ps) s acc = some l) : ∃ v t, inI v ∧ s = dl v ++ (p ++ t) ∧ numGo ps t (acc ++ [v]) = some l := by
  rw [numGo] at h
  split at h
  · cases h
  · rename_i v hv
    split at h
    · cases h
    · rename_i t ht
      obtain ⟨h1, h2⟩ := rdB_some hv
      refine ⟨v, t, h2, ?_, h⟩
      rw [← h1, ← strip_some.1 ht, List.take_append_drop]
theorem numP_inv {p : List UInt8} {ps : List (List UInt8)} {s : List UInt8} {l : List Int} (h : numP (p :: ps) s = some l) : ∃ t, s = p ++ t ∧ numGo ps t [] = some l := by
  rw [numP] at h
  split at h
  · cases h
  · rename_i t ht
    exact ⟨t, strip_some.1 ht, h⟩
theorem numGo_nil {s : List UInt8} {acc l : List Int} (h : numGo [] s acc = some l) : s = [] ∧ l = acc := by
  rw [numGo] at h
  split at h
  · rename_i hs
    injection h with h
    exact ⟨hs, h.symm⟩
  · cases h
theorem stopM_nil : stopM [] := fun c r h => by cases h
theorem stopM_cons {c : UInt8} {r : List UInt8} (h : isM c = false) : stopM (c :: r) := fun d q e => by injection e with e1 _; subst e1; exact h
/-! ### all numbers of a text -/
def insideP (l : List UInt8) : List Int :=
  match l with
  | [] => []
  | c :: r => if isM c = true then (rdB ((c :: r).take (mlen (c :: r)))).getD 0 :: insideP ((c :: r).drop (mlen (c :: r) + 1)) else insideP r
termination_by l.length
decreasing_by
  · simp
    omega
  · simp
theorem inside_skip : ∀ {p s : List UInt8}, (∀ c ∈ p, isM c = false) → insideP (p ++ s) = insideP s
  | [], s, _ => rfl
  | c :: p, s, h => by
    rw [List.cons_append, insideP, if_neg (by rw [h c List.mem_cons_self]; decide), inside_skip fun d hd => h d (List.mem_cons_of_mem _ hd)]
theorem inside_nil : insideP [] = [] := by rw [insideP]
theorem inside_at {l : List UInt8} {c : UInt8} (hl : l.head? = some c) (hc : isM c = true) : insideP l = (rdB (l.take (mlen l))).getD 0 :: insideP (l.drop (mlen l + 1)) := by
  cases l with
  | nil => cases hl
  | cons d r =>
    injection hl with hl
    subst hl
    rw [insideP, if_pos hc]
theorem inside_no {l : List UInt8} {c : UInt8} (hl : l.head? = some c) (hc : isM c = false) : insideP l = insideP (l.drop 1) := by
  cases l with
  | nil => cases hl
  | cons d r =>
    injection hl with hl
    subst hl
    rw [insideP, if_neg (by rw [hc]; decide)]
    rfl
theorem inside_dl {n : Int} {r : List UInt8} (h : inI n) (hr : stopM r) : insideP (dl n ++ r) = n :: insideP (r.drop 1) := by
  obtain ⟨c, q, hd⟩ : ∃ c q, dl n = c :: q := by
    cases hx : dl n with
    | nil => exact absurd hx (dl_ne n)
    | cons c q => exact ⟨c, q, rfl⟩
  rw [inside_at (c := c) (by rw [hd]; rfl) (dl_md n c (by rw [hd]; simp)), mlen_app (dl_md n) hr, List.take_left, rdB_dl h]
  rw [← List.drop_drop, List.drop_left]
  rfl
theorem inside_in : ∀ (n : Nat) (l : List UInt8), l.length ≤ n → ∀ x ∈ insideP l, inI x
  | 0, l, hl => by
    have : l = [] := List.length_eq_zero_iff.1 (by omega)
    subst this
    rw [inside_nil]
    intro x hx
    cases hx
  | n + 1, [], _ => by
    rw [inside_nil]
    intro x hx
    cases hx
  | n + 1, c :: r, hl => by
    intro x hx
    cases hc : isM c with
    | true =>
      rw [inside_at (c := c) rfl hc] at hx
      rcases List.mem_cons.1 hx with rfl | hx
      · cases hr : rdB ((c :: r).take (mlen (c :: r))) with
        | none => simp [inI]
        | some v => exact (rdB_some hr).2
      · refine inside_in n _ ?_ x hx
        simp at hl ⊢
        omega
    | false =>
      rw [inside_no (c := c) rfl hc] at hx
      exact inside_in n _ (by simpa using hl) x hx
end Go.Proofs.YtgjhjojbaieeaaaDoor
