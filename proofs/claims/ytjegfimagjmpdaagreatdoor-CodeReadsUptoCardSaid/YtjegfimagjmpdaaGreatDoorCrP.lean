/- The text of a code, read: both ways agree. Conditions: none. -/
import Derived.Test.YtjegfimagjmpdaaGreatDoorCsB
set_option maxRecDepth 100000
namespace Go.Proofs.YtjegfimagjmpdaaGreatDoor
open Go.ChangeShapes Go.WideShapes Go.ChangeAt Go.RowKit
/-- Numbers of the pieces. -/
def numsL : List (List UInt8) → Option (List Int)
  | [] => some []
  | p :: r => match rd (byt ⟨p.toArray⟩) with
    | none => none
    | some z => (numsL r).map (z :: ·)
/-- The functions, an instruction put behind the last one. -/
def addIns (fs : List FF) (x : II) : List FF := fs.dropLast ++ (fs.getLast?.map fun f => { f with ins := f.ins ++ [x] }).toList
def isTx (l : List UInt8) : Bool := decide ((cutG 32 l []).head? = some [116, 101, 120, 116] ∧ 5 < l.length)
/-- A line that is no text's. -/
def lineO (op : List UInt8 → Option Nat) (K : KK) (l : List UInt8) : Option KK :=
  match cutG 32 l [] with
  | [a, n, x, y, z] => if a = [102, 117, 110, 99] then (match numsL [x, y, z] with
      | some [p, s, c] => some { K with funcs := K.funcs ++ [⟨⟨n.toArray⟩, p, s, c, []⟩] }
      | _ => none) else none
  | [a, b, o, x1, x2, x3, x4, x5] => if a = [] ∧ b = [] ∧ K.funcs ≠ [] then (match op o, numsL [x1, x2, x3, x4, x5] with
      | some k, some [z1, z2, z3, z4, z5] => some { K with funcs := addIns K.funcs ⟨(k : Int), z1, z2, z3, z4, z5⟩ }
      | _, _ => none) else none
  | _ => none
/-- A line; st: does a text behind a function end it? -/
def lineC (op : List UInt8 → Option Nat) (st : Bool) (K : KK) (l : List UInt8) : Option KK :=
  if isTx l = true then (match unq (l.drop 5) with
    | none => none
    | some q => if st = true ∧ K.funcs ≠ [] then none else some { K with texts := K.texts ++ [⟨q.toArray⟩] })
  else lineO op K l
def foldC (op : List UInt8 → Option Nat) (st : Bool) : KK → List (List UInt8) → Option KK
  | K, [] => some K
  | K, l :: r => (lineC op st K l).bind fun K' => foldC op st K' r
theorem line_le {op : List UInt8 → Option Nat} {K K' : KK} {l : List UInt8} (h : lineC op true K l = some K') : lineC op false K l = some K' := by
  unfold lineC at h ⊢
  split at h
  · rename_i ht
    rw [if_pos ht]
    cases hu : unq (l.drop 5) with
    | none => rw [hu] at h; cases h
    | some q =>
      rw [hu] at h
      simp only [true_and] at h
      split at h
      · cases h
      · simpa using h
  · rename_i ht
    rw [if_neg ht]
    exact h
theorem fold_le {op : List UInt8 → Option Nat} : ∀ (Q : List (List UInt8)) (K K' : KK), foldC op true K Q = some K' → foldC op false K Q = some K'
  | [], _, _, h => h
  | l :: r, K, K', h => by
    unfold foldC at h ⊢
    cases hl : lineC op true K l with
    | none => rw [hl] at h; cases h
    | some K1 =>
      rw [hl] at h
      rw [line_le hl]
      exact fold_le r K1 K' h
theorem line_tx {op : List UInt8 → Option Nat} {K : KK} {l : List UInt8} (hf : K.funcs = []) (ht : isTx l = true) : lineC op true K l = lineC op false K l ∧ ∀ K', lineC op false K l = some K' → K'.funcs = [] := by
  unfold lineC
  rw [if_pos ht, if_pos ht]
  cases hu : unq (l.drop 5) with
  | none => exact ⟨rfl, fun _ h => by cases h⟩
  | some q =>
    refine ⟨by simp [hf], fun K' h => ?_⟩
    simp at h
    rw [← h]
    exact hf
theorem line_no {op : List UInt8 → Option Nat} {K : KK} {l : List UInt8} (ht : isTx l = false) : lineC op true K l = lineC op false K l := by
  unfold lineC
  rw [if_neg (by rw [ht]; decide), if_neg (by rw [ht]; decide)]
/-- Texts first, then what is none: both ways read alike. -/
theorem fold_same {op : List UInt8 → Option Nat} (Q2 : List (List UInt8)) (h2 : ∀ l ∈ Q2, isTx l = false) : ∀ (Q1 : List (List UInt8)) (_ : ∀ l ∈ Q1, isTx l = true) (K : KK) (_ : K.funcs = []), foldC op true K (Q1 ++ Q2) = foldC op false K (Q1 ++ Q2)
  | [], _, K, _ => by
    have key : ∀ (Q : List (List UInt8)) (_ : ∀ l ∈ Q, isTx l = false) (K : KK), foldC op true K Q = foldC op false K Q := by
      intro Q
      induction Q with
      | nil => intro _ K; rfl
      | cons l r ih =>
        intro h K
        unfold foldC
        rw [line_no (h l (by simp))]
        congr 1
        funext K'
        exact ih (fun x hx => h x (by simp [hx])) K'
    exact key Q2 h2 K
  | l :: r, h1, K, hf => by
    have hl := line_tx (op := op) hf (h1 l (by simp))
    rw [List.cons_append]
    unfold foldC
    rw [hl.1]
    cases hk : lineC op false K l with
    | none => rfl
    | some K1 => exact fold_same Q2 h2 r (fun x hx => h1 x (by simp [hx])) K1 (hl.2 K1 hk)
theorem tx_line {q : List UInt8} (h : q ≠ []) : isTx ([116, 101, 120, 116, 32] ++ q) = true := by
  cases q with
  | nil => exact absurd rfl h
  | cons c r =>
    unfold isTx
    simp [cutG]
theorem fn_line (q : List UInt8) : isTx ([102, 117, 110, 99, 32] ++ q) = false := by
  unfold isTx
  simp [cutG]
theorem in_line (q : List UInt8) : isTx ([32, 32] ++ q) = false := by
  unfold isTx
  simp [cutG]
/-- The pieces between line ends, of lines that hold none. -/
theorem cut_lines : ∀ (Q : List (List UInt8)), (∀ l ∈ Q, (10 : UInt8) ∉ l) → cutG 10 (Q.flatMap fun l => l ++ [10]) [] = Q ++ [[]]
  | [], _ => rfl
  | l :: r, h => by
    have one : ∀ (A cur B : List UInt8), (10 : UInt8) ∉ A → cutG 10 (A ++ 10 :: B) cur = (cur ++ A) :: cutG 10 B [] := by
      intro A
      induction A with
      | nil => intro cur B _; simp [cutG]
      | cons c A ih =>
        intro cur B hA
        have hc : c ≠ 10 := fun e => hA (by rw [e]; simp)
        have h2 := ih (cur ++ [c]) B (fun e => hA (by simp [e]))
        rw [List.cons_append]
        simp only [cutG, hc, if_false]
        rw [h2]
        simp
    rw [List.flatMap_cons, List.append_assoc]
    have := one l [] (r.flatMap fun l => l ++ [10]) (h l (by simp))
    rw [show [(10 : UInt8)] ++ (r.flatMap fun l => l ++ [10]) = 10 :: (r.flatMap fun l => l ++ [10]) from rfl, this, cut_lines r (fun x hx => h x (by simp [hx]))]
    rfl
/-- The lines of a code's text. -/
def linK (K : KK) : List (List UInt8) := (K.texts.map fun s => [116, 101, 120, 116, 32] ++ (quoT s).data.toList) ++ K.funcs.flatMap fun f => ([102, 117, 110, 99, 32] ++ f.name.data.toList ++ blL [f.params, f.slots, f.caps]) :: f.ins.map fun i => [32, 32] ++ wordL i.o.toNat ++ blL [i.a, i.b, i.c, i.d, i.e]
theorem show_lines (K : KK) : showC K = (linK K).flatMap fun l => l ++ [10] := by
  unfold showC showF showT linK
  rw [List.take_length, List.take_length, List.flatMap_append, List.flatMap_map, List.flatMap_assoc]
  congr 1
  congr 1
  funext f
  unfold fnS fnH
  rw [List.flatMap_cons, List.flatMap_map]
  rfl
/-- The first lines of a code's text are texts, the others none. -/
theorem lines_two (op : List UInt8 → Option Nat) (K : KK) (hq : ∀ s ∈ K.texts, (quoT s).data.toList ≠ []) : foldC op true ⟨[], []⟩ (linK K) = foldC op false ⟨[], []⟩ (linK K) := by
  unfold linK
  refine fold_same _ (fun l hl => ?_) _ (fun l hl => ?_) _ rfl
  · obtain ⟨f, hf, hl⟩ := List.mem_flatMap.1 hl
    rcases List.mem_cons.1 hl with rfl | hl
    · rw [List.append_assoc]
      exact fn_line _
    · obtain ⟨i, hi, rfl⟩ := List.mem_map.1 hl
      rw [List.append_assoc]
      exact in_line _
  · obtain ⟨s, hs, rfl⟩ := List.mem_map.1 hl
    exact tx_line (hq s hs)
/-- What is read, shown again and compared. -/
def chkC (s : List UInt8) (o : Option KK) : Option KK := o.bind fun K => if (soundV K).1 = 0 ∧ showC K = s then some K else none
/-- Both ways of reading agree. Conditions: of a sound code no line holds a line end, and no text is quoted as nothing. -/
theorem readC_same (op : List UInt8 → Option Nat) {s : List UInt8} {Q : List (List UInt8)} (hQ : cutG 10 s [] = Q ++ [[]]) (hnl : ∀ K, (soundV K).1 = 0 → (∀ l ∈ linK K, (10 : UInt8) ∉ l) ∧ ∀ t ∈ K.texts, (quoT t).data.toList ≠ []) : chkC s (foldC op true ⟨[], []⟩ Q) = chkC s (foldC op false ⟨[], []⟩ Q) := by
  cases h : foldC op false ⟨[], []⟩ Q with
  | none =>
    cases h2 : foldC op true ⟨[], []⟩ Q with
    | none => rfl
    | some K => rw [fold_le Q _ _ h2] at h; cases h
  | some K =>
    by_cases hs : (soundV K).1 = 0 ∧ showC K = s
    · have h3 := cut_lines (linK K) (hnl K hs.1).1
      rw [← show_lines, hs.2, hQ] at h3
      have h4 : Q = linK K := List.append_cancel_right h3
      rw [h4, lines_two op K (hnl K hs.1).2, ← h4, h]
    · have e : chkC s (some K) = none := by
        show (if _ then _ else _) = _
        rw [if_neg hs]
      rw [e]
      cases h2 : foldC op true ⟨[], []⟩ Q with
      | none => rfl
      | some K' =>
        rw [fold_le Q _ _ h2] at h
        injection h with h
        subst h
        exact e
end Go.Proofs.YtjegfimagjmpdaaGreatDoor
