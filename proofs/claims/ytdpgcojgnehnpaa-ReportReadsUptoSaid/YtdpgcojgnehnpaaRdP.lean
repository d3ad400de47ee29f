/- Plain: what a crash tells, line by line: the program's way and the document's. Conditions: none. -/
import Derived.Test.YtdpgcojgnehnpaaRead1
import Derived.Test.YtdpgcojgnehnpaaCrashP
import Derived.Test.YtdpgcojgnehnpaaCut
set_option maxRecDepth 20000
namespace Go.Proofs.Ytdpgcojgnehnpaa
open Go
def headB (i : Nat) : List UInt8 := if 0 < i then [9, 112, 97, 110, 105, 99, 58, 32] else [112, 97, 110, 105, 99, 58, 32]
def recB : List UInt8 := [32, 91, 114, 101, 99, 111, 118, 101, 114, 101, 100, 93]
/-- What stands behind a line's head. -/
def tailP (i : Nat) (t : List UInt8) : Option PP :=
  if 12 ≤ t.length ∧ t.drop (t.length - 12) = recB then
    (if (readPV ⟨(t.take (t.length - 12)).toArray⟩).2 = true then some ⟨i, (readPV ⟨(t.take (t.length - 12)).toArray⟩).1, true, false⟩ else none)
  else (if (readPV ⟨t.toArray⟩).2 = true then some ⟨i, (readPV ⟨t.toArray⟩).1, false, false⟩ else none)
def lineP (i : Nat) (p : List UInt8) : Option PP := if p.take (headB i).length = headB i then tailP i (p.drop (headB i).length) else none
def lineR (i : Nat) (p : List UInt8) : Option PP := if p.length < (headB i).length then none else tailP i (p.drop (headB i).length)
def goL (f : Nat → List UInt8 → Option PP) : Nat → List (List UInt8) → Option (List PP)
  | _, [] => some []
  | i, p :: r => (f i p).bind fun x => (goL f (i + 1) r).map (x :: ·)
/-- What is read, if it is written again so. -/
def chkL (L : List UInt8) (o : Option (List PP)) : Option (List PP) := o.bind fun l => if crashB 0 l = L then some l else none
theorem take_head {i : Nat} {p : List UInt8} (h : p.take (headB i).length = headB i) : ¬ p.length < (headB i).length := by
  intro hl
  have := congrArg List.length h
  rw [List.length_take] at this
  omega
theorem line_same {i : Nat} {p : List UInt8} (h : p.take (headB i).length = headB i) : lineP i p = lineR i p := by
  unfold lineP lineR
  rw [if_pos h, if_neg (take_head h)]
theorem go_same : ∀ (Q : List (List UInt8)) (i : Nat), (∀ (j : Nat) p, Q[j]? = some p → p.take (headB (i + j)).length = headB (i + j)) → goL lineP i Q = goL lineR i Q
  | [], _, _ => rfl
  | p :: r, i, h => by
    have h1 := line_same (h 0 p rfl)
    have h2 := go_same r (i + 1) (fun j q hq => by
      have := h (j + 1) q (by simpa using hq)
      rwa [show i + (j + 1) = i + 1 + j by omega] at this)
    rw [Nat.add_zero] at h1
    simp only [goL, h1, h2]
theorem go_head : ∀ (Q : List (List UInt8)) (i : Nat) (l : List PP), goL lineP i Q = some l → ∀ (j : Nat) p, Q[j]? = some p → p.take (headB (i + j)).length = headB (i + j)
  | [], _, _, _, j, p, hj => by simp at hj
  | q :: r, i, l, h, j, p, hj => by
    simp only [goL, Option.bind_eq_some_iff, Option.map_eq_some_iff] at h
    obtain ⟨x, hx, m, hm, rfl⟩ := h
    cases j with
    | zero =>
      simp at hj
      subst hj
      unfold lineP at hx
      by_cases hh : q.take (headB i).length = headB i
      · rw [Nat.add_zero]; exact hh
      · rw [if_neg hh] at hx; cases hx
    | succ j =>
      have := go_head r (i + 1) m hm j p (by simpa using hj)
      rwa [show i + 1 + j = i + (j + 1) by omega] at this
/-! No line's end stands in a panic's text. -/
theorem dB_no (z : Int) : (10 : UInt8) ∉ (decS z).data.toList := by
  intro h
  have e : byt (decS z) = decL z := by
    unfold decS
    exact byt_strOf (fun d hd => by rcases decL_byte z d hd with rfl | ⟨_, _⟩ <;> omega)
  have h2 : (10 : Nat) ∈ byt (decS z) := by
    unfold byt
    exact List.mem_map.2 ⟨10, h, rfl⟩
  rw [e] at h2
  rcases decL_byte z 10 h2 with h | h <;> omega
theorem qT_nl (c : UInt8) : (10 : UInt8) ∉ qT c := by
  unfold qT
  split
  · rename_i h; rcases h with rfl | rfl <;> decide
  · split
    · decide
    · split
      · decide
      · split
        · rename_i h1 h2 h3 h4; simp; exact fun e => h2 e.symm
        · decide
theorem mend_nl (c : UInt8) : mendC [] c ≠ 10 := by
  unfold mendC
  split
  · rename_i h
    rcases h with h | h
    · rintro rfl; revert h; decide
    · cases h
  · decide
theorem text_nl (v : VV) : (10 : UInt8) ∉ (textS v).data.toList := by
  unfold textS
  split
  · exact dB_no _
  · split
    · unfold inQ
      intro h
      simp only [List.mem_append, List.mem_cons, List.mem_flatMap, List.cons_append] at h
      rcases h with h | ⟨c, _, h⟩ | h | h
      · revert h; decide
      · exact qT_nl c h
      · revert h; decide
      · cases h
    · split
      · intro h
        obtain ⟨c, _, hc⟩ := List.mem_map.1 h
        exact mend_nl c hc
      · decide
/-- A line without its end. -/
def lineN (i : Nat) (p : PP) : List UInt8 := headB i ++ (textS p.v).data.toList ++ (if p.rcv = true then recB else [])
theorem lineB_N (i : Nat) (p : PP) : lineB i p = lineN i p ++ [10] := by
  unfold lineB lineN headB recB
  by_cases h : 0 < i <;> simp [h]
theorem lineN_nl (i : Nat) (p : PP) : (10 : UInt8) ∉ lineN i p := by
  unfold lineN
  intro h
  rw [List.mem_append, List.mem_append] at h
  rcases h with (h | h) | h
  · revert h; unfold headB; split <;> decide
  · exact text_nl p.v h
  · revert h; split <;> decide
theorem cutG_one {A B : List UInt8} : ∀ (A : List UInt8) (cur : List UInt8), (10 : UInt8) ∉ A → cutG 10 (A ++ 10 :: B) cur = (cur ++ A) :: cutG 10 B []
  | [], cur, _ => by simp [cutG]
  | a :: r, cur, h => by
    have h1 : a ≠ 10 := fun e => h (by simp [e])
    have h2 := cutG_one r (cur ++ [a]) (fun hm => h (List.mem_cons_of_mem _ hm)) (A := A) (B := B)
    simp only [List.cons_append, cutG, h1, if_false, h2]
    simp
def linesN : Nat → List PP → List (List UInt8)
  | _, [] => []
  | i, p :: r => lineN i p :: linesN (i + 1) r
theorem cut_crash : ∀ (l : List PP) (i : Nat), cutG 10 (crashB i l) [] = linesN i l ++ [[]]
  | [], i => by simp [crashB, cutG, linesN]
  | p :: r, i => by
    have h := cutG_one (A := []) (B := crashB (i + 1) r) (lineN i p) [] (lineN_nl i p)
    simp only [crashB, lineB_N, List.append_assoc, List.cons_append, List.nil_append] at h ⊢
    rw [h, cut_crash r (i + 1)]
    simp [linesN]
theorem lines_head : ∀ (l : List PP) (i j : Nat) p, (linesN i l)[j]? = some p → p.take (headB (i + j)).length = headB (i + j)
  | [], i, j, p, h => by simp [linesN] at h
  | q :: r, i, 0, p, h => by
    simp [linesN] at h
    subst h
    unfold lineN
    rw [Nat.add_zero, List.append_assoc, List.take_left]
  | q :: r, i, j + 1, p, h => by
    have := lines_head r (i + 1) j p (by simpa [linesN] using h)
    rwa [show i + 1 + j = i + (j + 1) by omega] at this
/-- Both ways read alike. -/
theorem read_same {L : List UInt8} {Q : List (List UInt8)} (hQ : cutG 10 L [] = Q ++ [[]]) : chkL L (goL lineP 0 Q) = chkL L (goL lineR 0 Q) := by
  by_cases h : ∀ (j : Nat) p, Q[j]? = some p → p.take (headB (0 + j)).length = headB (0 + j)
  · rw [go_same Q 0 h]
  · have h1 : goL lineP 0 Q = none := by
      cases hg : goL lineP 0 Q with
      | none => rfl
      | some l => exact absurd (go_head Q 0 l hg) h
    have h2 : chkL L (goL lineR 0 Q) = none := by
      unfold chkL
      cases hg : goL lineR 0 Q with
      | none => rfl
      | some l =>
        simp only [Option.bind_some]
        by_cases hc : crashB 0 l = L
        · exfalso
          apply h
          have h3 := cut_crash l 0
          rw [hc, hQ] at h3
          have h4 : Q = linesN 0 l := List.append_cancel_right h3
          rw [h4]
          exact fun j p hp => lines_head l 0 j p hp
        · rw [if_neg hc]
    rw [h1, h2]
    rfl
end Go.Proofs.Ytdpgcojgnehnpaa
