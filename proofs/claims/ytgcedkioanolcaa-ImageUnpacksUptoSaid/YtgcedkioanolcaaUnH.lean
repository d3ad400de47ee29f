/- The document's reader: a whole code, as it is read, in plain Lean. Conditions: none. -/
import Derived.Test.YtgcedkioanolcaaUnE
set_option maxRecDepth 20000
namespace Go.Proofs.Ytgcedkioanolcaa
open Go.ChangeShapes Go.WideShapes Go.ChangeAt Go.RowKit
def numQ (bad : Bool) (L : List Int) : Int × Bool × List Int := match numP L with | some x => (x.1, bad, x.2) | none => (0, true, L)
def cntQ (bad : Bool) (L : List Int) : Nat × Bool × List Int := ((numQ bad L).1.toNat, (numQ bad L).2)
def texQ (bad : Bool) (L : List Int) : ByteArray × Bool × List Int :=
  if (numQ bad L).2.1 = true ∨ (numQ bad L).1 < 0 ∨ ((numQ bad L).2.2.length : Int) < (numQ bad L).1 then (⟨#[]⟩, true, (numQ bad L).2.2)
  else (strOfNums ((numQ bad L).2.2.take (numQ bad L).1.toNat), false, (numQ bad L).2.2.drop (numQ bad L).1.toNat)
theorem numQ_agrees : Agrees numQ numP := by
  refine ⟨fun L => by unfold numQ; split <;> rfl, fun L => ?_⟩
  cases h : numP L with
  | none => exact .inr ⟨rfl, by unfold numQ; rw [h]⟩
  | some x => exact .inl ⟨x.1, x.2, rfl, by unfold numQ; rw [h]⟩
theorem cntQ_agrees : Agrees cntQ cntR := by
  refine ⟨fun L => numQ_agrees.1 L, fun L => ?_⟩
  rcases numQ_agrees.2 L with ⟨x, R, h1, h2⟩ | ⟨h1, h2⟩
  · unfold cntR cntQ
    rw [h1, h2]
    exact .inl ⟨_, _, rfl, rfl⟩
  · unfold cntR cntQ
    rw [h1]
    exact .inr ⟨rfl, h2⟩
theorem texQ_agrees : Agrees texQ textP := by
  refine ⟨fun L => by unfold texQ; rw [if_pos (.inl (numQ_agrees.1 L))], fun L => ?_⟩
  rcases numQ_agrees.2 L with ⟨x, R, h1, h2⟩ | ⟨h1, h2⟩
  · unfold textP cntP texQ
    rw [h1, h2]
    simp only [Option.bind_some]
    by_cases hc : x < 0 ∨ (R.length : Int) < x
    · rw [if_pos hc, if_pos (.inr hc)]
      exact .inr ⟨rfl, rfl⟩
    · rw [if_neg hc, if_neg (by simpa using hc)]
      exact .inl ⟨_, _, rfl, rfl⟩
  · unfold textP cntP texQ
    rw [h1, if_pos (.inl h2)]
    exact .inr ⟨rfl, rfl⟩
def inQ : Bool → List Int → II × Bool × List Int :=
  thn numQ fun o => thn numQ fun a => thn numQ fun b => thn numQ fun c => thn numQ fun d => thn numQ fun e => fun bad L => (⟨o, a, b, c, d, e⟩, bad, L)
def fnQ : Bool → List Int → FF × Bool × List Int :=
  thn texQ fun n => thn numQ fun p => thn numQ fun s => thn numQ fun c => thn cntQ fun k => thn (runL inQ k) fun i => fun bad L => (⟨n, p, s, c, i⟩, bad, L)
def codeQ : Bool → List Int → KK × Bool × List Int :=
  thn cntQ fun k => thn (runL texQ k) fun t => thn cntQ fun m => thn (runL fnQ m) fun f => fun bad L => (⟨f, t⟩, bad, L)
theorem inQ_agrees : Agrees inQ insP := by
  have h := thenS_agrees numQ_agrees fun o => thenS_agrees numQ_agrees fun a => thenS_agrees numQ_agrees fun b => thenS_agrees numQ_agrees fun c => thenS_agrees numQ_agrees fun d => thenS_agrees numQ_agrees fun e => doneS_agrees (⟨o, a, b, c, d, e⟩ : II)
  rw [insP_eq]
  exact h
theorem fnQ_agrees : Agrees fnQ (fnP cntR) := by
  have h := thenS_agrees texQ_agrees fun n => thenS_agrees numQ_agrees fun p => thenS_agrees numQ_agrees fun s => thenS_agrees numQ_agrees fun c => thenS_agrees cntQ_agrees fun k => thenS_agrees (runL_agrees inQ_agrees k) fun i => doneS_agrees (⟨n, p, s, c, i⟩ : FF)
  rw [fnP_eq]
  exact h
theorem codeQ_agrees : Agrees codeQ (codeP cntR) := by
  have h := thenS_agrees cntQ_agrees fun k => thenS_agrees (runL_agrees texQ_agrees k) fun t => thenS_agrees cntQ_agrees fun m => thenS_agrees (runL_agrees fnQ_agrees m) fun f => doneS_agrees (⟨f, t⟩ : KK)
  rw [codeP_eq]
  exact h
/-! ### How much is left -/
theorem numP_drop {L R : List Int} {n : Int} (h : numP L = some (n, R)) : ∃ t, t < L.length ∧ R = L.drop (t + 1) := by
  rcases numP_is L with ⟨t, ht, e⟩ | ⟨_, e⟩
  · rw [h] at e
    injection e with e
    injection e with _ e
    exact ⟨t, ht.1, e⟩
  · rw [h] at e; cases e
theorem numQ_drop (bad : Bool) (L : List Int) : ∃ k, k ≤ L.length ∧ (numQ bad L).2.2 = L.drop k ∧ ((numQ bad L).2.1 = false → 0 < k) := by
  unfold numQ
  cases h : numP L with
  | none => exact ⟨0, Nat.zero_le _, by simp, fun h => by cases h⟩
  | some x =>
    obtain ⟨t, ht, e⟩ := numP_drop (n := x.1) (R := x.2) h
    exact ⟨t + 1, ht, e, fun _ => Nat.succ_pos _⟩
theorem numQ_in {L : List Int} (hz : U8s L) (bad : Bool) : In6 (numQ bad L).1 := by
  unfold numQ
  cases h : numP L with
  | none => simp [In6]
  | some x => exact (numP_sound hz (n := x.1) (R := x.2) h).2.1
theorem numQ_le (bad : Bool) (L : List Int) : (numQ bad L).2.2.length ≤ L.length := by
  obtain ⟨k, _, e, _⟩ := numQ_drop bad L
  rw [e, List.length_drop]
  omega
theorem numQ_lt (bad : Bool) (L : List Int) (h : (numQ bad L).2.1 = false) : (numQ bad L).2.2.length < L.length := by
  obtain ⟨k, hk, e, h0⟩ := numQ_drop bad L
  have := h0 h
  rw [e, List.length_drop]
  omega
theorem texQ_le (bad : Bool) (L : List Int) : (texQ bad L).2.2.length ≤ L.length ∧ (texQ bad L).1.size ≤ L.length := by
  have := numQ_le bad L
  unfold texQ
  split
  · exact ⟨this, by simp [ByteArray.size]⟩
  · refine ⟨?_, ?_⟩
    · simp only [List.length_drop]
      omega
    · rw [strOfNums_size, List.length_take]
      omega
theorem texQ_lt (bad : Bool) (L : List Int) (h : (texQ bad L).2.1 = false) : (texQ bad L).2.2.length < L.length := by
  unfold texQ at h ⊢
  split at h
  · cases h
  · rename_i hc
    rw [if_neg hc]
    simp only [not_or, Bool.not_eq_true] at hc
    have := numQ_lt bad L hc.1
    simp only [List.length_drop]
    omega
theorem U8s.drop {L : List Int} (h : U8s L) (k : Nat) : U8s (L.drop k) := fun z hz => h z (List.mem_of_mem_drop hz)
end Go.Proofs.Ytgcedkioanolcaa
