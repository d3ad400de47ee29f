/- image's reader: a whole code, as it is read, in plain Lean. Conditions: none. -/
import Derived.Test.YtgcedkioanolcaaUnC
set_option maxRecDepth 20000
namespace Go.Proofs.Ytgcedkioanolcaa
open Go.ChangeShapes Go.WideShapes Go.ChangeAt Go.RowKit
/-- A loop that reads till all is read or something is wrong. -/
def runL {α : Type} (p : Bool → List Int → α × Bool × List Int) : Nat → Bool → List Int → List α × Bool × List Int
  | 0, bad, L => ([], bad, L)
  | _ + 1, true, L => ([], true, L)
  | n + 1, false, L => ((p false L).1 :: (runL p n (p false L).2.1 (p false L).2.2).1, (runL p n (p false L).2.1 (p false L).2.2).2)
theorem runL_bad {α : Type} (p : Bool → List Int → α × Bool × List Int) (n : Nat) (L : List Int) : runL p n true L = ([], true, L) := by cases n <;> rfl
/-- One read, then another. -/
def thenS {α γ : Type} (p : Bool → List Int → α × Bool × List Int) (q : α → Bool → List Int → γ × Bool × List Int) (bad : Bool) (L : List Int) : γ × Bool × List Int := q (p bad L).1 (p bad L).2.1 (p bad L).2.2
/-- What reads and may fall, and what reads and remembers that it fell, agree. -/
def Agrees {α : Type} (p : Bool → List Int → α × Bool × List Int) (q : List Int → Option (α × List Int)) : Prop :=
  (∀ L, (p true L).2.1 = true) ∧ ∀ L, (∃ x R, q L = some (x, R) ∧ p false L = (x, false, R)) ∨ (q L = none ∧ (p false L).2.1 = true)
theorem numS_agrees : Agrees numS numP := by
  refine ⟨fun L => rfl, fun L => ?_⟩
  cases h : numP L with
  | none => exact .inr ⟨rfl, by unfold numS; rw [h]; rfl⟩
  | some x => exact .inl ⟨x.1, x.2, rfl, by unfold numS; rw [h]; rfl⟩
theorem cntS_agrees : Agrees cntS cntP := by
  refine ⟨fun L => by unfold cntS; split <;> rfl, fun L => ?_⟩
  rcases numS_agrees.2 L with ⟨x, R, h1, h2⟩ | ⟨h1, h2⟩
  · unfold cntP cntS
    rw [h1, h2]
    simp only [Option.bind_some]
    by_cases hc : x < 0 ∨ (R.length : Int) < x
    · rw [if_pos hc, if_pos hc]
      exact .inr ⟨rfl, rfl⟩
    · rw [if_neg hc, if_neg hc]
      exact .inl ⟨_, _, rfl, rfl⟩
  · unfold cntP cntS
    rw [h1]
    refine .inr ⟨rfl, ?_⟩
    split
    · rfl
    · exact h2
theorem texS_agrees : Agrees texS textP := by
  refine ⟨fun L => cntS_agrees.1 L, fun L => ?_⟩
  rcases cntS_agrees.2 L with ⟨x, R, h1, h2⟩ | ⟨h1, h2⟩
  · unfold textP texS
    rw [h1, h2]
    exact .inl ⟨_, _, rfl, rfl⟩
  · unfold textP texS
    rw [h1]
    exact .inr ⟨rfl, h2⟩
theorem runL_agrees {α : Type} {p : Bool → List Int → α × Bool × List Int} {q : List Int → Option (α × List Int)} (h : Agrees p q) (n : Nat) : Agrees (runL p n) (listP q n) := by
  refine ⟨fun L => by rw [runL_bad], ?_⟩
  induction n with
  | zero => exact fun L => .inl ⟨[], L, rfl, rfl⟩
  | succ n ih =>
    intro L
    unfold listP runL
    rcases h.2 L with ⟨x, R, h1, h2⟩ | ⟨h1, h2⟩
    · rw [h1, h2]
      simp only [Option.bind_some]
      rcases ih R with ⟨xs, S, h3, h4⟩ | ⟨h3, h4⟩
      · rw [h3, h4]
        exact .inl ⟨x :: xs, S, rfl, rfl⟩
      · rw [h3]
        exact .inr ⟨rfl, h4⟩
    · rw [h1]
      refine .inr ⟨rfl, ?_⟩
      rw [h2, runL_bad]
theorem thenS_agrees {α γ : Type} {p : Bool → List Int → α × Bool × List Int} {q : List Int → Option (α × List Int)} {r : α → Bool → List Int → γ × Bool × List Int} {s : α → List Int → Option (γ × List Int)} (h : Agrees p q) (k : ∀ x, Agrees (r x) (s x)) :
    Agrees (thenS p r) (fun L => (q L).bind fun x => s x.1 x.2) := by
  refine ⟨fun L => ?_, fun L => ?_⟩
  · unfold thenS
    rw [h.1 L]
    exact (k _).1 _
  · unfold thenS
    show (∃ x R, (q L).bind (fun x => s x.1 x.2) = some (x, R) ∧ r (p false L).1 (p false L).2.1 (p false L).2.2 = (x, false, R)) ∨ ((q L).bind (fun x => s x.1 x.2) = none ∧ (r (p false L).1 (p false L).2.1 (p false L).2.2).2.1 = true)
    rcases h.2 L with ⟨x, R, h1, h2⟩ | ⟨h1, h2⟩
    · rw [h1, h2]
      exact (k x).2 R
    · rw [h1, h2]
      exact .inr ⟨rfl, (k _).1 _⟩
theorem doneS_agrees {α : Type} (x : α) : Agrees (fun bad L => (x, bad, L)) (fun L => some (x, L)) := ⟨fun _ => rfl, fun L => .inl ⟨x, L, rfl, rfl⟩⟩
abbrev thn {α γ : Type} (p : Bool → List Int → α × Bool × List Int) (r : α → Bool → List Int → γ × Bool × List Int) := thenS p r
def inS : Bool → List Int → II × Bool × List Int :=
  thn numS fun o => thn numS fun a => thn numS fun b => thn numS fun c => thn numS fun d => thn numS fun e => fun bad L => (⟨o, a, b, c, d, e⟩, bad, L)
theorem insP_eq : insP = fun L => (numP L).bind fun o => (numP o.2).bind fun a => (numP a.2).bind fun b => (numP b.2).bind fun c => (numP c.2).bind fun d => (numP d.2).bind fun e => some ((⟨o.1, a.1, b.1, c.1, d.1, e.1⟩ : II), e.2) := by
  funext L
  unfold insP
  simp only [Option.map_eq_bind]
  rfl
theorem fnP_eq (ct : List Int → Option (Nat × List Int)) : fnP ct = fun L => (textP L).bind fun n => (numP n.2).bind fun p => (numP p.2).bind fun s => (numP s.2).bind fun c => (ct c.2).bind fun k => (listP insP k.1 k.2).bind fun i => some ((⟨n.1, p.1, s.1, c.1, i.1⟩ : FF), i.2) := by
  funext L
  unfold fnP
  simp only [Option.map_eq_bind]
  rfl
theorem codeP_eq (ct : List Int → Option (Nat × List Int)) : codeP ct = fun L => (ct L).bind fun k => (listP textP k.1 k.2).bind fun t => (ct t.2).bind fun m => (listP (fnP ct) m.1 m.2).bind fun f => some ((⟨f.1, t.1⟩ : KK), f.2) := by
  funext L
  unfold codeP
  simp only [Option.map_eq_bind]
  rfl
theorem inS_agrees : Agrees inS insP := by
  have h := thenS_agrees numS_agrees fun o => thenS_agrees numS_agrees fun a => thenS_agrees numS_agrees fun b => thenS_agrees numS_agrees fun c => thenS_agrees numS_agrees fun d => thenS_agrees numS_agrees fun e => doneS_agrees (⟨o, a, b, c, d, e⟩ : II)
  rw [insP_eq]
  exact h
def fnSS : Bool → List Int → FF × Bool × List Int :=
  thn texS fun n => thn numS fun p => thn numS fun s => thn numS fun c => thn cntS fun k => thn (runL inS k) fun i => fun bad L => (⟨n, p, s, c, i⟩, bad, L)
def codeS : Bool → List Int → KK × Bool × List Int :=
  thn cntS fun k => thn (runL texS k) fun t => thn cntS fun m => thn (runL fnSS m) fun f => fun bad L => (⟨f, t⟩, bad, L)
theorem fnSS_agrees : Agrees fnSS (fnP cntP) := by
  have h := thenS_agrees texS_agrees fun n => thenS_agrees numS_agrees fun p => thenS_agrees numS_agrees fun s => thenS_agrees numS_agrees fun c => thenS_agrees cntS_agrees fun k => thenS_agrees (runL_agrees inS_agrees k) fun i => doneS_agrees (⟨n, p, s, c, i⟩ : FF)
  rw [fnP_eq]
  exact h
theorem codeS_agrees : Agrees codeS (codeP cntP) := by
  have h := thenS_agrees cntS_agrees fun k => thenS_agrees (runL_agrees texS_agrees k) fun t => thenS_agrees cntS_agrees fun m => thenS_agrees (runL_agrees fnSS_agrees m) fun f => doneS_agrees (⟨f, t⟩ : KK)
  rw [codeP_eq]
  exact h
end Go.Proofs.Ytgcedkioanolcaa
