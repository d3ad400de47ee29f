/- Plain: both ways of reading a run-time error from its text agree. Conditions: none. -/
import Derived.Test.YtgjhjojbaieeaaaDoorFrP
set_option maxRecDepth 20000
namespace Go.Proofs.YtgjhjojbaieeaaaDoor
open Go
def P1 : List UInt8 := [114, 117, 110, 116, 105, 109, 101, 32, 101, 114, 114, 111, 114, 58, 32, 105, 110, 100, 101, 120, 32, 111, 117, 116, 32, 111, 102, 32, 114, 97, 110, 103, 101, 32, 91]
def P7 : List UInt8 := [114, 117, 110, 116, 105, 109, 101, 32, 101, 114, 114, 111, 114, 58, 32, 108, 101, 110, 103, 116, 104, 32]
def PB : List UInt8 := [114, 117, 110, 116, 105, 109, 101, 32, 101, 114, 114, 111, 114, 58, 32, 115, 108, 105, 99, 101, 32, 98, 111, 117, 110, 100, 115, 32, 111, 117, 116, 32, 111, 102, 32, 114, 97, 110, 103, 101, 32, 91]
def WL : List UInt8 := [93, 32, 119, 105, 116, 104, 32, 108, 101, 110, 103, 116, 104, 32]
def WT : List UInt8 := [32, 119, 105, 116, 104, 32, 108, 101, 110, 103, 116, 104, 32]
def AB : List UInt8 := [32, 105, 115, 32, 97, 98, 111, 118, 101, 32]
def AT : List UInt8 := [105, 115, 32, 97, 98, 111, 118, 101, 32]
def CO : List UInt8 := [58]
def EN : List UInt8 := [93]
def CE : List UInt8 := [58, 93]
abbrev Ft := Int × Int × Int × Int
/-- A fault's text. -/
def T (f : Ft) : List UInt8 := (faultS f.1 f.2.1 f.2.2.1 f.2.2.2).data.toList
def FX (k : Int) : List UInt8 := (fixedS k).data.toList
theorem T1 (a b : Int) : T (1, a, b, 0) = P1 ++ (dl a ++ (WL ++ (dl b ++ []))) := by
  unfold T faultS
  simp [P1, WL, dl]
theorem T7 (a b : Int) : T (7, a, b, 0) = P7 ++ (dl a ++ (AB ++ (dl b ++ []))) := by
  unfold T faultS
  simp [P7, AB, dl]
theorem TB (a b c : Int) : T (5, a, b, c) = if b < 0 ∨ c < b then PB ++ (CO ++ (dl b ++ (WL ++ (dl c ++ [])))) else if b < a then PB ++ (dl a ++ (CO ++ (dl b ++ EN))) else if a < 0 then PB ++ (dl a ++ CE) else [] := by
  unfold T faultS boundsS
  simp only [show ((5 : Int) = 1) = False by simp, if_false, if_true]
  split
  · simp [PB, CO, WL, dl]
  · split
    · simp [PB, CO, EN, dl]
    · split
      · simp [PB, CE, dl]
      · rfl
theorem TF (k : Int) (h : k ∈ ([2, 3, 4, 6, 8] : List Int)) : T (k, 0, 0, 0) = FX k := by
  simp at h
  rcases h with rfl | rfl | rfl | rfl | rfl <;> rfl
def fixP (s : List UInt8) : Ft := if s = [] then (1, 0, 0, 0) else if s = FX 2 then (2, 0, 0, 0) else if s = FX 3 then (3, 0, 0, 0) else if s = FX 4 then (4, 0, 0, 0) else if s = FX 6 then (6, 0, 0, 0) else if s = FX 8 then (8, 0, 0, 0) else (0, 0, 0, 0)
def guessP (s : List UInt8) : Ft :=
  match numP [P1, WL, []] s with
  | some l => (1, l.getD 0 0, l.getD 1 0, 0)
  | none => match numP [P7, AB, []] s with
    | some l => (7, l.getD 0 0, l.getD 1 0, 0)
    | none => match numP [PB ++ CO, WL, []] s with
      | some l => (5, 0, l.getD 0 0, l.getD 1 0)
      | none => match numP [PB, CO, EN] s with
        | some l => (5, l.getD 0 0, l.getD 1 0, l.getD 1 0)
        | none => match numP [PB, CE] s with
          | some l => (5, l.getD 0 0, 0, 0)
          | none => fixP s
def readP (s : List UInt8) : Option Ft := if (guessP s).1 = 0 ∨ T (guessP s) ≠ s then none else some (guessP s)
def tries (l0 l1 : Int) : List Ft := [(1, l0, l1, 0), (2, 0, 0, 0), (3, 0, 0, 0), (4, 0, 0, 0), (6, 0, 0, 0), (8, 0, 0, 0), (7, l0, l1, 0), (5, 0, l0, l1), (5, l0, l1, l1), (5, l0, 0, 0)]
def refP (s : List UInt8) : Option Ft := if 200 < s.length then none else if s = [] then none else (tries ((insideP s).getD 0 0) ((insideP s).getD 1 0)).find? fun f => decide (T f = s)
/-- A fault that is the only one with its text. -/
inductive Can : Ft → Prop
  | i {a b : Int} : inI a → inI b → Can (1, a, b, 0)
  | l {a b : Int} : inI a → inI b → Can (7, a, b, 0)
  | b1 {b c : Int} : inI b → inI c → b < 0 ∨ c < b → Can (5, 0, b, c)
  | b2 {a b : Int} : inI a → inI b → 0 ≤ b → b < a → Can (5, a, b, b)
  | b3 {a : Int} : inI a → a < 0 → Can (5, a, 0, 0)
  | f {k : Int} : k ∈ ([2, 3, 4, 6, 8] : List Int) → Can (k, 0, 0, 0)
/-! ### the forms -/
theorem num2 {p m e : List UInt8} {a b : Int} (ha : inI a) (hb : inI b) (hm : stopM (m ++ (dl b ++ e))) (he : stopM e) : numP [p, m, e] (p ++ (dl a ++ (m ++ (dl b ++ e)))) = some [a, b] := by
  have h := strip_self e []
  rw [List.append_nil] at h
  simp only [numP, strip_self]
  rw [numGo_dl ha hm]
  simp only [strip_self]
  rw [numGo_dl hb he]
  simp only [h]
  simp [numGo]
theorem num1 {p e : List UInt8} {a : Int} (ha : inI a) (he : stopM e) : numP [p, e] (p ++ (dl a ++ e)) = some [a] := by
  have h := strip_self e []
  rw [List.append_nil] at h
  simp only [numP, strip_self]
  rw [numGo_dl ha he]
  simp only [h]
  simp [numGo]
theorem numP_none {p : List UInt8} {ps : List (List UInt8)} {s : List UInt8} (h : strip p s = none) : numP (p :: ps) s = none := by
  rw [numP, h]
theorem s71 (X : List UInt8) : strip P1 (P7 ++ X) = none := rfl
theorem sB1 (X : List UInt8) : strip P1 (PB ++ X) = none := rfl
theorem sB7 (X : List UInt8) : strip P7 (PB ++ X) = none := rfl
theorem stW (X : List UInt8) : stopM (WL ++ X) := stopM_cons (by decide)
theorem stA (X : List UInt8) : stopM (AB ++ X) := stopM_cons (by decide)
theorem stC (X : List UInt8) : stopM (CO ++ X) := stopM_cons (by decide)
theorem stE (X : List UInt8) : stopM (EN ++ X) := stopM_cons (by decide)
theorem stCE (X : List UInt8) : stopM (CE ++ X) := stopM_cons (by decide)
theorem stEN : stopM EN := stopM_cons (by decide)
theorem stCEN : stopM CE := stopM_cons (by decide)
theorem dl_colon (n : Int) (X Y : List UInt8) : dl n ++ X ≠ CO ++ Y := by
  cases h : dl n with
  | nil => exact absurd h (dl_ne n)
  | cons c r =>
    intro e
    injection e with e _
    have := dl_md n c (by rw [h]; simp)
    rw [e] at this
    exact absurd this (by decide)
theorem co_none (p X : List UInt8) (n : Int) : strip (p ++ CO) (p ++ (dl n ++ X)) = none := by
  rw [strip_app]
  cases h : strip CO (dl n ++ X) with
  | none => rfl
  | some t => exact absurd (strip_some.1 h) (dl_colon n X t)
theorem guess_can {f : Ft} (h : Can f) : guessP (T f) = f := by
  cases h with
  | i ha hb =>
    rw [T1]
    unfold guessP
    rw [num2 ha hb (stW _) stopM_nil]
    rfl
  | l ha hb =>
    rw [T7]
    unfold guessP
    rw [numP_none (s71 _), num2 ha hb (stA _) stopM_nil]
    rfl
  | @b1 b c hb hc h =>
    rw [TB, if_pos h]
    unfold guessP
    have e := num2 (p := PB ++ CO) (m := WL) (e := []) hb hc (stW _) stopM_nil
    rw [List.append_assoc] at e
    rw [numP_none (sB1 _), numP_none (sB7 _), e]
    rfl
  | @b2 a b ha hb h1 h2 =>
    rw [TB, if_neg (by omega), if_pos h2]
    unfold guessP
    rw [numP_none (sB1 _), numP_none (sB7 _), numP_none (co_none PB _ a), num2 ha hb (stC _) stEN]
    rfl
  | @b3 a ha h =>
    rw [TB, if_neg (by omega), if_neg (by omega), if_pos h]
    unfold guessP
    have e : numP [PB, CO, EN] (PB ++ (dl a ++ CE)) = none := by
      simp only [numP, strip_self]
      rw [numGo_dl ha stCEN]
      have h2 : strip CO CE = some EN := rfl
      simp only [h2]
      exact numGo_stop stEN
    rw [numP_none (sB1 _), numP_none (sB7 _), numP_none (co_none PB _ a), e, num1 ha stCEN]
    rfl
  | f hk =>
    simp at hk
    rcases hk with rfl | rfl | rfl | rfl | rfl <;> decide +kernel
/-! ### their numbers -/
theorem in2 {p m e : List UInt8} {c : UInt8} {a b : Int} (hp : ∀ x ∈ p, isM x = false) (hc : isM c = false) (hm : ∀ x ∈ m, isM x = false) (he : stopM e) (he2 : insideP (e.drop 1) = []) (ha : inI a) (hb : inI b) : insideP (p ++ (dl a ++ ((c :: m) ++ (dl b ++ e)))) = [a, b] := by
  rw [inside_skip hp, show (c :: m) ++ (dl b ++ e) = c :: (m ++ (dl b ++ e)) from rfl, inside_dl ha (stopM_cons hc)]
  show a :: insideP (m ++ (dl b ++ e)) = [a, b]
  rw [inside_skip hm, inside_dl hb he, he2]
theorem in1 {p m : List UInt8} {c : UInt8} {a : Int} (hp : ∀ x ∈ p, isM x = false) (hc : isM c = false) (hm : ∀ x ∈ m, isM x = false) (ha : inI a) : insideP (p ++ (dl a ++ (c :: m))) = [a] := by
  rw [inside_skip hp, inside_dl ha (stopM_cons hc)]
  show a :: insideP m = [a]
  have := inside_skip (s := []) hm
  rw [List.append_nil, inside_nil] at this
  rw [this]
theorem inT1 {a b : Int} (ha : inI a) (hb : inI b) : insideP (T (1, a, b, 0)) = [a, b] := by
  rw [T1]
  exact in2 (p := P1) (c := 93) (m := WT) (e := []) (by decide) (by decide) (by decide) stopM_nil inside_nil ha hb
theorem inT7 {a b : Int} (ha : inI a) (hb : inI b) : insideP (T (7, a, b, 0)) = [a, b] := by
  rw [T7]
  exact in2 (p := P7) (c := 32) (m := AT) (e := []) (by decide) (by decide) (by decide) stopM_nil inside_nil ha hb
theorem inB1 {b c : Int} (hb : inI b) (hc : inI c) : insideP (PB ++ (CO ++ (dl b ++ (WL ++ (dl c ++ []))))) = [b, c] := by
  rw [← List.append_assoc]
  exact in2 (p := PB ++ CO) (c := 93) (m := WT) (e := []) (by decide) (by decide) (by decide) stopM_nil inside_nil hb hc
theorem inB2 {a b : Int} (ha : inI a) (hb : inI b) : insideP (PB ++ (dl a ++ (CO ++ (dl b ++ EN)))) = [a, b] :=
  in2 (p := PB) (c := 58) (m := []) (e := EN) (by decide) (by decide) (by decide) stEN inside_nil ha hb
theorem inB3 {a : Int} (ha : inI a) : insideP (PB ++ (dl a ++ CE)) = [a] :=
  in1 (p := PB) (c := 58) (m := [93]) (by decide) (by decide) (by decide) ha
theorem tries_can {f : Ft} (h : Can f) : f ∈ tries ((insideP (T f)).getD 0 0) ((insideP (T f)).getD 1 0) := by
  cases h with
  | i ha hb => rw [inT1 ha hb]; simp [tries]
  | l ha hb => rw [inT7 ha hb]; simp [tries]
  | @b1 b c hb hc h => rw [TB, if_pos h, inB1 hb hc]; simp [tries]
  | @b2 a b ha hb h1 h2 => rw [TB, if_neg (by omega), if_pos h2, inB2 ha hb]; simp [tries]
  | @b3 a ha h => rw [TB, if_neg (by omega), if_neg (by omega), if_pos h, inB3 ha]; simp [tries]
  | f hk =>
    simp at hk
    rcases hk with rfl | rfl | rfl | rfl | rfl <;> simp [tries]
/-! ### lengths -/
theorem dl_len {n : Int} (h : inI n) : (dl n).length ≤ 20 := decS_size n h
theorem T_len {f : Ft} (h : Can f) : (T f).length ≤ 200 ∧ T f ≠ [] := by
  cases h with
  | @i a b ha hb =>
    have := dl_len ha
    have := dl_len hb
    rw [T1]
    exact ⟨by simp only [List.length_append, show P1.length = 35 from rfl, show WL.length = 14 from rfl, List.length_nil]; omega, fun e => by cases e⟩
  | @l a b ha hb =>
    have := dl_len ha
    have := dl_len hb
    rw [T7]
    exact ⟨by simp only [List.length_append, show P7.length = 22 from rfl, show AB.length = 10 from rfl, List.length_nil]; omega, fun e => by cases e⟩
  | @b1 b c hb hc h =>
    have := dl_len hb
    have := dl_len hc
    rw [TB, if_pos h]
    exact ⟨by simp only [List.length_append, show PB.length = 42 from rfl, show WL.length = 14 from rfl, show CO.length = 1 from rfl, List.length_nil]; omega, fun e => by cases e⟩
  | @b2 a b ha hb h1 h2 =>
    have := dl_len ha
    have := dl_len hb
    rw [TB, if_neg (by omega), if_pos h2]
    exact ⟨by simp only [List.length_append, show PB.length = 42 from rfl, show EN.length = 1 from rfl, show CO.length = 1 from rfl]; omega, fun e => by cases e⟩
  | @b3 a ha h =>
    have := dl_len ha
    rw [TB, if_neg (by omega), if_neg (by omega), if_pos h]
    exact ⟨by simp only [List.length_append, show PB.length = 42 from rfl, show CE.length = 2 from rfl]; omega, fun e => by cases e⟩
  | f hk =>
    simp at hk
    rcases hk with rfl | rfl | rfl | rfl | rfl <;> decide +kernel
/-! ### what is read is the only one -/
theorem cancelP (p : List UInt8) {a b : List UInt8} (h : p ++ a = p ++ b) : a = b := List.append_cancel_left h
theorem nopre {p X : List UInt8} (hp : p ≠ []) : ¬ ([] : List UInt8) = p ++ X := by
  intro h
  exact hp (List.append_eq_nil_iff.1 h.symm).1
theorem read_can {s : List UInt8} {f : Ft} (h : readP s = some f) : Can f ∧ T f = s := by
  unfold readP at h
  split at h
  · cases h
  · rename_i hn
    injection h with h
    have hT : T (guessP s) = s := by
      rcases Classical.em (T (guessP s) = s) with h1 | h1
      · exact h1
      · exact absurd (.inr h1) hn
    have h0 : (guessP s).1 ≠ 0 := fun e => hn (.inl e)
    rw [← h]
    refine ⟨?_, hT⟩
    clear h hn
    unfold guessP at hT h0 ⊢
    split
    · rename_i l hl
      obtain ⟨t, rfl, h1⟩ := numP_inv hl
      obtain ⟨v, t1, hv, rfl, h2⟩ := numGo_inv h1
      obtain ⟨u, t2, hu, rfl, h3⟩ := numGo_inv h2
      obtain ⟨_, rfl⟩ := numGo_nil h3
      exact .i hv hu
    · rename_i e1
      rw [e1] at hT h0
      dsimp only at hT h0
      split
      · rename_i l hl
        obtain ⟨t, rfl, h1⟩ := numP_inv hl
        obtain ⟨v, t1, hv, rfl, h2⟩ := numGo_inv h1
        obtain ⟨u, t2, hu, rfl, h3⟩ := numGo_inv h2
        obtain ⟨_, rfl⟩ := numGo_nil h3
        exact .l hv hu
      · rename_i e2
        rw [e2] at hT h0
        dsimp only at hT h0
        split
        · rename_i l hl
          rw [hl] at hT
          dsimp only at hT
          obtain ⟨t, rfl, h1⟩ := numP_inv hl
          obtain ⟨v, t1, hv, rfl, h2⟩ := numGo_inv h1
          obtain ⟨u, t2, hu, rfl, h3⟩ := numGo_inv h2
          obtain ⟨_, rfl⟩ := numGo_nil h3
          have hT' : T (5, 0, v, u) = (PB ++ CO) ++ (dl v ++ (WL ++ (dl u ++ ([] ++ t2)))) := hT
          show Can (5, 0, v, u)
          by_cases hb : v < 0 ∨ u < v
          · exact .b1 hv hu hb
          · rw [TB, if_neg hb, if_neg (by omega), if_neg (by omega)] at hT'
            exact absurd hT' (by rw [List.append_assoc]; exact nopre (by decide))
        · rename_i e3
          rw [e3] at hT h0
          dsimp only at hT h0
          split
          · rename_i l hl
            rw [hl] at hT
            dsimp only at hT
            obtain ⟨t, rfl, h1⟩ := numP_inv hl
            obtain ⟨v, t1, hv, rfl, h2⟩ := numGo_inv h1
            obtain ⟨u, t2, hu, rfl, h3⟩ := numGo_inv h2
            obtain ⟨rfl, rfl⟩ := numGo_nil h3
            have hT' : T (5, v, u, u) = PB ++ (dl v ++ (CO ++ (dl u ++ (EN ++ [])))) := hT
            show Can (5, v, u, u)
            rw [TB] at hT'
            by_cases hb : u < 0 ∨ u < u
            · rw [if_pos hb] at hT'
              exact absurd (List.append_cancel_left hT').symm (dl_colon v _ _)
            · rw [if_neg hb] at hT'
              by_cases hb2 : u < v
              · exact .b2 hv hu (by omega) hb2
              · rw [if_neg hb2] at hT'
                by_cases hb3 : v < 0
                · rw [if_pos hb3] at hT'
                  have h5 := List.append_cancel_left (List.append_cancel_left hT')
                  have h6 : EN = dl u ++ (EN ++ []) := cancelP CO h5
                  have h7 := congrArg List.length h6
                  exact absurd (by simpa [EN] using h7 : dl u = []) (dl_ne u)
                · rw [if_neg hb3] at hT'
                  exact absurd hT' (nopre (by decide))
          · rename_i e4
            rw [e4] at hT h0
            dsimp only at hT h0
            split
            · rename_i l hl
              rw [hl] at hT
              dsimp only at hT
              obtain ⟨t, rfl, h1⟩ := numP_inv hl
              obtain ⟨v, t1, hv, rfl, h2⟩ := numGo_inv h1
              obtain ⟨rfl, rfl⟩ := numGo_nil h2
              have hT' : T (5, v, 0, 0) = PB ++ (dl v ++ (CE ++ [])) := hT
              show Can (5, v, 0, 0)
              rw [TB, if_neg (by omega)] at hT'
              by_cases hb2 : 0 < v
              · rw [if_pos hb2] at hT'
                have h5 := List.append_cancel_left (List.append_cancel_left hT')
                have h6 : dl 0 ++ EN = EN := cancelP CO h5
                have h7 := congrArg List.length h6
                exact absurd (by simpa [EN] using h7 : dl 0 = []) (dl_ne 0)
              · rw [if_neg hb2] at hT'
                by_cases hb3 : v < 0
                · exact .b3 hv hb3
                · rw [if_neg hb3] at hT'
                  exact absurd hT' (nopre (by decide))
            · rename_i e5
              rw [e5] at hT h0
              dsimp only at hT h0
              unfold fixP at hT h0 ⊢
              split
              · rename_i hs
                rw [if_pos hs, T1] at hT
                rw [hs] at hT
                exact absurd hT.symm (nopre (by decide))
              · rename_i g1
                rw [if_neg g1] at h0
                split
                · exact .f (by simp)
                · rename_i g2
                  rw [if_neg g2] at h0
                  split
                  · exact .f (by simp)
                  · rename_i g3
                    rw [if_neg g3] at h0
                    split
                    · exact .f (by simp)
                    · rename_i g4
                      rw [if_neg g4] at h0
                      split
                      · exact .f (by simp)
                      · rename_i g5
                        rw [if_neg g5] at h0
                        split
                        · exact .f (by simp)
                        · rename_i g6
                          rw [if_neg g6] at h0
                          exact absurd rfl h0
theorem ref_can {s : List UInt8} {f : Ft} (h : refP s = some f) : Can f ∧ T f = s := by
  unfold refP at h
  split at h
  · cases h
  · split at h
    · cases h
    · rename_i hne
      have hin := inside_in s.length s (Nat.le_refl _)
      have hT : T f = s := by
        have := List.find?_some h
        exact of_decide_eq_true this
      refine ⟨?_, hT⟩
      have hI0 : ∀ i, inI ((insideP s).getD i 0) := by
        intro i
        rw [List.getD_eq_getElem?_getD]
        cases hx : (insideP s)[i]? with
        | none => simp [inI]
        | some v => exact hin v (List.mem_of_getElem? hx)
      have i0 := hI0 0
      have i1 := hI0 1
      obtain ⟨l0, hl0⟩ : ∃ x, x = (insideP s).getD 0 0 := ⟨_, rfl⟩
      obtain ⟨l1, hl1⟩ : ∃ x, x = (insideP s).getD 1 0 := ⟨_, rfl⟩
      rw [← hl0] at h i0
      rw [← hl1] at h i1
      have hmem := List.mem_of_find?_eq_some h
      unfold tries at hmem h
      simp only [List.mem_cons, List.not_mem_nil, or_false] at hmem
      rcases hmem with rfl | rfl | rfl | rfl | rfl | rfl | rfl | rfl | rfl | rfl
      · exact .i i0 i1
      · exact .f (by simp)
      · exact .f (by simp)
      · exact .f (by simp)
      · exact .f (by simp)
      · exact .f (by simp)
      · exact .l i0 i1
      · by_cases hb : l0 < 0 ∨ l1 < l0
        · exact .b1 i0 i1 hb
        · rw [TB, if_neg hb, if_neg (by omega), if_neg (by omega)] at hT
          exact absurd hT.symm hne
      · by_cases hb : l1 < 0
        · exfalso
          have hT2 := hT
          rw [TB, if_pos (.inl hb)] at hT2
          have hi := inB1 i1 i1
          rw [hT2] at hi
          rw [hi] at hl0
          have e : l0 = l1 := hl0
          subst e
          have h8 : T (5, 0, l0, l0) = s := by rw [TB, if_pos (.inl hb)]; exact hT2
          have hsp : ([(1, l0, l0, 0), (2, 0, 0, 0), (3, 0, 0, 0), (4, 0, 0, 0), (6, 0, 0, 0), (8, 0, 0, 0), (7, l0, l0, 0), (5, 0, l0, l0), (5, l0, l0, l0), (5, l0, 0, 0)] : List Ft) = [(1, l0, l0, 0), (2, 0, 0, 0), (3, 0, 0, 0), (4, 0, 0, 0), (6, 0, 0, 0), (8, 0, 0, 0), (7, l0, l0, 0), (5, 0, l0, l0)] ++ [(5, l0, l0, l0), (5, l0, 0, 0)] := rfl
          rw [hsp, List.find?_append] at h
          cases hF : ([(1, l0, l0, 0), (2, 0, 0, 0), (3, 0, 0, 0), (4, 0, 0, 0), (6, 0, 0, 0), (8, 0, 0, 0), (7, l0, l0, 0), (5, 0, l0, l0)] : List Ft).find? (fun f => decide (T f = s)) with
          | none =>
            have := List.find?_eq_none.1 hF (5, 0, l0, l0) (by simp)
            simp [h8] at this
          | some g =>
            rw [hF] at h
            have hg : g = (5, l0, l0, l0) := by simpa using h
            have hm := List.mem_of_find?_eq_some hF
            rw [hg] at hm
            simp at hm
            omega
        · by_cases hb2 : l1 < l0
          · exact .b2 i0 i1 (by omega) hb2
          · rw [TB, if_neg (by omega), if_neg hb2] at hT
            by_cases hb3 : l0 < 0
            · rw [if_pos hb3] at hT
              have hi := inB3 i0
              rw [hT] at hi
              rw [hi] at hl1
              have e : l1 = 0 := hl1
              subst e
              exact .b3 i0 hb3
            · rw [if_neg hb3] at hT
              exact absurd hT.symm hne
      · by_cases hb : 0 < l0
        · exact .b2 i0 (by simp [inI]) (by omega) hb
        · by_cases hb3 : l0 < 0
          · exact .b3 i0 hb3
          · rw [TB, if_neg (by omega), if_neg hb, if_neg hb3] at hT
            exact absurd hT.symm hne
theorem can_read {f : Ft} (h : Can f) : readP (T f) = some f := by
  unfold readP
  rw [guess_can h, if_neg]
  rintro (h1 | h1)
  · cases h with
    | f hk =>
      simp at hk
      rcases hk with rfl | rfl | rfl | rfl | rfl <;> exact absurd h1 (by decide)
    | _ => exact absurd h1 (by simp)
  · exact h1 rfl
theorem can_ref {f : Ft} (h : Can f) : ∃ g, refP (T f) = some g := by
  unfold refP
  obtain ⟨h1, h2⟩ := T_len h
  rw [if_neg (by omega), if_neg h2]
  cases hx : (tries ((insideP (T f)).getD 0 0) ((insideP (T f)).getD 1 0)).find? (fun g => decide (T g = T f)) with
  | some g => exact ⟨g, rfl⟩
  | none =>
    have := List.find?_eq_none.1 hx f (tries_can h)
    simp at this
theorem both_read (s : List UInt8) : readP s = refP s := by
  cases h : readP s with
  | some f =>
    obtain ⟨hc, rfl⟩ := read_can h
    obtain ⟨g, hg⟩ := can_ref hc
    obtain ⟨hc2, ht⟩ := ref_can hg
    have e1 := guess_can hc
    have e2 := guess_can hc2
    rw [ht, e1] at e2
    rw [hg, e2]
  | none =>
    cases h2 : refP s with
    | none => rfl
    | some g =>
      obtain ⟨hc, rfl⟩ := ref_can h2
      rw [can_read hc] at h
      cases h
end Go.Proofs.YtgjhjojbaieeaaaDoor
