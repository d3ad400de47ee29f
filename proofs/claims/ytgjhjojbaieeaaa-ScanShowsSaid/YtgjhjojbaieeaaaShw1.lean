/- 'scan.whole' and the document's 'one'. Conditions: none. -/
import Derived.Test.YtgjhjojbaieeaaaScLaw
import Derived.Test.YtgjhjojbaieeaaaScAll
import Derived.Test.YtgjhjojbaieeaaaScRefC
set_option maxRecDepth 20000
namespace Go.Proofs.Ytgjhjojbaieeaaa
open Go.ChangeShapes Go.WideShapes Go.ChangeAt Go.RowKit
open Go
/-- Is a text wholly one token of a kind? -/
def oneB (k : Int) (L : List UInt8) : Bool := decide (L ≠ [] ∧ L.length ≤ 8000 ∧ ¬ L.take 2 = [47, 47] ∧ tokR L = (k, (L.length : Int), 0))
theorem addT_pre {L : List UInt8} {p : Nat} {T T' : List Tk} {k : Int} {s : List UInt8} (h : addT L p T k s = some T') : T' = T ++ [tkAt L p k s] := by
  unfold addT at h
  split at h
  · cases h
  · injection h with h
    exact h.symm
theorem semiT_pre {L : List UInt8} {p : Nat} {T T' : List Tk} (h : semiT L p T = some T') : T' = T ∨ (lastEnds T = true ∧ T' = T ++ [tkAt L p 6 [59]]) := by
  unfold semiT at h
  split at h
  · rename_i hl
    exact .inr ⟨hl, addT_pre h⟩
  · injection h with h
    exact .inl h.symm
/-- One step keeps the tokens; the first one is made by a token's step. -/
theorem nx_pre {L : List UInt8} {p p' : Nat} {T T' : List Tk} (h : nx L p T = .ok (p', T')) : T <+: T' ∧ (T = [] → T' = [] ∨ ∃ k n, stepS (L.drop p) = .tok k n ∧ T' = [tkAt L p k ((L.drop p).take n)]) := by
  unfold nx at h
  split at h
  · split at h
    · cases h
    · rename_i T'' hT
      injection h with h
      injection h with h1 h2
      subst h2
      rcases semiT_pre hT with rfl | ⟨hl, rfl⟩
      · exact ⟨List.prefix_refl _, fun e => .inl e⟩
      · exact ⟨List.prefix_append _ _, fun e => by subst e; cases hl⟩
  · injection h with h
    injection h with h1 h2
    subst h2
    exact ⟨List.prefix_refl _, fun e => .inl e⟩
  · rename_i k n hst
    split at h
    · cases h
    · rename_i T'' hT
      injection h with h
      injection h with h1 h2
      subst h2
      have := addT_pre hT
      subst this
      exact ⟨List.prefix_append _ _, fun e => by subst e; exact .inr ⟨k, n, hst, rfl⟩⟩
  · cases h
theorem runs_pre {L : List UInt8} {p : Nat} {T : List Tk} {R : Res} (h : Runs L p T R) : ∀ T', R = .ok T' → T <+: T' ∧ (T = [] → T' = [] ∨ ∃ q k n, q < L.length ∧ stepS (L.drop q) = .tok k n ∧ T'.head? = some (tkAt L q k ((L.drop q).take n))) := by
  induction h with
  | @step p p' T T1 R h1 h2 _ ih =>
    intro T' e
    obtain ⟨a, b⟩ := ih T' e
    obtain ⟨c, d⟩ := nx_pre h2
    refine ⟨c.trans a, fun e0 => ?_⟩
    rcases d e0 with e1 | ⟨k, n, e1, e2⟩
    · exact b e1
    · right
      refine ⟨p, k, n, h1, e1, ?_⟩
      rw [e2] at a
      obtain ⟨r, rfl⟩ := a
      rfl
  | bad => intro T' e; cases e
  | @fin p T T1 h1 h2 =>
    intro T' e
    injection e with e
    subst e
    rcases semiT_pre h2 with rfl | ⟨hl, rfl⟩
    · exact ⟨List.prefix_refl _, fun e => .inl e⟩
    · exact ⟨List.prefix_append _ _, fun e => by subst e; cases hl⟩
  | full => intro T' e; cases e
theorem tokR_of_step {L : List UInt8} {k : Int} {n : Nat} (h : stepS L = .tok k n) : tokR L = (k, (n : Int), 0) ∧ ¬ L.take 2 = [47, 47] := by
  have h1 : ¬ L.headD 0 = 10 := by
    intro e; unfold stepS at h; rw [if_pos e] at h; cases h
  have h2 : ¬ (L.headD 0 = 32 ∨ L.headD 0 = 9 ∨ L.headD 0 = 13) := by
    intro e; unfold stepS at h; dsimp only at h; rw [if_neg h1, if_pos e] at h; cases h
  have h3 : ¬ L.take 2 = [47, 47] := by
    intro e; unfold stepS at h; dsimp only at h; rw [if_neg h1, if_neg h2, if_pos e] at h; cases h
  refine ⟨?_, h3⟩
  rcases tokR_step h1 h2 h3 with ⟨k', n', e1, e2⟩ | ⟨c, e1, _⟩
  · rw [h] at e1
    injection e1 with e1 e3
    subst e1 e3
    exact e2
  · rw [h] at e1
    cases e1
theorem sg_blank {L : List UInt8} (h : L.headD 0 = 10 ∨ L.headD 0 = 32 ∨ L.headD 0 = 9 ∨ L.headD 0 = 13) : signV L = [] := by
  unfold signV
  have h2 : L.take 2 ∉ sg2 := by
    intro hm
    have h3 : ∀ x ∈ sg2, x.headD 0 ≠ 10 ∧ x.headD 0 ≠ 32 ∧ x.headD 0 ≠ 9 ∧ x.headD 0 ≠ 13 := by decide +kernel
    have h4 := h3 _ hm
    have h5 : (L.take 2).headD 0 = L.headD 0 := by cases L <;> rfl
    rw [h5] at h4
    rcases h with h | h | h | h
    · exact h4.1 h
    · exact h4.2.1 h
    · exact h4.2.2.1 h
    · exact h4.2.2.2 h
  rw [if_neg h2, if_neg]
  rintro ⟨h3, _⟩
  rcases h with h | h | h | h <;> rw [h] at h3 <;> revert h3 <;> decide
theorem tokR_blank {L : List UInt8} (h : L.headD 0 = 10 ∨ L.headD 0 = 32 ∨ L.headD 0 = 9 ∨ L.headD 0 = 13) : tokR L = (0, 0, 2) := by
  unfold tokR
  have hs := sg_blank h
  have h1 : isL (L.headD 0) = false := by rcases h with h | h | h | h <;> rw [h] <;> decide
  have h2 : isD (L.headD 0) = false := by rcases h with h | h | h | h <;> rw [h] <;> decide
  have h3 : ¬ L.headD 0 = 34 := by rcases h with h | h | h | h <;> rw [h] <;> decide
  have h4 : ¬ L.headD 0 = 59 := by rcases h with h | h | h | h <;> rw [h] <;> decide
  rw [if_neg (by rw [h1]; decide), if_neg (by rw [h2]; decide), if_neg h3, if_neg h4, if_pos hs]
theorem step_of_tokR {L : List UInt8} {k : Int} {n : Nat} (h : tokR L = (k, (n : Int), 0)) (h3 : ¬ L.take 2 = [47, 47]) : stepS L = .tok k n := by
  have hb : ¬ (L.headD 0 = 10 ∨ L.headD 0 = 32 ∨ L.headD 0 = 9 ∨ L.headD 0 = 13) := by
    intro e
    rw [tokR_blank e] at h
    injection h with _ h
    injection h with _ h
    cases h
  rcases tokR_step (fun e => hb (.inl e)) (fun e => hb (.inr e)) h3 with ⟨k', n', e1, e2⟩ | ⟨c, e1, e2, hc⟩
  · rw [h] at e2
    injection e2 with e2 e3
    injection e3 with e3 _
    have e3 : n = n' := by omega
    subst e2 e3
    exact e1
  · rw [h] at e2
    injection e2 with _ e2
    injection e2 with _ e2
    exact absurd e2.symm hc
/-- What 'whole' looks at. -/
def wholeT (k : Int) (L : List UInt8) (T : List Tk) : Bool :=
  match T with
  | [] => false
  | t :: r => decide (r.length ≤ 1) && (decide (t.k = k) && decide (t.s.data.toList = L)) && (decide (r.length = 0) || endsT t.k t.s.data.toList)
theorem whole_one {k : Int} {L : List UInt8} (h8 : L.length ≤ 8000) {T : List Tk} (h : Runs L 0 [] (.ok T)) : wholeT k L T = oneB k L := by
  obtain ⟨_, hh⟩ := runs_pre h T rfl
  have hone : oneB k L = true → wholeT k L T = true := by
    intro ho
    unfold oneB at ho
    obtain ⟨hne, _, h2, h3⟩ := of_decide_eq_true ho
    have hst := step_of_tokR h3 h2
    have hpos : 0 < L.length := List.length_pos_iff.2 hne
    have hnx : nx L 0 [] = .ok (L.length, [tkAt L 0 k L]) := by
      unfold nx
      rw [List.drop_zero, hst]
      simp [addT]
    have hfin : semiT L L.length [tkAt L 0 k L] = some (if lastEnds [tkAt L 0 k L] = true then [tkAt L 0 k L, tkAt L L.length 6 [59]] else [tkAt L 0 k L]) := by
      unfold semiT addT
      split
      · simp
      · rfl
    have := Runs.same h (.step hpos hnx (.fin (Nat.le_refl _) hfin))
    injection this with this
    subst this
    have he : lastEnds [tkAt L 0 k L] = endsT k L := by simp [lastEnds, tkAt]
    rw [he]
    split
    · rename_i hl
      simp [wholeT, tkAt, hl]
    · simp [wholeT, tkAt]
  have hrev : wholeT k L T = true → oneB k L = true := by
    intro hw
    cases T with
    | nil => cases hw
    | cons t r =>
      unfold wholeT at hw
      simp only [Bool.and_eq_true, decide_eq_true_eq] at hw
      obtain ⟨⟨_, hk, hs⟩, _⟩ := hw
      rcases hh rfl with e | ⟨q, k', n, hq, hst, e⟩
      · cases e
      · rw [List.head?_cons] at e
        injection e with e
        subst e
        have hk' : k' = k := hk
        subst hk'
        have hs' : (L.drop q).take n = L := hs
        have hl := congrArg List.length hs'
        rw [List.length_take, List.length_drop] at hl
        have hq0 : q = 0 := by omega
        subst hq0
        rw [List.drop_zero] at hst
        obtain ⟨a, b⟩ := tokR_of_step hst
        have hne : L ≠ [] := by intro e; subst e; simp at hq
        have hn := (step_len hne).2 _ _ hst
        have hnl : n = L.length := by omega
        subst hnl
        unfold oneB
        exact decide_eq_true ⟨hne, h8, b, a⟩
  cases h1 : oneB k L with
  | true => exact hone h1
  | false =>
    cases h2 : wholeT k L T with
    | false => rfl
    | true => rw [hrev h2] at h1; cases h1
theorem bad_one {k : Int} {L : List UInt8} {c : Int} {pl : Nat × Nat} (h : Runs L 0 [] (.bad c pl)) : oneB k L = false := by
  cases ho : oneB k L with
  | false => rfl
  | true =>
    unfold oneB at ho
    obtain ⟨hne, _, h2, h3⟩ := of_decide_eq_true ho
    have hst := step_of_tokR h3 h2
    have hpos : 0 < L.length := List.length_pos_iff.2 hne
    have hnx : nx L 0 [] = .ok (L.length, [tkAt L 0 k L]) := by
      unfold nx
      rw [List.drop_zero, hst]
      simp [addT]
    have hfin : semiT L L.length [tkAt L 0 k L] = some (if lastEnds [tkAt L 0 k L] = true then [tkAt L 0 k L, tkAt L L.length 6 [59]] else [tkAt L 0 k L]) := by
      unfold semiT addT
      split
      · simp
      · rfl
    have := Runs.same h (.step hpos hnx (.fin (Nat.le_refl _) hfin))
    cases this
/-- A line's end as a token. -/
theorem one_semi (L : List UInt8) : oneB 6 L = decide (L = [59]) := by
  by_cases h : L = [59]
  · subst h; decide +kernel
  · rw [decide_eq_false h]
    unfold oneB
    apply decide_eq_false
    rintro ⟨hne, _, _, ht⟩
    apply h
    unfold tokR at ht
    by_cases h59 : L.headD 0 = 59
    · rw [h59] at ht
      have e1 : isL 59 = false := by decide
      have e2 : isD 59 = false := by decide
      rw [if_neg (by rw [e1]; decide), if_neg (by rw [e2]; decide), if_neg (by decide), if_pos rfl] at ht
      injection ht with _ ht
      injection ht with ht _
      cases L with
      | nil => exact absurd rfl hne
      | cons c r =>
        simp at ht h59
        rw [h59]
        have : r = [] := by
          cases r with
          | nil => rfl
          | cons d r => simp at ht; omega
        rw [this]
    · exfalso
      split at ht
      · split at ht
        · injection ht with ht _; cases ht
        · split at ht
          all_goals injection ht with ht _; cases ht
      · split at ht
        · split at ht
          all_goals injection ht with ht _; cases ht
        · split at ht
          · split at ht
            all_goals injection ht with ht _; cases ht
          · split at ht
            all_goals injection ht with ht _; cases ht
theorem one_long {k : Int} {L : List UInt8} (h : 8000 < L.length) : oneB k L = false := by
  unfold oneB
  apply decide_eq_false
  rintro ⟨_, h1, _⟩
  omega
set_option maxHeartbeats 2000000 in
theorem one_any (k : Int) (s : ByteArray) (l c : Int) (w : World) : Calls Try.prog 73 #[.agg #[.int .i64 k, .string s, .int .i64 l, .int .i64 c]] w fun e w' => e = .returned (.bool (oneB k s.data.toList)) ∧ Below w.heap.size w w' := by
  have hsl : s.data.toList.length = s.size := rfl
  by_cases h0 : s.size = 0
  · have HE := Lib.hid (show oneB k s.data.toList = false by
      unfold oneB
      apply decide_eq_false
      rintro ⟨h1, _⟩
      exact h1 (List.length_eq_zero_iff.1 (by omega)))
    have hem : s.toList.isEmpty = true := by
      rw [ByteArray.toList_eq, List.isEmpty_iff]
      exact List.length_eq_zero_iff.1 (by omega)
    clear h0 hsl
    go_enter Try.func73, Try.ntmps73
    go_wp2_with fail
    go_ret
    exact ⟨by rw [HE.out]; rfl, al _⟩
  · have hem : s.toList.isEmpty = false := by
      rw [ByteArray.toList_eq]
      cases h : s.data.toList with
      | nil => rw [h] at hsl; simp at hsl; omega
      | cons a b => rfl
    by_cases h8 : 8000 < s.size
    · have HE := Lib.hid (one_long (k := k) (L := s.data.toList) (by omega))
      have h8i : (8000 : Int) < (s.size : Int) := by omega
      clear h0 hsl
      go_enter Try.func73, Try.ntmps73
      go_wp2_with fail
      go_ret
      exact ⟨by rw [HE.out]; rfl, al _⟩
    · have h8i : ¬ (8000 : Int) < (s.size : Int) := by omega
      have HTA := Lib.hid (tokenAt_any s (by omega) (by omega))
      have HSL := Lib.hid hsl
      have H0 := Lib.hid h0
      have H8 := Lib.hid h8
      clear h0 h8 hsl
      go_enter Try.func73, Try.ntmps73
      go_wp2_with fail
      refine (HTA.out _).mono ?_
      rintro e w1 ⟨rfl, hb⟩
      have hb' := hb
      generalize hw2 : World.alloc w _ = w2 at hb'
      have hlt2 : w.heap.size < w2.heap.size := by subst hw2; simp
      have d0 : w1.cell? ⟨w.heap.size, 0, none⟩ = some (.int .i64 k) := (hb'.cell (p := ⟨w.heap.size, 0, none⟩) hlt2).trans (by subst hw2; simp [go_sem])
      have d1 : w1.cell? ⟨w.heap.size, 1, none⟩ = some (.string s) := (hb'.cell (p := ⟨w.heap.size, 1, none⟩) hlt2).trans (by subst hw2; simp [go_sem])
      have HB := Lib.hid (show Below w.heap.size w w1 by subst hw2; exact sq (al _) hb)
      clear hlt2 hb' hb hw2 w2
      unfold tokV
      obtain ⟨rk, rn, re, hr⟩ : ∃ rk rn re, tokR s.data.toList = (rk, rn, re) := ⟨_, _, _, rfl⟩
      rw [hr]
      have HE := Lib.hid (show oneB k s.data.toList = (!decide (s.data.toList.take 2 = [47, 47]) && (decide (re = 0) && decide (rk = k) && decide (rn = (s.size : Int)))) by
        unfold oneB
        rw [hr, HSL.out]
        have e1 : s.data.toList ≠ [] := fun e => by have := HSL.out; rw [e] at this; simp at this; exact H0.out this.symm
        have e2 : s.size ≤ 8000 := by have := H8.out; omega
        rw [Bool.eq_iff_iff]
        simp [e1, e2]
        exact fun _ => ⟨fun ⟨a, b, c⟩ => ⟨⟨c, a⟩, b⟩, fun ⟨⟨a, b⟩, c⟩ => ⟨b, c, a⟩⟩)
      clear hr
      generalize hgg : w.heap.size = gg at *
      have hex : (s.extract 0 2).toList = s.data.toList.take 2 := by rw [ByteArray.toList_eq, ext_list]; simp
      by_cases hcm : s.data.toList.take 2 = [47, 47]
      · have h2i : (2 : Int) ≤ (s.size : Int) := by have := congrArg List.length hcm; rw [List.length_take, HSL.out] at this; simp at this; omega
        have ht : ((s.extract 0 2).toList == [47, 47]) = true := by rw [hex, hcm]; rfl
        have HC := Lib.hid hcm
        clear hex hcm
        go_wp2_with fail
        go_ret
        exact ⟨by rw [HE.out, HC.out]; rfl, by first | exact HB.out | (rw [hgg]; exact HB.out)⟩
      · have ht : ((s.extract 0 2).toList == [47, 47]) = false := by rw [hex, beq_eq_false_iff_ne]; exact hcm
        rw [decide_eq_false hcm] at HE
        clear hex hcm
        by_cases h2i : (2 : Int) ≤ (s.size : Int)
        all_goals
          by_cases a0 : re = 0
          · have b0 : (re == 0) = true := by simpa using a0
            rw [decide_eq_true a0] at HE
            clear a0
            by_cases a1 : rk = k
            · have b1 : (rk == k) = true := by simpa using a1
              rw [decide_eq_true a1] at HE
              clear a1
              by_cases a2 : rn = (s.size : Int)
              · have b2 : (rn == (s.size : Int)) = true := by simpa using a2
                rw [decide_eq_true a2] at HE
                clear a2
                go_wp2_with fail
                go_ret
                exact ⟨by rw [HE.out]; rfl, by first | exact HB.out | (rw [hgg]; exact HB.out)⟩
              · have b2 : (rn == (s.size : Int)) = false := by simpa using a2
                rw [decide_eq_false a2] at HE
                clear a2
                go_wp2_with fail
                go_ret
                exact ⟨by rw [HE.out]; rfl, by first | exact HB.out | (rw [hgg]; exact HB.out)⟩
            · have b1 : (rk == k) = false := by simpa using a1
              rw [decide_eq_false a1] at HE
              clear a1
              go_wp2_with fail
              go_ret
              exact ⟨by rw [HE.out]; rfl, by first | exact HB.out | (rw [hgg]; exact HB.out)⟩
          · have b0 : (re == 0) = false := by simpa using a0
            rw [decide_eq_false a0] at HE
            clear a0
            go_wp2_with fail
            go_ret
            exact ⟨by rw [HE.out]; rfl, by first | exact HB.out | (rw [hgg]; exact HB.out)⟩
theorem wholeT_cons (k : Int) (L : List UInt8) (t : Tk) (r : List Tk) : wholeT k L (t :: r) = (decide (r.length ≤ 1) && (decide (t.k = k) && decide (t.s.data.toList = L)) && (decide (r.length = 0) || endsT t.k t.s.data.toList)) := rfl
set_option maxHeartbeats 4000000 in
theorem whole_any (k : Int) (s : ByteArray) (l c : Int) (w : World) : Calls Try.prog 68 #[.agg #[.int .i64 k, .string s, .int .i64 l, .int .i64 c]] w fun e w' => e = .returned (.bool (oneB k s.data.toList)) ∧ Below w.heap.size w w' := by
  have hsl : s.toList = s.data.toList := by rw [ByteArray.toList_eq]
  by_cases h6 : k = 6
  · subst h6
    have HE := Lib.hid (one_semi s.data.toList)
    by_cases h : s.data.toList = [59]
    · have ht : (s.toList == [59]) = true := by rw [hsl, h]; rfl
      rw [decide_eq_true h] at HE
      clear h hsl
      go_enter Try.func68, Try.ntmps68
      go_wp2_with fail
      go_ret
      exact ⟨by rw [HE.out]; rfl, al _⟩
    · have ht : (s.toList == [59]) = false := by rw [hsl, beq_eq_false_iff_ne]; exact h
      rw [decide_eq_false h] at HE
      clear h hsl
      go_enter Try.func68, Try.ntmps68
      go_wp2_with fail
      go_ret
      exact ⟨by rw [HE.out]; rfl, al _⟩
  · have hk6 : (k == 6) = false := by simpa using h6
    clear h6
    have HSL := Lib.hid hsl
    clear hsl
    go_enter Try.func68, Try.ntmps68
    go_wp2_with fail
    refine (tokensV s _).mono ?_
    rintro e w1 ⟨⟨v, a, b, cc, rfl, hv⟩, hb⟩
    have hb' := hb
    generalize hw2 : World.alloc w _ = w2 at hb'
    have hlt2 : w.heap.size < w2.heap.size := by subst hw2; simp
    have hlt1 : w.heap.size < w1.heap.size := Nat.lt_of_lt_of_le hlt2 hb'.size
    have d0 : w1.cell? ⟨w.heap.size, 0, none⟩ = some (.int .i64 k) := (hb'.cell (p := ⟨w.heap.size, 0, none⟩) hlt2).trans (by subst hw2; simp [go_sem])
    have d1 : w1.cell? ⟨w.heap.size, 1, none⟩ = some (.string s) := (hb'.cell (p := ⟨w.heap.size, 1, none⟩) hlt2).trans (by subst hw2; simp [go_sem])
    have HB := Lib.hid (show Below w.heap.size w w1 by subst hw2; exact sq (al _) hb)
    clear hlt2 hb' hb hw2 w2
    generalize hgg : w.heap.size = gg at *
    rcases hv with ⟨hlong, rfl, hs⟩ | ⟨hle, R, hr, hm⟩
    · simp at hs
      obtain ⟨rfl, rfl, rfl⟩ := hs
      have HE := Lib.hid (one_long (k := k) (L := s.data.toList) (show 8000 < s.data.toList.length from hlong))
      clear hlong
      go_wp2_with fail
      go_ret
      exact ⟨by rw [HE.out]; rfl, by first | exact HB.out.alloc (Nat.le_of_lt hlt1) _ | (rw [hgg]; exact HB.out.alloc (Nat.le_of_lt hlt1) _)⟩
    · cases R with
      | bad c0 pl =>
        obtain ⟨rfl, hs⟩ := hm
        simp at hs
        obtain ⟨rfl, rfl, rfl⟩ := hs
        have HE := Lib.hid (bad_one (k := k) hr)
        clear hr hle
        by_cases ha : a = 0
        · subst ha
          go_wp2_with fail
          go_ret
          exact ⟨by rw [HE.out]; rfl, by first | exact HB.out.alloc (Nat.le_of_lt hlt1) _ | (rw [hgg]; exact HB.out.alloc (Nat.le_of_lt hlt1) _)⟩
        · have han : (a != 0) = true := by simpa using ha
          clear ha
          go_wp2_with fail
          go_ret
          exact ⟨by rw [HE.out]; rfl, by first | exact HB.out.alloc (Nat.le_of_lt hlt1) _ | (rw [hgg]; exact HB.out.alloc (Nat.le_of_lt hlt1) _)⟩
      | ok T =>
        obtain ⟨A, C, rfl, hs, hrd, hl⟩ := hm
        simp at hs
        obtain ⟨rfl, rfl, rfl⟩ := hs
        have HE := Lib.hid (whole_one (k := k) (L := s.data.toList) hle hr)
        clear hr hle
        rcases T with _ | ⟨t, r⟩
        · clear hrd hl
          go_wp2_with fail
          go_ret
          exact ⟨by rw [← HE.out]; rfl, by first | exact HB.out.alloc (Nat.le_of_lt hlt1) _ | (rw [hgg]; exact HB.out.alloc (Nat.le_of_lt hlt1) _)⟩
        · rw [wholeT_cons] at HE
          obtain ⟨n, hn⟩ : ∃ n, n = r.length + 1 := ⟨_, rfl⟩
          have hnl : (t :: r).length = n := by simp [hn]
          rw [hnl] at hrd hl
          have HN := Lib.hid hn
          rw [hnl]
          by_cases h1 : 2 < n
          · rw [decide_eq_false (show ¬ r.length ≤ 1 by omega)] at HE
            have h1i : (2 : Int) < (n : Int) := by omega
            have h0i : ((n : Int) == 0) = false := by simp; omega
            clear hrd hl hn hnl
            go_wp2_with fail
            go_ret
            exact ⟨by rw [← HE.out]; rfl, by first | exact HB.out.alloc (Nat.le_of_lt hlt1) _ | (rw [hgg]; exact HB.out.alloc (Nat.le_of_lt hlt1) _)⟩
          · rw [decide_eq_true (show r.length ≤ 1 by omega)] at HE
            have h1i : ¬ (2 : Int) < (n : Int) := by omega
            have h0i : ((n : Int) == 0) = false := by simp; omega
            have hpos : (0 : Int) < (n : Int) := by omega
            obtain ⟨bb, off, rfl, hbl, e0, e1, e2, e3⟩ := hrd.tok (i := 0) (t := t) hnl.symm rfl
            simp only [Nat.zero_mul, Nat.add_zero] at e0 e1 e2 e3
            obtain ⟨tk, ts, tl, tc⟩ := t
            simp only at e0 e1 e2 e3 HE
            have HTS := Lib.hid (show ts.toList = ts.data.toList by rw [ByteArray.toList_eq])
            clear hrd hl hn hnl
            have HBW := Lib.hid (fun (o : Obj) => HB.out.alloc (Nat.le_of_lt hlt1) o)
            go_wp2_with fail
            generalize hw5 : World.alloc w1 _ = w5
            have f0 : w5.cell? ⟨bb, off, none⟩ = some (.int .i64 tk) := by subst hw5; exact (World.cell?_alloc_lt w1 _ ⟨bb, off, none⟩ hbl).trans e0
            have f1 : w5.cell? ⟨bb, off + 1, none⟩ = some (.string ts) := by subst hw5; exact (World.cell?_alloc_lt w1 _ ⟨bb, off + 1, none⟩ hbl).trans e1
            have f2 : w5.cell? ⟨bb, off + 2, none⟩ = some (.int .i64 tl) := by subst hw5; exact (World.cell?_alloc_lt w1 _ ⟨bb, off + 2, none⟩ hbl).trans e2
            have f3 : w5.cell? ⟨bb, off + 3, none⟩ = some (.int .i64 tc) := by subst hw5; exact (World.cell?_alloc_lt w1 _ ⟨bb, off + 3, none⟩ hbl).trans e3
            have g0 : w5.cell? ⟨gg, 0, none⟩ = some (.int .i64 k) := by subst hw5; exact (World.cell?_alloc_lt w1 _ ⟨gg, 0, none⟩ hlt1).trans d0
            have g1 : w5.cell? ⟨gg, 1, none⟩ = some (.string s) := by subst hw5; exact (World.cell?_alloc_lt w1 _ ⟨gg, 1, none⟩ hlt1).trans d1
            have HB5 : Hid (Below gg w w5) := by subst hw5; exact Lib.hid (HBW.out _)
            have HLT5 : Hid (gg ≤ w5.heap.size) := by subst hw5; exact Lib.hid (by simp; omega)
            clear hw5 e0 e1 e2 e3 d0 d1 hbl HBW
            have hposn : 0 < n := by have := HN.out; omega
            have hposi : (0 : Int) < (n : Int) := by omega
            by_cases ek : tk = k
            · have bk : (tk == k) = true := by simpa using ek
              rw [decide_eq_true ek] at HE
              clear ek
              by_cases es : ts.data.toList = s.data.toList
              · have bs : (ts.toList == s.toList) = true := by rw [HTS.out, HSL.out, es]; exact beq_self_eq_true _
                rw [decide_eq_true es] at HE
                clear es
                by_cases hn1 : n = 1
                · have b1 : ((n : Int) == 1) = true := by simp; omega
                  rw [decide_eq_true (show r.length = 0 by have := HN.out; omega)] at HE
                  clear hn1
                  go_quiet (fail)
                  go_wp2_with fail
                  go_ret
                  exact ⟨by rw [← HE.out]; rfl, by first | exact dr HB5.out _ | (rw [hgg]; exact dr HB5.out _)⟩
                · have b1 : ((n : Int) == 1) = false := by simp; omega
                  rw [decide_eq_false (show ¬ r.length = 0 by have := HN.out; omega)] at HE
                  clear hn1
                  go_still_tail 24, (by kernel_rfl)
                  change wpList _ _ _ _ _ w5.drew
                  go_wp2_with fail
                  refine (ends_any tk tl tc ts _).mono ?_
                  rintro e w6 ⟨rfl, hb6⟩
                  have HB6 := Lib.hid (Below.trans (dr HB5.out 1) (hb6.mono HLT5.out))
                  generalize endsT tk ts.data.toList = eb at *
                  clear hb6
                  go_wp2_with fail
                  go_ret
                  exact ⟨by rw [← HE.out]; simp, by first | exact HB6.out | (rw [hgg]; exact HB6.out)⟩
              · have bs : (ts.toList == s.toList) = false := by rw [HTS.out, HSL.out, beq_eq_false_iff_ne]; exact es
                rw [decide_eq_false es] at HE
                clear es
                go_quiet (fail)
                go_wp2_with fail
                go_ret
                exact ⟨by rw [← HE.out]; rfl, by first | exact dr HB5.out _ | (rw [hgg]; exact dr HB5.out _)⟩
            · have bk : (tk == k) = false := by simpa using ek
              rw [decide_eq_false ek] at HE
              clear ek
              go_quiet (fail)
              go_wp2_with fail
              go_ret
              exact ⟨by rw [← HE.out]; rfl, by first | exact dr HB5.out _ | (rw [hgg]; exact dr HB5.out _)⟩
open Go
def kAt (T : List Tk) (i : Nat) : Int := (T.getD i ⟨0, ⟨#[]⟩, 0, 0⟩).k
def sAt (T : List Tk) (i : Nat) : List UInt8 := (T.getD i ⟨0, ⟨#[]⟩, 0, 0⟩).s.data.toList
theorem kAt_of {T : List Tk} {i : Nat} {t : Tk} (h : T[i]? = some t) : kAt T i = t.k := by simp [kAt, List.getD, h]
theorem sAt_of {T : List Tk} {i : Nat} {t : Tk} (h : T[i]? = some t) : sAt T i = t.s.data.toList := by simp [sAt, List.getD, h]
/-- What stands ahead of token k. -/
def gapP (T : List Tk) (k : Nat) : List UInt8 := if 0 < k ∧ kAt T (k - 1) ≠ 6 then [32] else []
/-- The text of the first k tokens. -/
def outP (T : List Tk) : Nat → List UInt8
  | 0 => []
  | k + 1 => outP T k ++ gapP T k ++ sAt T k ++ (if kAt T k = 6 then [10] else [])
def okTo (T : List Tk) (k : Nat) : Prop := ∀ i < k, oneB (kAt T i) (sAt T i) = true
theorem okTo_next {T : List Tk} {k : Nat} (h : okTo T k) (h1 : oneB (kAt T k) (sAt T k) = true) : okTo T (k + 1) := fun i hi => by
  rcases Nat.lt_or_ge i k with h2 | h2
  · exact h i h2
  · obtain rfl : i = k := by omega
    exact h1
theorem one_len {k : Int} {L : List UInt8} (h : oneB k L = true) : L.length ≤ 8000 := by
  unfold oneB at h
  exact (of_decide_eq_true h).2.1
theorem outP_len {T : List Tk} : ∀ {k : Nat}, okTo T k → (outP T k).length ≤ k * 8002
  | 0, _ => by simp [outP]
  | k + 1, h => by
    have ih := outP_len (T := T) (k := k) fun i hi => h i (by omega)
    have h1 := one_len (h k (by omega))
    have h2 : (gapP T k).length ≤ 1 := by unfold gapP; split <;> simp
    have h3 : (if kAt T k = 6 then [10] else [] : List UInt8).length ≤ 1 := by split <;> simp
    rw [outP]
    simp only [List.length_append]
    omega
/-- What both answer. -/
def showV (T : List Tk) (v : Value) : Prop :=
  (2000 < T.length ∧ v = .tuple #[.string ⟨#[]⟩, .int .i64 15]) ∨
  (T.length ≤ 2000 ∧ ¬ okTo T T.length ∧ v = .tuple #[.string ⟨#[]⟩, .int .i64 13]) ∨
  (T.length ≤ 2000 ∧ okTo T T.length ∧ 8000 < (outP T T.length).length ∧ v = .tuple #[.string ⟨#[]⟩, .int .i64 1]) ∨
  (T.length ≤ 2000 ∧ okTo T T.length ∧ (outP T T.length).length ≤ 8000 ∧ v = .tuple #[.string ⟨(outP T T.length).toArray⟩, .int .i64 0])
theorem showV_same {T : List Tk} {v v' : Value} (h : showV T v) (h' : showV T v') : v = v' := by
  rcases h with ⟨a, rfl⟩ | ⟨a, b, rfl⟩ | ⟨a, b, c, rfl⟩ | ⟨a, b, c, rfl⟩ <;> rcases h' with ⟨a', rfl⟩ | ⟨a', b', rfl⟩ | ⟨a', b', c', rfl⟩ | ⟨a', b', c', rfl⟩ <;> first | rfl | (exfalso; omega) | exact absurd b' b | exact absurd b b' | skip
theorem showV_a : showV [⟨1, ⟨#[97]⟩, 0, 0⟩] (.tuple #[.string ⟨#[97]⟩, .int .i64 0]) := by
  have h1 : okTo [⟨1, ⟨#[97]⟩, 0, 0⟩] 1 := by
    intro i hi
    obtain rfl : i = 0 := by omega
    decide +kernel
  exact .inr (.inr (.inr ⟨by simp, h1, by decide +kernel, rfl⟩))
end Go.Proofs.Ytgjhjojbaieeaaa
