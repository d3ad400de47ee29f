/- Shorter code, in plain Lean: places that can be come to, what stays, a round, all rounds. Conditions: none. -/
import Derived.Test.YtapbdfcihheecaaSqP
set_option maxRecDepth 20000
namespace Go.Proofs.Ytapbdfcihheecaa
open Go.ChangeShapes Go.WideShapes Go.ChangeAt Go.RowKit
/-- Instructions behind which nothing goes on of itself. -/
def stopI (x : II) : Bool := x.o == 26 || x.o == 29 || x.o == 30
def nextI (p : Nat) (x : II) : List Int := (match tgV x with | some t => [t] | none => []) ++ (if stopI x = true then [] else [(p : Int) + 1])
def nextV (l : List II) (p : Nat) : List Int := match l[p]? with | some x => nextI p x | none => []
inductive Rch (l : List II) : Nat → Prop where
  | zero : Rch l 0
  | step {p q : Nat} : Rch l p → (q : Int) ∈ nextV l p → Rch l q
/-- What every function of sound code has, and keeps. -/
structure Gd (l : List II) : Prop where
  n0 : 0 < l.length
  inb : InB l
  last : ∀ x, l[l.length - 1]? = some x → stopI x = true
theorem next_in {l : List II} (h : Gd l) {p : Nat} {q : Int} (hq : q ∈ nextV l p) : 0 ≤ q ∧ q < (l.length : Int) := by
  unfold nextV at hq
  cases hx : l[p]? with
  | none => rw [hx] at hq; simp at hq
  | some x =>
    rw [hx] at hq
    obtain ⟨hlt, _⟩ := List.getElem?_eq_some_iff.1 hx
    simp only [nextI, List.mem_append] at hq
    rcases hq with hq | hq
    · split at hq
      · rename_i t ht
        rw [List.mem_singleton] at hq
        rw [hq]
        exact h.inb x (List.mem_of_getElem? hx) t ht
      · simp at hq
    · split at hq
      · simp at hq
      · rename_i hs
        rw [List.mem_singleton] at hq
        have : p + 1 < l.length := by
          apply Decidable.byContradiction
          intro hn
          have e : l.length - 1 = p := by omega
          have := h.last x (by rw [e]; exact hx)
          exact hs this
        omega
theorem Rch.lt {l : List II} (h : Gd l) {p : Nat} (hr : Rch l p) : p < l.length := by
  cases hr with
  | zero => exact h.n0
  | step hp hq => have := next_in h hq; omega
/-- Which places can be come to. -/
noncomputable def seenV (l : List II) : List Bool := (List.range l.length).map fun k => @decide (Rch l k) (Classical.propDecidable _)
theorem seen_len (l : List II) : (seenV l).length = l.length := by simp [seenV]
theorem seen_iff {l : List II} {k : Nat} (hk : k < l.length) : (seenV l)[k]? = some true ↔ Rch l k := by
  simp [seenV, hk]
/-- What is found is just what can be come to. -/
theorem seen_uniq {l : List II} {S : List Bool} (hl : S.length = l.length) (h0 : S[0]? = some true) (hin : ∀ k, S[k]? = some true → Rch l k) (hcl : ∀ k, S[k]? = some true → ∀ q : Nat, (q : Int) ∈ nextV l k → S[q]? = some true) : S = seenV l := by
  apply List.ext_getElem?
  intro k
  by_cases hk : k < l.length
  · have hr : ∀ q, Rch l q → S[q]? = some true := by
      intro q hq
      induction hq with
      | zero => exact h0
      | step _ hm ih => exact hcl _ ih _ hm
    obtain ⟨b, hb⟩ : ∃ b, S[k]? = some b := ⟨_, List.getElem?_eq_getElem (by omega)⟩
    obtain ⟨c, hc⟩ : ∃ c, (seenV l)[k]? = some c := ⟨_, List.getElem?_eq_getElem (by rw [seen_len]; exact hk)⟩
    rw [hb, hc]
    congr 1
    cases b with
    | true =>
      have := (seen_iff hk).2 (hin k hb)
      rw [hc] at this
      injection this with this
      exact this.symm
    | false =>
      cases c with
      | false => rfl
      | true =>
        have := hr k ((seen_iff hk).1 hc)
        rw [hb] at this
        cases this
  · rw [List.getElem?_eq_none (by omega), List.getElem?_eq_none (by rw [seen_len]; omega)]
/-! ### What stays -/
/-- How many stay ahead of a place. -/
def cntSt (st : Nat → Bool) : Nat → Nat
  | 0 => 0
  | k + 1 => cntSt st k + (if st k = true then 1 else 0)
theorem cq_mono (st : Nat → Bool) {a b : Nat} (h : a ≤ b) : cntSt st a ≤ cntSt st b := by
  induction b with
  | zero => obtain rfl : a = 0 := by omega
            exact Nat.le_refl _
  | succ b ih =>
    by_cases hb : a ≤ b
    · have := ih hb
      simp only [cntSt]
      omega
    · obtain rfl : a = b + 1 := by omega
      exact Nat.le_refl _
theorem cq_le (st : Nat → Bool) : ∀ k, cntSt st k ≤ k
  | 0 => Nat.le_refl _
  | k + 1 => by
    have := cq_le st k
    simp only [cntSt]
    split <;> omega
theorem cq_lt (st : Nat → Bool) {a b : Nat} (h : a < b) (hs : st a = true) : cntSt st a < cntSt st b := by
  have := cq_mono st (show a + 1 ≤ b from h)
  simp only [cntSt] at this
  rw [if_pos hs] at this
  omega
def keepI (st : Nat → Bool) (x : II) : II := match tgV x with | some t => aimV x (cntSt st t.toNat : Int) | none => x
theorem keep_o (st : Nat → Bool) (x : II) : (keepI st x).o = x.o := by
  unfold keepI
  split
  · exact aim_o _ _
  · rfl
/-- What stays of the first k. -/
def keepF (l : List II) (st : Nat → Bool) : Nat → List II
  | 0 => []
  | k + 1 => keepF l st k ++ (match l[k]? with | some x => if st k = true then [keepI st x] else [] | none => [])
def keepV (l : List II) (st : Nat → Bool) : List II := keepF l st l.length
theorem keepF_len {l : List II} {st : Nat → Bool} : ∀ k, k ≤ l.length → (keepF l st k).length = cntSt st k
  | 0, _ => rfl
  | k + 1, h => by
    rw [keepF, List.length_append, keepF_len k (by omega), List.getElem?_eq_getElem (by omega), cntSt]
    simp only
    split <;> simp
theorem keep_len (l : List II) (st : Nat → Bool) : (keepV l st).length = cntSt st l.length := keepF_len _ (Nat.le_refl _)
theorem keepF_mem {l : List II} {st : Nat → Bool} : ∀ k y, y ∈ keepF l st k → ∃ j x, j < k ∧ l[j]? = some x ∧ st j = true ∧ y = keepI st x
  | 0, y, h => by simp [keepF] at h
  | k + 1, y, h => by
    rw [keepF, List.mem_append] at h
    rcases h with h | h
    · obtain ⟨j, x, h1, h2, h3, h4⟩ := keepF_mem k y h
      exact ⟨j, x, by omega, h2, h3, h4⟩
    · split at h
      · rename_i x hx
        split at h
        · rename_i hs
          rw [List.mem_singleton] at h
          exact ⟨k, x, by omega, hx, hs, h⟩
        · simp at h
      · simp at h
/-- The last that stays. -/
theorem keepF_last {l : List II} {st : Nat → Bool} : ∀ k, k ≤ l.length → 0 < cntSt st k → ∃ j x, j < k ∧ l[j]? = some x ∧ st j = true ∧ (keepF l st k)[cntSt st k - 1]? = some (keepI st x) ∧ ∀ i, j < i → i < k → st i = false
  | 0, _, h => by simp [cntSt] at h
  | k + 1, hk, h => by
    have hx := List.getElem?_eq_getElem (show k < l.length by omega)
    by_cases hs : st k = true
    · refine ⟨k, _, by omega, hx, hs, ?_, fun i h1 h2 => by omega⟩
      rw [keepF, hx]
      simp only [hs, if_true]
      rw [List.getElem?_append_right (by rw [keepF_len (l := l) (st := st) k (by omega)]; simp only [cntSt, hs, if_true]; omega), keepF_len (l := l) (st := st) k (by omega)]
      simp [cntSt, hs]
    · have hs' : st k = false := by simpa using hs
      have e : cntSt st (k + 1) = cntSt st k := by simp [cntSt, hs']
      rw [e] at h ⊢
      obtain ⟨j, x, h1, h2, h3, h4, h5⟩ := keepF_last (l := l) (st := st) k (by omega) h
      refine ⟨j, x, by omega, h2, h3, ?_, fun i h6 h7 => ?_⟩
      · rw [keepF, hx]
        simp only [hs', Bool.false_eq_true, if_false, List.append_nil]
        exact h4
      · by_cases hik : i < k
        · exact h5 i h6 hik
        · obtain rfl : i = k := by omega
          exact hs'
theorem keepF_all {l : List II} {st : Nat → Bool} (h : ∀ k, k < l.length → st k = true) : ∀ k, k ≤ l.length → keepF l st k = (l.take k).map (keepI st)
  | 0, _ => rfl
  | k + 1, hk => by
    have hx := List.getElem?_eq_getElem (show k < l.length by omega)
    rw [keepF, keepF_all h k (by omega), hx, List.take_add_one, hx, List.map_append]
    simp only [h k (by omega), if_true]
    rfl
theorem cq_all {st : Nat → Bool} {n : Nat} (h : ∀ k, k < n → st k = true) : ∀ k, k ≤ n → cntSt st k = k
  | 0, _ => rfl
  | k + 1, hk => by simp [cntSt, h k (by omega), cq_all h k (by omega)]
/-- Where all stays nothing changes. -/
theorem keep_all {l : List II} (hl : InB l) {st : Nat → Bool} (h : ∀ k, k < l.length → st k = true) : keepV l st = l := by
  unfold keepV
  rw [keepF_all h _ (Nat.le_refl _), List.take_length]
  conv => rhs; rw [← List.map_id l]
  apply List.map_congr_left
  intro x hx
  unfold keepI
  split
  · rename_i t ht
    have hb := hl x hx t ht
    rw [cq_all h _ (by omega), show ((t.toNat : Nat) : Int) = t by omega, aim_same ht]
    rfl
  · rfl
theorem cq_full {st : Nat → Bool} {n : Nat} (h : cntSt st n = n) : ∀ k, k < n → st k = true := by
  induction n with
  | zero => intro k hk; omega
  | succ n ih =>
    have h1 := cq_le st n
    rw [cntSt] at h
    split at h
    · rename_i hs
      intro k hk
      by_cases hkn : k < n
      · exact ih (by omega) k hkn
      · obtain rfl : k = n := by omega
        exact hs
    · omega
/-- What stays is right again. -/
theorem Gd.keep {l : List II} (_ : Gd l) {st : Nat → Bool} (h0 : ∃ k, k < l.length ∧ st k = true) (ht : ∀ k x t, l[k]? = some x → st k = true → tgV x = some t → cntSt st t.toNat < cntSt st l.length)
    (hl : ∀ k x, l[k]? = some x → st k = true → (∀ i, k < i → i < l.length → st i = false) → stopI x = true) : Gd (keepV l st) := by
  have hn : 0 < cntSt st l.length := by
    obtain ⟨k, hk, hs⟩ := h0
    have := cq_lt st hk hs
    omega
  refine ⟨by rw [keep_len]; exact hn, fun y hy t hty => ?_, fun y hy => ?_⟩
  · obtain ⟨j, x, _, hx, hs, rfl⟩ := keepF_mem _ _ hy
    rw [keep_len]
    unfold keepI at hty
    split at hty
    · rename_i t' ht'
      rw [aim_tg ht'] at hty
      injection hty with hty
      have := ht j x t' hx hs ht'
      omega
    · rename_i hn'
      rw [hn'] at hty
      cases hty
  · obtain ⟨j, x, _, hx, hs, h4, h5⟩ := keepF_last (l := l) (st := st) l.length (Nat.le_refl _) hn
    rw [keep_len] at hy
    have e : some (keepI st x) = some y := h4.symm.trans hy
    injection e with e
    rw [← e]
    have := hl j x hx hs h5
    unfold stopI at this ⊢
    rw [keep_o]
    exact this
/-! ### A round -/
noncomputable def stayA (a : List II) (k : Nat) : Bool := ((seenV a)[k]?).getD false
def idleI (x : II) (k : Nat) : Bool := (x.o == 6 && x.a == x.b) || (x.o == 26 && x.a == (k : Int) + 1)
def stayB (b : List II) (k : Nat) : Bool := match b[k]? with | some x => !idleI x k || k == b.length - 1 | none => false
noncomputable def onceV (l : List II) : List II :=
  keepV (keepV (thread l) (stayA (thread l))) (stayB (keepV (thread l) (stayA (thread l))))
theorem Gd.thread {l : List II} (h : Gd l) : Gd (thread l) := by
  refine ⟨by rw [thread_len]; exact h.n0, h.inb.thread, fun y hy => ?_⟩
  rw [thread_len, thread_at] at hy
  cases hx : l[l.length - 1]? with
  | none => rw [hx] at hy; cases hy
  | some x =>
    rw [hx] at hy
    injection hy with hy
    have := h.last x hx
    unfold stopI at this ⊢
    rw [← hy, thr_o]
    exact this
theorem stayA_iff {a : List II} (h : Gd a) (k : Nat) : stayA a k = true ↔ Rch a k := by
  unfold stayA
  constructor
  · intro hs
    by_cases hk : k < a.length
    · refine (seen_iff hk).1 ?_
      cases hc : (seenV a)[k]? with
      | none => rw [hc] at hs; cases hs
      | some b => rw [hc] at hs; exact congrArg some hs
    · rw [List.getElem?_eq_none (by rw [seen_len]; omega)] at hs
      cases hs
  · intro hr
    rw [(seen_iff (hr.lt h)).2 hr]
    rfl
theorem Gd.keepA {a : List II} (h : Gd a) : Gd (keepV a (stayA a)) := by
  refine h.keep ⟨0, h.n0, (stayA_iff h 0).2 .zero⟩ (fun k x t hx hs ht => ?_) (fun k x hx hs hno => ?_)
  · have hb := h.inb x (List.mem_of_getElem? hx) t ht
    refine cq_lt _ (by omega) ((stayA_iff h _).2 (.step ((stayA_iff h _).1 hs) ?_))
    unfold nextV
    rw [hx]
    simp only [nextI, ht]
    rw [show ((t.toNat : Nat) : Int) = t by omega]
    simp
  · cases hst : stopI x with
    | true => rfl
    | false =>
      have hm : ((k + 1 : Nat) : Int) ∈ nextV a k := by
        unfold nextV
        rw [hx]
        simp [nextI, hst]
      have hr := Rch.step ((stayA_iff h _).1 hs) hm
      have := hno (k + 1) (by omega) (hr.lt h)
      rw [(stayA_iff h _).2 hr] at this
      cases this
theorem Gd.keepB {b : List II} (h : Gd b) : Gd (keepV b (stayB b)) := by
  have hn := h.n0
  obtain ⟨x, hx⟩ : ∃ x, b[b.length - 1]? = some x := ⟨_, List.getElem?_eq_getElem (by omega)⟩
  have hs : stayB b (b.length - 1) = true := by unfold stayB; rw [hx]; simp
  refine h.keep ⟨b.length - 1, by omega, hs⟩ (fun k y t hy hsk ht => ?_) (fun k y hy hsk hno => ?_)
  · have hb := h.inb y (List.mem_of_getElem? hy) t ht
    exact Nat.lt_of_le_of_lt (cq_mono _ (show t.toNat ≤ b.length - 1 by omega)) (cq_lt _ (by omega) hs)
  · by_cases hk : k < b.length - 1
    · have := hno (b.length - 1) hk (by omega)
      rw [hs] at this
      cases this
    · obtain ⟨hlt, _⟩ := List.getElem?_eq_some_iff.1 hy
      obtain rfl : k = b.length - 1 := by omega
      exact h.last y hy
theorem Gd.once {l : List II} (h : Gd l) : Gd (onceV l) := h.thread.keepA.keepB
theorem once_len (l : List II) : (onceV l).length ≤ l.length := by
  unfold onceV
  rw [keep_len]
  refine Nat.le_trans (cq_le _ _) ?_
  rw [keep_len]
  refine Nat.le_trans (cq_le _ _) ?_
  rw [thread_len]
  exact Nat.le_refl _
/-- A round that takes nothing away only follows jumps. -/
theorem once_full {l : List II} (h : Gd l) (he : (onceV l).length = l.length) : onceV l = thread l := by
  have h1 := cq_le (stayA (thread l)) (thread l).length
  have h2 := cq_le (stayB (keepV (thread l) (stayA (thread l)))) (keepV (thread l) (stayA (thread l))).length
  have h3 : (onceV l).length = cntSt (stayB (keepV (thread l) (stayA (thread l)))) (keepV (thread l) (stayA (thread l))).length := by unfold onceV; rw [keep_len]
  have h4 := keep_len (thread l) (stayA (thread l))
  rw [thread_len] at h1 h4
  have e1 : keepV (thread l) (stayA (thread l)) = thread l := keep_all h.thread.inb (cq_full (by rw [thread_len]; omega))
  unfold onceV
  rw [e1]
  rw [e1] at h2 h3
  rw [thread_len] at h2 h3
  exact keep_all h.thread.inb (cq_full (by rw [thread_len]; omega))
/-- How many rounds there may be. -/
noncomputable def roundsM (l : List II) : Nat := 2 * l.length + @ite _ (thread l = l) (Classical.propDecidable _) 0 1
theorem once_less {l : List II} (h : Gd l) (hne : onceV l ≠ l) : roundsM (onceV l) < roundsM l := by
  have hl := once_len l
  unfold roundsM
  by_cases he : (onceV l).length = l.length
  · have e := once_full h he
    have hn : thread l ≠ l := fun e2 => hne (e.trans e2)
    have ht : thread (onceV l) = onceV l := by rw [e]; exact thread_thread h.inb
    rw [if_pos ht, if_neg hn, he]
    omega
  · split <;> split <;> omega
end Go.Proofs.Ytapbdfcihheecaa
