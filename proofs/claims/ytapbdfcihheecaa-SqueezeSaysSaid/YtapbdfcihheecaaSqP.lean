/- Shorter code, in plain Lean: jumps followed, places that can be come to, what stays. Conditions: none. -/
import Derived.Test.YtapbdfcihheecaaCdV
import Derived.Test.YtapbdfcihheecaaGuard2
set_option maxRecDepth 20000
namespace Go.Proofs.Ytapbdfcihheecaa
open Go.ChangeShapes Go.WideShapes Go.ChangeAt Go.RowKit
/-- The place to which an instruction goes, if to any. -/
def tgV (x : II) : Option Int := if tgtB x.o = true then some (tgtN x.o x.a x.b) else none
def aimV (x : II) (p : Int) : II := if x.o = 27 ∨ x.o = 38 then { x with b := p } else { x with a := p }
theorem tg_cases {x : II} {t : Int} (h : tgV x = some t) : ((x.o = 27 ∨ x.o = 38) ∧ x.b = t) ∨ (¬ (x.o = 27 ∨ x.o = 38) ∧ (x.o = 25 ∨ x.o = 26 ∨ x.o = 36 ∨ x.o = 40) ∧ x.a = t) := by
  unfold tgV at h
  split at h
  · rename_i hb
    injection h with h
    simp only [tgtB, Bool.or_eq_true, beq_iff_eq] at hb
    simp only [tgtN, Bool.or_eq_true, beq_iff_eq] at h
    split at h
    · rename_i h1
      exact .inr ⟨by omega, by omega, h⟩
    · rw [if_pos (by omega)] at h
      exact .inl ⟨by omega, h⟩
  · cases h
theorem aim_o (x : II) (p : Int) : (aimV x p).o = x.o := by unfold aimV; split <;> rfl
theorem aim_tg {x : II} {t : Int} (h : tgV x = some t) (p : Int) : tgV (aimV x p) = some p := by
  rcases tg_cases h with ⟨h1, _⟩ | ⟨h1, h2, _⟩
  · have hb : tgtB x.o = true := by simp only [tgtB, Bool.or_eq_true, beq_iff_eq]; omega
    have hn : ¬ (x.o = 25 ∨ x.o = 26 ∨ x.o = 36 ∨ x.o = 40) := by omega
    unfold tgV
    rw [aim_o, if_pos hb]
    simp only [aimV, if_pos h1, tgtN, Bool.or_eq_true, beq_iff_eq]
    rw [if_neg (by omega)]
  · have hb : tgtB x.o = true := by simp only [tgtB, Bool.or_eq_true, beq_iff_eq]; omega
    unfold tgV
    rw [aim_o, if_pos hb]
    simp only [aimV, if_neg h1, tgtN, Bool.or_eq_true, beq_iff_eq]
    rw [if_pos (by omega)]
theorem aim_same {x : II} {t : Int} (h : tgV x = some t) : aimV x t = x := by
  rcases tg_cases h with ⟨h1, h2⟩ | ⟨h1, _, h2⟩
  · unfold aimV; rw [if_pos h1, ← h2]
  · unfold aimV; rw [if_neg h1, ← h2]
theorem aim_aim (x : II) (p q : Int) : aimV (aimV x p) q = aimV x q := by
  by_cases h : x.o = 27 ∨ x.o = 38
  · simp only [aimV, if_pos h]
  · simp only [aimV, if_neg h]
theorem tg_none {x y : II} (h : x.o = y.o) (hx : tgV x = none) : tgV y = none := by
  unfold tgV at hx ⊢
  rw [← h]
  split at hx
  · cases hx
  · rename_i hn
    rw [if_neg hn]
/-! ### Jumps followed -/
def isJ (l : List II) (p : Nat) : Bool := match l[p]? with | some x => x.o == 26 | none => false
def nxJ (l : List II) (p : Nat) : Nat := match l[p]? with | some x => x.a.toNat | none => 0
def itJ (l : List II) (p : Nat) : Nat → Nat
  | 0 => p
  | k + 1 => nxJ l (itJ l p k)
theorem it_add (l : List II) (p i : Nat) : ∀ k, itJ l p (i + k) = itJ l (itJ l p i) k
  | 0 => rfl
  | k + 1 => by
    show nxJ l (itJ l p (i + k)) = nxJ l (itJ l (itJ l p i) k)
    rw [it_add l p i k]
/-- Where the jumps end, within so many steps. -/
def endF (l : List II) : Nat → Nat → Option Nat
  | 0, _ => none
  | f + 1, p => if isJ l p = true then endF l f (nxJ l p) else some p
def endV (l : List II) (p : Nat) : Nat := (endF l l.length p).getD p
/-- What stands in a code whose places are right. -/
def InB (l : List II) : Prop := ∀ x ∈ l, ∀ t, tgV x = some t → 0 ≤ t ∧ t < (l.length : Int)
theorem isJ_some {l : List II} {p : Nat} (h : isJ l p = true) : ∃ x, l[p]? = some x ∧ x.o = 26 ∧ nxJ l p = x.a.toNat ∧ tgV x = some x.a ∧ p < l.length := by
  unfold isJ at h
  cases hx : l[p]? with
  | none => rw [hx] at h; cases h
  | some x =>
    rw [hx] at h
    have ho : x.o = 26 := by simpa using h
    refine ⟨x, rfl, ho, by unfold nxJ; rw [hx], ?_, (List.getElem?_eq_some_iff.1 hx).1⟩
    unfold tgV
    rw [ho]
    simp [tgtB, tgtN]
theorem nx_lt {l : List II} (hl : InB l) {p : Nat} (h : isJ l p = true) : nxJ l p < l.length := by
  obtain ⟨x, hx, _, e, ht, _⟩ := isJ_some h
  have := hl x (List.mem_of_getElem? hx) _ ht
  rw [e]
  omega
theorem endF_spec (l : List II) : ∀ (f p q : Nat), endF l f p = some q ↔ ∃ k, k < f ∧ q = itJ l p k ∧ isJ l (itJ l p k) = false ∧ ∀ j, j < k → isJ l (itJ l p j) = true
  | 0, p, q => by simp [endF]
  | f + 1, p, q => by
    unfold endF
    split
    · rename_i h
      rw [endF_spec l f (nxJ l p) q]
      have e : ∀ k, itJ l (nxJ l p) k = itJ l p (k + 1) := fun k => by
        have := it_add l p 1 k
        rw [Nat.add_comm k 1, this]
        rfl
      constructor
      · rintro ⟨k, h1, h2, h3, h4⟩
        refine ⟨k + 1, by omega, by rw [h2, e], by rw [← e]; exact h3, fun j hj => ?_⟩
        rcases j with _ | j
        · exact h
        · rw [← e]; exact h4 j (by omega)
      · rintro ⟨k, h1, h2, h3, h4⟩
        rcases k with _ | k
        · change isJ l p = false at h3
          rw [h] at h3; cases h3
        · exact ⟨k, by omega, by rw [h2, e], by rw [e]; exact h3, fun j hj => by rw [e]; exact h4 (j + 1) (by omega)⟩
    · rename_i h
      have h : isJ l p = false := by simpa using h
      constructor
      · intro e
        injection e with e
        exact ⟨0, by omega, e.symm, h, fun j hj => by omega⟩
      · rintro ⟨k, h1, h2, h3, h4⟩
        rcases k with _ | k
        · rw [h2]; rfl
        · have := h4 0 (by omega)
          change isJ l p = true at this
          rw [h] at this; cases this
/-- Numbers below n, none twice, are at most n. -/
theorem nodup_le : ∀ (n : Nat) (v : List Nat), v.Nodup → (∀ x ∈ v, x < n) → v.length ≤ n
  | 0, v, _, h => by
    cases v with
    | nil => simp
    | cons a r => have := h a (by simp); omega
  | n + 1, v, hd, h => by
    have h1 := nodup_le n (v.filter (· ≠ n)) (hd.filter _) (fun x hx => by
      rw [List.mem_filter] at hx
      have := h x hx.1
      have h2 : x ≠ n := by simpa using hx.2
      omega)
    have h2 : v.length ≤ (v.filter (· ≠ n)).length + 1 := by
      clear h1 h
      induction v with
      | nil => simp
      | cons a r ih =>
        rw [List.nodup_cons] at hd
        rw [List.filter_cons]
        split
        · rw [List.length_cons, List.length_cons]
          have := ih hd.2
          omega
        · rename_i ha
          have ha : a = n := by simpa using ha
          have e : r.filter (· ≠ n) = r := by
            rw [List.filter_eq_self]
            intro x hx
            have : x ≠ n := fun e => hd.1 (by rw [ha, ← e]; exact hx)
            simpa using this
          rw [e, List.length_cons]
          omega
    omega
theorem it_lt {l : List II} (hl : InB l) {p : Nat} (hp : p < l.length) : ∀ k, (∀ j, j < k → isJ l (itJ l p j) = true) → itJ l p k < l.length
  | 0, _ => hp
  | k + 1, h => nx_lt hl (h k (by omega))
/-- Jumps that all differ. -/
def Diff (l : List II) (p i : Nat) : Prop := ∀ a b, a < b → b < i → itJ l p a ≠ itJ l p b
theorem diff_le {l : List II} (hl : InB l) {p i : Nat} (hp : p < l.length) (hj : ∀ j, j + 1 < i → isJ l (itJ l p j) = true) (hd : Diff l p i) : i ≤ l.length := by
  have h := nodup_le l.length ((List.range i).map (itJ l p)) (by
    rw [List.nodup_iff_pairwise_ne, List.pairwise_map]
    refine List.Pairwise.imp_of_mem ?_ (List.pairwise_lt_range (n := i))
    intro a b ha hb hlt
    exact hd a b hlt (List.mem_range.1 hb)) (fun x hx => by
    obtain ⟨k, hk, rfl⟩ := List.mem_map.1 hx
    rw [List.mem_range] at hk
    exact it_lt hl hp k fun j hjk => hj j (by omega))
  simpa using h
/-- The first place that is no jump comes early. -/
theorem first_lt {l : List II} (hl : InB l) {p k : Nat} (hp : p < l.length) (h3 : isJ l (itJ l p k) = false) (h4 : ∀ j, j < k → isJ l (itJ l p j) = true) : k < l.length := by
  refine diff_le hl hp (i := k + 1) (fun j hj => h4 j (by omega)) fun a b hab hb e => ?_
  have h5 : itJ l p (a + (k - b)) = itJ l p k := by
    rw [it_add, e, ← it_add]
    congr 1
    omega
  have h6 := h4 (a + (k - b)) (by omega)
  rw [h5, h3] at h6
  cases h6
theorem endF_none {l : List II} (hl : InB l) {p : Nat} (hp : p < l.length) (h : endF l l.length p = none) : ∀ k, (∀ j, j < k → isJ l (itJ l p j) = true) → isJ l (itJ l p k) = true := by
  intro k hk
  cases hj : isJ l (itJ l p k) with
  | true => rfl
  | false =>
    have := (endF_spec l l.length p (itJ l p k)).2 ⟨k, first_lt hl hp hj hk, rfl, hj, hk⟩
    rw [h] at this
    cases this
theorem endF_all {l : List II} (hl : InB l) {p : Nat} (hp : p < l.length) (h : endF l l.length p = none) : ∀ k, isJ l (itJ l p k) = true := by
  have key : ∀ k, ∀ j, j < k → isJ l (itJ l p j) = true := by
    intro k
    induction k with
    | zero => intro j hj; omega
    | succ k ih =>
      intro j hj
      by_cases hjk : j < k
      · exact ih j hjk
      · obtain rfl : j = k := by omega
        exact endF_none hl hp h j ih
  exact fun k => key (k + 1) k (by omega)
theorem endF_loop {l : List II} {p : Nat} (h : ∀ k, isJ l (itJ l p k) = true) (f : Nat) : endF l f p = none := by
  cases he : endF l f p with
  | none => rfl
  | some q =>
    obtain ⟨k, _, _, h3, _⟩ := (endF_spec l f p q).1 he
    rw [h k] at h3
    cases h3
theorem endV_first {l : List II} (hl : InB l) {p k : Nat} (hp : p < l.length) (h3 : isJ l (itJ l p k) = false) (h4 : ∀ j, j < k → isJ l (itJ l p j) = true) : endV l p = itJ l p k := by
  unfold endV
  rw [(endF_spec l l.length p (itJ l p k)).2 ⟨k, first_lt hl hp h3 h4, rfl, h3, h4⟩]
  rfl
/-- A place met again: the jumps go round. -/
theorem endV_round {l : List II} {p a b : Nat} (hab : a < b) (h4 : ∀ j, j < b → isJ l (itJ l p j) = true) (e : itJ l p a = itJ l p b) : endV l p = p := by
  have hall : ∀ k, isJ l (itJ l p k) = true := by
    intro k
    induction k using Nat.strongRecOn with
    | ind k ih =>
      by_cases hk : k < b
      · exact h4 k hk
      · have h5 : itJ l p k = itJ l p (a + (k - b)) := by
          have h6 : itJ l p (b + (k - b)) = itJ l p (a + (k - b)) := by rw [it_add, it_add l p a, e]
          rwa [show b + (k - b) = k by omega] at h6
        rw [h5]
        exact ih _ (by omega)
  unfold endV
  rw [endF_loop hall]
  rfl
theorem endV_lt {l : List II} (hl : InB l) {p : Nat} (hp : p < l.length) : endV l p < l.length := by
  unfold endV
  cases he : endF l l.length p with
  | none => exact hp
  | some q =>
    obtain ⟨k, _, rfl, _, h4⟩ := (endF_spec l l.length p q).1 he
    exact it_lt hl hp k h4
def thrI (l : List II) (x : II) : II := match tgV x with | some t => aimV x (endV l t.toNat : Int) | none => x
def thread (l : List II) : List II := l.map (thrI l)
theorem thr_o (l : List II) (x : II) : (thrI l x).o = x.o := by
  unfold thrI
  split
  · exact aim_o _ _
  · rfl
theorem thread_len (l : List II) : (thread l).length = l.length := by simp [thread]
theorem thread_at (l : List II) (p : Nat) : (thread l)[p]? = (l[p]?).map (thrI l) := by simp [thread]
theorem isJ_thread (l : List II) (p : Nat) : isJ (thread l) p = isJ l p := by
  unfold isJ
  rw [thread_at]
  cases l[p]? with
  | none => rfl
  | some x => simp [thr_o]
theorem InB.thread {l : List II} (h : InB l) : InB (thread l) := by
  intro y hy t ht
  obtain ⟨x, hx, rfl⟩ := List.mem_map.1 hy
  rw [thread_len]
  unfold thrI at ht
  split at ht
  · rename_i t' ht'
    rw [aim_tg ht'] at ht
    injection ht with ht
    have h1 := h x hx t' ht'
    have := endV_lt h (p := t'.toNat) (by omega)
    omega
  · rename_i hn
    rw [hn] at ht
    cases ht
theorem endV_thread {l : List II} (h : InB l) {t : Nat} (ht : t < l.length) : endV (thread l) (endV l t) = endV l t := by
  have h' := h.thread
  cases he : endF l l.length t with
  | some q =>
    obtain ⟨k, _, rfl, h3, h4⟩ := (endF_spec l l.length t q).1 he
    have e : endV l t = itJ l t k := by unfold endV; rw [he]; rfl
    rw [e]
    exact endV_first h' (k := 0) (by rw [thread_len]; exact it_lt h ht k h4) (by rw [isJ_thread]; exact h3) (fun j hj => by omega)
  | none =>
    have hall := endF_all h ht he
    have e : endV l t = t := by unfold endV; rw [he]; rfl
    rw [e]
    have hit : ∀ k, itJ (thread l) t k = itJ l t k := by
      intro k
      induction k with
      | zero => rfl
      | succ k ih =>
        show nxJ (thread l) (itJ (thread l) t k) = nxJ l (itJ l t k)
        rw [ih]
        obtain ⟨x, hx, ho, hn, htg, _⟩ := isJ_some (hall k)
        have hs : endV l x.a.toNat = x.a.toNat := by
          unfold endV
          have hall2 : ∀ j, isJ l (itJ l x.a.toNat j) = true := fun j => by
            have h1 := hall (k + 1 + j)
            rw [it_add] at h1
            have h2 : itJ l t (k + 1) = x.a.toNat := hn
            rwa [h2] at h1
          rw [endF_loop hall2]
          rfl
        rw [hn]
        unfold nxJ
        rw [thread_at, hx]
        have hb := h x (List.mem_of_getElem? hx) _ htg
        simp only [Option.map_some, thrI, htg, hs, aimV]
        rw [if_neg (by omega)]
        simp
        omega
    unfold endV
    rw [endF_loop (fun k => by rw [hit, isJ_thread]; exact hall k)]
    rfl
theorem thread_thread {l : List II} (h : InB l) : thread (thread l) = thread l := by
  unfold thread
  rw [List.map_map]
  apply List.map_congr_left
  intro x hx
  show thrI (l.map (thrI l)) (thrI l x) = thrI l x
  cases ht : tgV x with
  | none =>
    have e : thrI l x = x := by unfold thrI; rw [ht]
    rw [e]
    unfold thrI
    rw [ht]
  | some t =>
    have e : thrI l x = aimV x (endV l t.toNat : Int) := by unfold thrI; rw [ht]
    have hb := h x hx t ht
    have e2 : thrI (thread l) (aimV x (endV l t.toNat : Int)) = aimV (aimV x (endV l t.toNat : Int)) (endV (thread l) (endV l t.toNat : Int).toNat : Int) := by
      unfold thrI
      rw [aim_tg ht]
    rw [e]
    exact e2.trans (by rw [aim_aim, Int.toNat_natCast, endV_thread h (by omega)])
end Go.Proofs.Ytapbdfcihheecaa
