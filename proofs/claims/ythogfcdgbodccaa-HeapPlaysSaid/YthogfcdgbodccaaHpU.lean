/- The plain side of a heap: the work list ends; the rounds end with what is led to. Conditions: none. -/
import Derived.Test.YthogfcdgbodccaaHpT
namespace Go.Proofs.Ythogfcdgbodccaa
/-- How many cells the blocks have that are not seen. -/
def muB (seen : Nat → Bool) : List BK → Nat
  | [] => 0
  | b :: bs => (if seen b.at_ then 0 else b.cells.length + 1) + muB seen bs
theorem muB_same {s s' : Nat → Bool} {bs : List BK} (h : ∀ b ∈ bs, s b.at_ = s' b.at_) : muB s bs = muB s' bs := by
  induction bs with
  | nil => rfl
  | cons b bs ih =>
    simp only [muB]
    rw [h b List.mem_cons_self, ih (fun c hc => h c (List.mem_cons_of_mem _ hc))]
theorem blkAt_mem {bs : List BK} {a : Nat} {b : BK} (h : blkAt bs a = some b) : b ∈ bs ∧ b.at_ = a := by
  have h1 := List.mem_of_find?_eq_some h
  have h2 := List.find?_some h
  exact ⟨h1, by simpa using h2⟩
theorem blkAt_of {lo : Nat} {bs : List BK} {room : Nat} (h : FitB lo bs room) {b : BK} (hb : b ∈ bs) : blkAt bs b.at_ = some b := by
  induction bs generalizing lo with
  | nil => cases hb
  | cons c bs ih =>
    have h3 : c.fin = c.at_ + 1 + c.cells.length := rfl
    rcases List.mem_cons.1 hb with e | hb'
    · subst e
      simp [blkAt]
    · have := (h.2.ge b hb').1
      have hne : c.at_ ≠ b.at_ := by omega
      have := ih h.2 hb'
      unfold blkAt at this ⊢
      rw [List.find?_cons_of_neg (by simpa using hne)]
      exact this
theorem muB_take {lo : Nat} {bs : List BK} {room : Nat} (h : FitB lo bs room) {s : Nat → Bool} {a : Nat} {b : BK} (hb : blkAt bs a = some b) (hs : s a = false) : muB (fun c => c == a || s c) bs + (b.cells.length + 1) = muB s bs := by
  induction bs generalizing lo with
  | nil => cases hb
  | cons c bs ih =>
    have h3 : c.fin = c.at_ + 1 + c.cells.length := rfl
    obtain ⟨hm, he⟩ := blkAt_mem hb
    by_cases e : c.at_ = a
    · have e2 : b = c := by
        unfold blkAt at hb
        rw [List.find?_cons_of_pos (by simpa using e)] at hb
        injection hb with hb
        exact hb.symm
      subst e2
      simp only [muB]
      have hq : muB (fun c => c == a || s c) bs = muB s bs := muB_same fun d hd => by
        have := (h.2.ge d hd).1
        have hne : d.at_ ≠ a := by omega
        simp [hne]
      rw [hq]
      simp only [e, hs, beq_self_eq_true, Bool.true_or, if_true, Bool.false_eq_true, if_false]
      omega
    · have hb' : blkAt bs a = some b := by
        unfold blkAt at hb ⊢
        rwa [List.find?_cons_of_neg (by simpa using e)] at hb
      have := ih h.2 hb'
      simp only [muB]
      have e4 : (c.at_ == a || s c.at_) = s c.at_ := by simp [e]
      simp only [e4]
      omega
/-- The rounds' marks: those that stand are led to. -/
structure Rnd (t : Int) (bs : List BK) (roots : List (Int × Int)) (led : List Bool) : Prop where
  len : led.length = bs.length
  sound : ∀ (i : Nat) (b : BK), led[i]? = some true → bs[i]? = some b → Led t bs roots b.at_
/-- Some cell of the roots, or of a block that is marked, names a place. -/
def Hit (t : Int) (bs : List BK) (roots : List (Int × Int)) (led : List Bool) (a : Nat) : Prop := Nam t roots a ∨ ∃ (k : Nat) (b : BK), led[k]? = some true ∧ bs[k]? = some b ∧ Nam t b.cells a
theorem Rnd.start {t : Int} {bs : List BK} {roots : List (Int × Int)} : Rnd t bs roots (List.replicate bs.length false) := by
  refine ⟨by simp, fun i b h => ?_⟩
  rw [List.getElem?_replicate] at h
  split at h <;> cases h
theorem Rnd.turn {t : Int} {lo : Nat} {bs : List BK} {room : Nat} (hf : FitB lo bs room) {roots : List (Int × Int)} {led : List Bool} (h : Rnd t bs roots led) {i : Nat} {b : BK} (hb : bs[i]? = some b) (hh : Hit t bs roots led b.at_) : Rnd t bs roots (led.set i true) := by
  have hs : (blkAt bs b.at_).isSome := by rw [blkAt_of hf (List.mem_of_getElem? hb)]; rfl
  have hL : Led t bs roots b.at_ := by
    rcases hh with h1 | ⟨k, c, hk, hc, hn⟩
    · exact .root h1 hs
    · exact .step (h.sound k c hk hc) (blkAt_of hf (List.mem_of_getElem? hc)) hn hs
  refine ⟨by simp [h.len], fun j c hj hc => ?_⟩
  by_cases e : i = j
  · subst e
    rw [hb] at hc
    injection hc with hc
    subst hc
    exact hL
  · rw [List.getElem?_set_ne e] at hj
    exact h.sound j c hj hc
theorem fit_inj {lo : Nat} {bs : List BK} {room : Nat} (hf : FitB lo bs room) {i j : Nat} {b : BK} (hi : bs[i]? = some b) (hj : bs[j]? = some b) : i = j := by
  induction bs generalizing lo i j with
  | nil => simp at hi
  | cons c bs ih =>
    have h3 : c.fin = c.at_ + 1 + c.cells.length := rfl
    cases i with
    | zero =>
      cases j with
      | zero => rfl
      | succ j =>
        rw [List.getElem?_cons_zero] at hi
        rw [List.getElem?_cons_succ] at hj
        injection hi with hi
        subst hi
        have := (hf.2.ge c (List.mem_of_getElem? hj)).1
        omega
    | succ i =>
      cases j with
      | zero =>
        rw [List.getElem?_cons_zero] at hj
        rw [List.getElem?_cons_succ] at hi
        injection hj with hj
        subst hj
        have := (hf.2.ge c (List.mem_of_getElem? hi)).1
        omega
      | succ j =>
        rw [List.getElem?_cons_succ] at hi hj
        rw [ih hf.2 hi hj]
/-- Nothing turned: marked are just those that the roots lead to. -/
theorem Rnd.stop {t : Int} {lo : Nat} {bs : List BK} {room : Nat} (hf : FitB lo bs room) {roots : List (Int × Int)} {led : List Bool} (h : Rnd t bs roots led) (hq : ∀ (i : Nat) (b : BK), led[i]? = some false → bs[i]? = some b → ¬ Hit t bs roots led b.at_) {i : Nat} {b : BK} (hb : bs[i]? = some b) : led[i]? = some true ↔ Led t bs roots b.at_ := by
  refine ⟨fun hi => h.sound i b hi hb, fun hL => ?_⟩
  have key : ∀ a, Hit t bs roots led a → (blkAt bs a).isSome → ∃ (j : Nat) (c : BK), led[j]? = some true ∧ bs[j]? = some c ∧ c.at_ = a := by
    intro a ha hs
    obtain ⟨c, hc⟩ := Option.isSome_iff_exists.1 hs
    obtain ⟨hm, he⟩ := blkAt_mem hc
    obtain ⟨j, hj⟩ := List.getElem?_of_mem hm
    have hjl : j < led.length := by
      rw [h.len]
      exact (List.getElem?_eq_some_iff.1 hj).1
    cases hv : led[j]? with
    | none => rw [List.getElem?_eq_none_iff] at hv; omega
    | some v =>
      cases v with
      | true => exact ⟨j, c, hv, hj, he⟩
      | false => exact absurd (he ▸ ha) (hq j c hv hj)
  have := led_in (t := t) (bs := bs) (roots := roots) (S := fun a => ∃ (j : Nat) (c : BK), led[j]? = some true ∧ bs[j]? = some c ∧ c.at_ = a) (fun a ha hs => key a (.inl ha) hs) (fun a c d hS hc hd hs => by
    obtain ⟨j, e, hj, he, hje⟩ := hS
    have h1 := blkAt_of hf (List.mem_of_getElem? he)
    rw [hje, hc] at h1
    injection h1 with h1
    subst h1
    exact key d (.inr ⟨j, c, hj, he, hd⟩) hs) hL
  obtain ⟨j, c, hj, hc, hje⟩ := this
  have h1 := blkAt_of hf (List.mem_of_getElem? hb)
  have h2 := blkAt_of hf (List.mem_of_getElem? hc)
  rw [hje, h1] at h2
  injection h2 with h2
  subst h2
  have hij : i = j := by
    exact fit_inj hf hb hc
  rw [hij]
  exact hj
end Go.Proofs.Ythogfcdgbodccaa
