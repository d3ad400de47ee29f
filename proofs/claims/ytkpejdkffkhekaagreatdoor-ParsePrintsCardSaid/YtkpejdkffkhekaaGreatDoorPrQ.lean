/- How long a printed tree is at most. Conditions: none. -/
import Derived.Test.YtkpejdkffkhekaaGreatDoorPrP
import Derived.Test.YtkpejdkffkhekaaGreatDoorPgG
import Derived.Test.YtkpejdkffkhekaaGreatDoorPgE
set_option maxRecDepth 20000
namespace Go.Proofs.YtkpejdkffkhekaaGreatDoor
open Go.RowKit
theorem wideL_len : ∀ l : List UInt8, (wideL l).length ≤ 2 * l.length
  | [] => by simp [wideL]
  | c :: r => by
    have := wideL_len r
    unfold wideL
    by_cases h : c = 44
    · simp [h]; omega
    · simp [h]; omega
theorem comL_len : ∀ l : List (List UInt8), (comL l).length ≤ (l.map fun a => a.length + 2).sum
  | [] => by simp [comL]
  | [a] => by simp [comL]
  | a :: b :: r => by
    have := comL_len (b :: r)
    simp only [comL, List.length_append, List.map_cons, List.sum_cons, List.length_cons, List.length_nil] at this ⊢
    omega
theorem em_size {s : ByteArray} (h : emB s = true) : s.size = 0 := by
  unfold emB at h
  rw [ByteArray.toList_eq] at h
  have h2 : s.data.toList = [] := by simpa using h
  have h3 : s.data.toList.length = s.size := rfl
  rw [h2] at h3
  simpa using h3.symm
theorem ty_size {s : ByteArray} (h : tyOk s = true) : s.size ≤ 100 := by
  unfold tyOk at h
  simp only [Bool.and_eq_true, decide_eq_true_eq] at h
  exact h.1
theorem one_size {s : ByteArray} (h : oneB 1 s.data.toList = true) : s.size ≤ 16 := one_short h
theorem lv_size {s : ByteArray} (h : 0 < lvN s.toList) : s.size ≤ 2 := by
  rw [ByteArray.toList_eq] at h
  have h3 : s.data.toList.length = s.size := rfl
  rw [← h3]
  unfold lvN at h
  simp only [Bool.or_eq_true, beq_iff_eq] at h
  repeat' split at h
  all_goals first
    | (exfalso; omega)
    | (rename_i h2; rw [h2]; simp)
    | (rename_i h2; rcases h2 with ((((h2 | h2) | h2) | h2) | h2) | h2 <;> (rw [h2]; simp))
    | (rename_i h2; rcases h2 with ((h2 | h2) | h2) | h2 <;> (rw [h2]; simp))
theorem s_size {s : ByteArray} {l : List UInt8} (h : (s.toList == l) = true) : s.size = l.length := by
  rw [ByteArray.toList_eq, beq_iff_eq] at h
  rw [← h]
  rfl
theorem rg_size {T : List ND} {x : ND} (h : rgP T x = true) : x.text.size ≤ 200 ∧ x.typ.size ≤ 100 := by
  unfold rgP at h
  by_cases k0 : x.kind = 2
  · rw [if_pos k0] at h
    simp only [Bool.and_eq_true] at h
    exact ⟨by have := one_size h.1; omega, by have := em_size h.2; omega⟩
  rw [if_neg k0] at h
  by_cases k1 : x.kind = 33
  · rw [if_pos k1] at h
    simp only [Bool.and_eq_true] at h
    exact ⟨by have := em_size h.1; omega, by have := em_size h.2; omega⟩
  rw [if_neg k1] at h
  by_cases k2 : x.kind = 3 ∨ x.kind = 6
  · rw [if_pos k2] at h
    simp only [Bool.and_eq_true] at h
    exact ⟨by have := one_size h.1.1; omega, ty_size h.1.2⟩
  rw [if_neg k2] at h
  by_cases k3 : x.kind = 4
  · rw [if_pos k3] at h
    by_cases h9 : emB x.typ = true
    · rw [if_pos h9] at h
      simp only [Bool.and_eq_true] at h
      exact ⟨by have := em_size h.1; omega, by have := em_size h9; omega⟩
    · rw [if_neg h9] at h
      simp only [Bool.and_eq_true, Bool.or_eq_true] at h
      refine ⟨?_, ty_size h.1.2⟩
      rcases h.1.1 with h | h
      · have := em_size h; omega
      · have := one_size h; omega
  rw [if_neg k3] at h
  by_cases k4 : x.kind = 7 ∨ x.kind = 25
  · rw [if_pos k4] at h
    simp only [Bool.and_eq_true] at h
    exact ⟨by have := one_size h.1.1; omega, by have := em_size h.1.2; omega⟩
  rw [if_neg k4] at h
  by_cases k5 : x.kind = 21
  · rw [if_pos k5] at h
    simp only [Bool.and_eq_true] at h
    exact ⟨by have := em_size h.1.1; omega, by have := em_size h.1.2; omega⟩
  rw [if_neg k5] at h
  by_cases k6 : x.kind = 23
  · rw [if_pos k6] at h
    simp only [Bool.and_eq_true] at h
    exact ⟨by have := em_size h.1; omega, by have := em_size h.2; omega⟩
  rw [if_neg k6] at h
  by_cases k7 : x.kind = 22
  · rw [if_pos k7] at h
    simp only [Bool.and_eq_true] at h
    refine ⟨?_, by have := em_size h.1.2; omega⟩
    have := h.1.1
    unfold quoB at this
    simp only [Bool.and_eq_true, decide_eq_true_eq] at this
    exact this.1
  rw [if_neg k7] at h
  by_cases k8 : x.kind = 26
  · rw [if_pos k8] at h
    simp only [Bool.and_eq_true, Bool.or_eq_true] at h
    refine ⟨?_, by have := em_size h.1.2; omega⟩
    rcases h.1.1 with h | h | h | h
    · have := s_size h; simp at this; omega
    · have := s_size h; simp at this; omega
    · have := s_size h; simp at this; omega
    · have := s_size h.1; simp at this; omega
  rw [if_neg k8] at h
  by_cases k9 : x.kind = 27
  · rw [if_pos k9] at h
    simp only [Bool.and_eq_true, decide_eq_true_eq] at h
    exact ⟨by have := lv_size h.1.1; omega, by have := em_size h.1.2; omega⟩
  rw [if_neg k9] at h
  by_cases k10 : x.kind = 8
  · rw [if_pos k10] at h
    simp only [Bool.and_eq_true] at h
    exact ⟨by have := em_size h.1.1.2; omega, by have := em_size h.1.2; omega⟩
  rw [if_neg k10] at h
  simp only [Bool.and_eq_true] at h
  exact ⟨by have := em_size h.1.1; omega, by have := em_size h.1.2; omega⟩
/-! ### sums -/
def sumU (f : Nat → Nat) : Nat → Nat
  | 0 => 0
  | m + 1 => sumU f m + f m
theorem sumU_le {f g : Nat → Nat} : ∀ {m : Nat}, (∀ j, j < m → f j ≤ g j) → sumU f m ≤ sumU g m
  | 0, _ => Nat.le_refl _
  | m + 1, h => by
    have h1 := sumU_le (m := m) fun j hj => h j (by omega)
    have h2 := h m (by omega)
    unfold sumU
    omega
theorem sumU_one {f : Nat → Nat} : ∀ {m j : Nat}, j < m → f j ≤ sumU f m
  | 0, j, h => by omega
  | m + 1, j, h => by
    unfold sumU
    by_cases hj : j < m
    · have := sumU_one (f := f) hj
      omega
    · obtain rfl : j = m := by omega
      omega
theorem sumU_head (f : Nat → Nat) : ∀ m, sumU f (m + 1) = f 0 + sumU (fun j => f (j + 1)) m
  | 0 => by simp [sumU]
  | m + 1 => by
    rw [sumU, sumU_head f m, sumU]
    omega
theorem flat_sum (g : Nat → List UInt8) : ∀ m, ((List.range m).map g).flatten.length = sumU (fun j => (g j).length) m
  | 0 => rfl
  | m + 1 => by
    rw [List.range_succ, List.map_append, List.flatten_append, List.length_append, flat_sum g m]
    simp [sumU]
theorem map_sum (g : Nat → Nat) : ∀ m, ((List.range m).map g).sum = sumU g m
  | 0 => rfl
  | m + 1 => by
    rw [List.range_succ, List.map_append, List.sum_append, map_sum g m]
    simp [sumU]
theorem com_sum (g : Nat → List UInt8) (m : Nat) : (comL ((List.range m).map g)).length ≤ sumU (fun j => (g j).length + 2) m := by
  refine Nat.le_trans (comL_len _) ?_
  rw [List.map_map, ← map_sum]
  exact Nat.le_refl _
theorem kids_range (n : ND) : n.kids.map Int.toNat = (List.range n.kids.length).map (kidT n) := by
  apply List.ext_getElem
  · simp
  · intro j h1 h2
    simp only [List.getElem_map, List.getElem_range]
    unfold kidT
    rw [List.getElem?_eq_getElem (by simpa using h1)]
    rfl
theorem kids_tail (n : ND) : (n.kids.map Int.toNat).tail = (List.range (n.kids.length - 1)).map fun j => kidT n (j + 1) := by
  rw [kids_range]
  apply List.ext_getElem
  · simp
  · intro j h1 h2
    simp
theorem kids_take (n : ND) (m : Nat) (h : m ≤ n.kids.length) : (n.kids.take m).map Int.toNat = (List.range m).map (kidT n) := by
  apply List.ext_getElem
  · simp; omega
  · intro j h1 h2
    simp only [List.getElem_map, List.getElem_range, List.getElem_take]
    unfold kidT
    rw [List.getElem?_eq_getElem (by simp at h1; omega)]
    rfl
/-! ### the bound -/
def wtN (T : List ND) (C q : Nat) : Nat := (q + 1 - svN T q) * C
theorem fwd_sum {T : List ND} {n : ND} {a C : Nat} : ∀ {m e : Nat}, Fwd T n a m e → a ≤ e ∧ sumU (fun j => wtN T C (kidT n j)) m = (e - a) * C
  | 0, e, h => by
    have : e = a := h
    subst this
    exact ⟨Nat.le_refl _, by simp [sumU]⟩
  | m + 1, e, h => by
    obtain ⟨k, s, x, h1, h2, h3, h4, h5, rfl⟩ := h
    obtain ⟨h6, h7⟩ := fwd_sum (C := C) h4
    have h8 := startOf_le k s h5
    refine ⟨by omega, ?_⟩
    unfold sumU
    rw [h7]
    have hk : kidT n m = k := by unfold kidT; rw [h1]; simp
    simp only [hk]
    unfold wtN svN
    rw [h5]
    show (s - a) * C + (k + 1 - s) * C = (k + 1 - a) * C
    rw [← Nat.add_mul]
    congr 1
    omega
theorem ndT_mem {T : List ND} {q : Nat} (h : q < T.length) : T[q]? = some (ndT T q) ∧ ndT T q ∈ T := by
  unfold ndT
  rw [List.getElem?_eq_getElem h]
  exact ⟨rfl, List.getElem_mem h⟩
theorem good_at {T : List ND} (hg : GoodT T) {q : Nat} (h : q < T.length) : rgP T (ndT T q) = true := List.all_eq_true.1 hg.2.2 _ (ndT_mem h).2
theorem par_len {T : List ND} (hg : GoodT T) {q : Nat} (h : q < T.length) : (parL (ndT T q)).length ≤ 401 ∧ (resL (ndT T q)).length ≤ 404 := by
  obtain ⟨h1, h2⟩ := rg_size (good_at hg h)
  have h3 : (txB (ndT T q).text).length = (ndT T q).text.size := rfl
  have h4 : (txB (ndT T q).typ).length = (ndT T q).typ.size := rfl
  have h5 := wideL_len (txB (ndT T q).typ)
  unfold parL resL
  refine ⟨by simp; omega, ?_⟩
  split
  · simp; omega
  · split
    · simp; omega
    · simp
theorem br_len (b : Bool) (l : List UInt8) : (brL b l).length ≤ l.length + 2 := by
  unfold brL
  split
  · simp
  · omega
theorem quo_size {s : ByteArray} (h : s.size ≤ 200) : ((quoL (txB s)).getD []).length ≤ 400 := by
  cases hq : quoL (txB s) with
  | none => simp
  | some q =>
    have := quoL_len hq
    have h3 : (txB s).length = s.size := rfl
    show q.length ≤ 400
    omega
set_option maxHeartbeats 2000000 in
theorem pr_len {T : List ND} (hg : GoodT T) (hb : ∀ x ∈ T, (-9223372036854775808 ≤ x.num ∧ x.num ≤ 9223372036854775807)) (E : Nat) : ∀ k, k < T.length → ∀ i, i + k ≤ E → (prN T k i).length + (E + 20) ≤ wtN T (2 * E + 5000) k := by
  intro k
  induction k using Nat.strongRecOn with
  | _ k ih =>
    intro hk i hi
    obtain ⟨a, ha⟩ := Option.isSome_iff_exists.1 (laid_all hg.2.1 k hk)
    obtain ⟨h1, h2⟩ := ndT_mem hk
    obtain ⟨hcn, hf⟩ := (startOf_fwd h1).1 ha
    have hup := laid_up hg.2.1
    have hx := good_at hg hk
    obtain ⟨ht1, ht2⟩ := rg_size hx
    have hnb := hb _ h2
    have hkk := kind_cases _ (cntN_kn hcn)
    have hkid : ∀ j, j < (ndT T k).kids.length → kidT (ndT T k) j < k := fun j hj => by
      have := (hup k j _ (by rw [kidAt_get h1]; exact List.getElem?_eq_getElem hj)).1
      unfold kidT
      rw [List.getElem?_eq_getElem hj]
      show ((ndT T k).kids[j]).toNat < k
      omega
    have H : ∀ j, j < (ndT T k).kids.length → ∀ i', i' ≤ i + 1 → (prT T k (kidT (ndT T k) j) i').length + (E + 20) ≤ wtN T (2 * E + 5000) (kidT (ndT T k) j) := fun j hj i' hi' => by
      have hq := hkid j hj
      rw [prT_eq T k _ i' hq]
      exact ih _ hq (by omega) i' (by omega)
    obtain ⟨hae, hsum⟩ := fwd_sum (C := 2 * E + 5000) hf
    have hw : wtN T (2 * E + 5000) k = sumU (fun j => wtN T (2 * E + 5000) (kidT (ndT T k) j)) (ndT T k).kids.length + (2 * E + 5000) := by
      rw [hsum]
      unfold wtN svN
      rw [ha]
      show (k + 1 - a) * _ = _
      rw [show k + 1 - a = (k - a) + 1 by omega, Nat.add_mul, Nat.one_mul]
    rw [hw]
    have hone : ∀ j, j < (ndT T k).kids.length → wtN T (2 * E + 5000) (kidT (ndT T k) j) ≤ sumU (fun j => wtN T (2 * E + 5000) (kidT (ndT T k) j)) (ndT T k).kids.length := fun j hj => sumU_one (f := fun j => wtN T (2 * E + 5000) (kidT (ndT T k) j)) hj
    have hparl : ∀ j, j < (ndT T k).kids.length → (parL (ndT T (kidT (ndT T k) j))).length ≤ 401 ∧ (resL (ndT T (kidT (ndT T k) j))).length ≤ 404 := fun j hj => par_len hg (by have := hkid j hj; omega)
    unfold prN
    clear hw hsum hae hkid hup hf ih ha h1 h2
    generalize ndT T k = n at *
    generalize prT T k = p at *
    generalize hS : sumU (fun j => wtN T (2 * E + 5000) (kidT n j)) n.kids.length = S at *
    have S2 : n.kids.length = 2 → wtN T (2 * E + 5000) (kidT n 0) + wtN T (2 * E + 5000) (kidT n 1) = S := fun h => by
      rw [← hS, h]
      simp [sumU]
    have S3 : n.kids.length = 3 → wtN T (2 * E + 5000) (kidT n 0) + wtN T (2 * E + 5000) (kidT n 1) + wtN T (2 * E + 5000) (kidT n 2) = S := fun h => by
      rw [← hS, h]
      simp [sumU]
    have hdec : (txB (decS n.num)).length ≤ 20 := by
      have := decL_len hnb
      have h3 : (txB (decS n.num)).length = (decS n.num).size := rfl
      rw [h3]
      unfold decS
      rw [strOf_len]
      exact this
    have hq := quo_size ht1
    have e1 : (txB n.text).length = n.text.size := rfl
    have e2 := wideL_len (txB n.typ)
    have e3 : (txB n.typ).length = n.typ.size := rfl
    unfold cntN at hcn
    rcases hkk with e | e | e | e | e | e | e | e | e | e | e | e | e | e | e | e | e | e | e | e | e | e | e | e | e | e | e | e
    all_goals (
      unfold prS
      rw [e] at hcn
      simp only [e, Int.reduceEq, if_true, if_false])
    all_goals (simp only [Int.reduceEq, if_true, if_false, or_self, or_true, or_false, decide_eq_true_eq] at hcn)
    all_goals first
      | (simp; done)
      | (simp; omega)
      | (have h0 := H 0 (by omega) i (by omega)
         have w0 := hone 0 (by omega)
         simp only [List.length_append, List.length_cons, List.length_nil]
         omega)
      | (have h0 := H 0 (by omega) i (by omega)
         have w0 := hone 0 (by omega)
         omega)
      | (have h0 := H 0 (by omega) i (by omega)
         have h1 := H 1 (by omega) i (by omega)
         have w2 := S2 hcn
         have b0 := br_len (decide ((ndT T (kidT n 0)).kind = 27 ∧ lvN (ndT T (kidT n 0)).text.toList < lvN n.text.toList)) (p (kidT n 0) i)
         have b1 := br_len (decide ((ndT T (kidT n 1)).kind = 27 ∧ lvN (ndT T (kidT n 1)).text.toList ≤ lvN n.text.toList)) (p (kidT n 1) i)
         have b2 := br_len (decide ((ndT T (kidT n 0)).kind = 27 ∨ (ndT T (kidT n 0)).kind = 26)) (p (kidT n 0) i)
         try unfold bsS
         simp only [List.length_append, List.length_cons, List.length_nil]
         omega)
      | (have h0 := H 0 (by omega) i (by omega)
         have h1 := H 1 (by omega) i (by omega)
         have w2 := S2 hcn
         simp only [List.length_append, List.length_cons, List.length_nil]
         omega)
      | (have h0 := H 0 (by omega) i (by omega)
         have h1 := H 1 (by omega) i (by omega)
         have h2 := H 2 (by omega) i (by omega)
         have w2 := S3 hcn
         have b2 := br_len (decide ((ndT T (kidT n 0)).kind = 27 ∨ (ndT T (kidT n 0)).kind = 26)) (p (kidT n 0) i)
         try unfold bsS
         simp only [List.length_append, List.length_cons, List.length_nil]
         omega)
      | (have h0 := H 0 (by omega) i (by omega)
         have w0 := hone 0 (by omega)
         have b0 := br_len (decide ((ndT T (kidT n 0)).kind = 27)) (p (kidT n 0) i)
         simp only [List.length_append]
         omega)
      | (split <;> (simp; omega))
      | (by_cases h9 : n.kids.length = 1
         · have h0 := H 0 (by omega) i (by omega)
           have w0 := hone 0 (by omega)
           rw [if_pos h9]
           simp only [List.length_append, List.length_cons, List.length_nil]
           omega
         · rw [if_neg h9]
           simp
           omega)
      | (by_cases h9 : n.kids.length = 3
         · have h0 := H 0 (by omega) i (by omega)
           have h1 := H 1 (by omega) i (by omega)
           have h2 := H 2 (by omega) i (by omega)
           have w2 := S3 h9
           rw [if_pos h9]
           simp only [List.length_append, List.length_cons, List.length_nil]
           omega
         · have h0 := H 0 (by omega) i (by omega)
           have h1 := H 1 (by omega) i (by omega)
           have w2 := S2 (by omega)
           rw [if_neg h9]
           simp only [List.length_append, List.length_cons, List.length_nil]
           omega)
      | (by_cases h9 : n.kids.length = 2
         · have h0 := H 0 (by omega) i (by omega)
           have h1 := H 1 (by omega) i (by omega)
           have w2 := S2 h9
           rw [if_pos h9, h9]
           simp only [Nat.reduceSub, List.length_append, List.length_cons, List.length_nil]
           omega
         · have h0 := H 0 (by omega) i (by omega)
           have w0 := hone 0 (by omega)
           rw [if_neg h9, show n.kids.length = 1 by omega]
           simp only [Nat.sub_self, List.length_append, List.length_cons, List.length_nil]
           omega)
      | (by_cases h9 : n.kids = []
         · rw [if_pos h9]
           simp
           omega
         · rw [if_neg h9, kids_range, List.map_map]
           have hs := flat_sum ((fun k => tabL (i + 1) ++ p k (i + 1)) ∘ kidT n) n.kids.length
           have hl : sumU (fun j => (((fun k => tabL (i + 1) ++ p k (i + 1)) ∘ kidT n) j).length) n.kids.length ≤ S := by
             rw [← hS]
             refine sumU_le fun j hj => ?_
             have := H j hj (i + 1) (by omega)
             simp [tabL]
             omega
           have ht : (tabL i).length = i + 1 := by simp [tabL]
           simp only [List.length_append, hs, ht, List.length_cons, List.length_nil]
           omega)
      | (rw [kids_range, List.map_map]
         have hc := com_sum ((fun k => p k i) ∘ kidT n) n.kids.length
         have hl : sumU (fun j => (((fun k => p k i) ∘ kidT n) j).length + 2) n.kids.length ≤ S := by
           rw [← hS]
           refine sumU_le fun j hj => ?_
           have := H j hj i (by omega)
           show (p (kidT n j) i).length + 2 ≤ _
           omega
         simp only [List.length_append, List.length_cons, List.length_nil]
         omega)
      | (obtain ⟨m, hm⟩ : ∃ m, n.kids.length = m + 1 := ⟨n.kids.length - 1, by omega⟩
         rw [kids_tail, List.map_map, hm, Nat.add_sub_cancel]
         have hc := com_sum ((fun k => p k i) ∘ fun j => kidT n (j + 1)) m
         have h0 := H 0 (by omega) i (by omega)
         have hl : sumU (fun j => (((fun k => p k i) ∘ fun j => kidT n (j + 1)) j).length + 2) m ≤ sumU (fun j => wtN T (2 * E + 5000) (kidT n (j + 1))) m := by
           refine sumU_le fun j hj => ?_
           have := H (j + 1) (by omega) i (by omega)
           show (p (kidT n (j + 1)) i).length + 2 ≤ _
           omega
         rw [hm, sumU_head] at hS
         have b2 := br_len (decide ((ndT T (kidT n 0)).kind = 27 ∨ (ndT T (kidT n 0)).kind = 26)) (p (kidT n 0) i)
         try unfold bsS
         simp only [List.length_append, List.length_cons, List.length_nil]
         omega)
      | (obtain ⟨h5, h6, h7⟩ := hcn
         obtain ⟨m, hm⟩ : ∃ m : Nat, n.num = (m : Int) := ⟨n.num.toNat, by omega⟩
         rw [hm] at h6 h7
         unfold hdS
         rw [hm, Int.toNat_natCast, kids_take n m (by omega), List.map_map]
         have hc := com_sum ((fun k => parL (ndT T k)) ∘ kidT n) m
         have hl : sumU (fun j => (((fun k => parL (ndT T k)) ∘ kidT n) j).length + 2) m ≤ sumU (fun _ => 403) m := by
           refine sumU_le fun j hj => ?_
           have := (hparl j (by omega)).1
           show (parL (ndT T (kidT n j))).length + 2 ≤ _
           omega
         have hm4 : m = 0 ∨ m = 1 ∨ m = 2 ∨ m = 3 ∨ m = 4 := by omega
         have hl2 : sumU (fun _ => 403) m ≤ 1612 := by rcases hm4 with rfl | rfl | rfl | rfl | rfl <;> decide
         have hr := (hparl m (by omega)).2
         have h0 := H (m + 1) (by omega) i (by omega)
         have w0 := hone (m + 1) (by omega)
         simp only [List.length_append, List.length_cons, List.length_nil]
         omega)
      | trace_state
theorem fn_len {T : List ND} (hg : GoodT T) (hb : ∀ x ∈ T, (-9223372036854775808 ≤ x.num ∧ x.num ≤ 9223372036854775807)) {k : Nat} (hk : k < T.length) (h2k : (ndT T k).kind = 2) : (fnL T k).length ≤ wtN T 13002 k := by
  obtain ⟨a, ha⟩ := Option.isSome_iff_exists.1 (laid_all hg.2.1 k hk)
  obtain ⟨h1, h2⟩ := ndT_mem hk
  obtain ⟨hcn, hf⟩ := (startOf_fwd h1).1 ha
  have hup := laid_up hg.2.1
  obtain ⟨ht1, ht2⟩ := rg_size (good_at hg hk)
  have hT := hg.1
  have hkid : ∀ j, j < (ndT T k).kids.length → kidT (ndT T k) j < k := fun j hj => by
    have := (hup k j _ (by rw [kidAt_get h1]; exact List.getElem?_eq_getElem hj)).1
    unfold kidT
    rw [List.getElem?_eq_getElem hj]
    show ((ndT T k).kids[j]).toNat < k
    omega
  obtain ⟨hae, hsum⟩ := fwd_sum (C := 13002) hf
  have hw : wtN T 13002 k = sumU (fun j => wtN T 13002 (kidT (ndT T k) j)) (ndT T k).kids.length + 13002 := by
    rw [hsum]
    unfold wtN svN
    rw [ha]
    show (k + 1 - a) * _ = _
    rw [show k + 1 - a = (k - a) + 1 by omega, Nat.add_mul, Nat.one_mul]
  rw [hw]
  unfold cntN at hcn
  rw [h2k] at hcn
  simp only [Int.reduceEq, if_true, if_false, or_self, or_false, decide_eq_true_eq] at hcn
  obtain ⟨h5, h6, h7⟩ := hcn
  obtain ⟨m, hm⟩ : ∃ m : Nat, (ndT T k).num = (m : Int) := ⟨(ndT T k).num.toNat, by omega⟩
  rw [hm] at h6 h7
  unfold fnL hdS
  rw [hm, Int.toNat_natCast, kids_take _ m (by omega), List.map_map]
  have hc := com_sum ((fun k => parL (ndT T k)) ∘ kidT (ndT T k)) m
  have hl : sumU (fun j => (((fun k => parL (ndT T k)) ∘ kidT (ndT T k)) j).length + 2) m ≤ sumU (fun _ => 403) m := by
    refine sumU_le fun j hj => ?_
    have := (par_len hg (q := kidT (ndT T k) j) (by have := hkid j (by omega); omega)).1
    show (parL (ndT T (kidT (ndT T k) j))).length + 2 ≤ _
    omega
  have hm4 : m = 0 ∨ m = 1 ∨ m = 2 ∨ m = 3 ∨ m = 4 := by omega
  have hl2 : sumU (fun _ => 403) m ≤ 1612 := by rcases hm4 with rfl | rfl | rfl | rfl | rfl <;> decide
  have hr := (par_len hg (q := kidT (ndT T k) m) (by have := hkid m (by omega); omega)).2
  have hq := hkid (m + 1) (by omega)
  have h0 := pr_len hg hb 4001 (kidT (ndT T k) (m + 1)) (by omega) 0 (by omega)
  have w0 := sumU_one (f := fun j => wtN T 13002 (kidT (ndT T k) j)) (show m + 1 < (ndT T k).kids.length by omega)
  have e1 : (txB (ndT T k).text).length = (ndT T k).text.size := rfl
  rw [prT_eq T k _ 0 hq]
  unfold prN at h0
  rw [show 2 * 4001 + 5000 = 13002 from rfl] at h0
  simp only [List.length_append, List.length_cons, List.length_nil] at h0 w0 ⊢
  omega
theorem src_len {T : List ND} (hg : GoodT T) (hb : ∀ x ∈ T, (-9223372036854775808 ≤ x.num ∧ x.num ≤ 9223372036854775807)) : (srcL T).length ≤ 60000000 := by
  obtain ⟨h0, ⟨n, hn, hk1⟩, hs⟩ := hg.2.1
  obtain ⟨h1, h2⟩ := ndT_mem (show T.length - 1 < T.length by omega)
  rw [hn] at h1
  injection h1 with h1
  obtain ⟨hcn, hf⟩ := (startOf_fwd hn).1 hs
  obtain ⟨hae, hsum⟩ := fwd_sum (C := 13002) hf
  have hup := laid_up hg.2.1
  unfold srcL
  rw [← h1, kids_range, List.map_map, flat_sum]
  have hT := hg.1
  refine Nat.le_trans (sumU_le (g := fun j => wtN T 13002 (kidT n j)) fun j hj => ?_) (by rw [hsum]; omega)
  obtain ⟨s, hs2⟩ := hf.pre (j + 1) hj
  obtain ⟨q, s', x, g1, g2, g3, _, _, _⟩ := hs2
  have hq : kidT n j = q := by unfold kidT; rw [g1]; simp
  have hqT := (List.getElem?_eq_some_iff.1 g2).1
  show (fnL T (kidT n j)).length ≤ wtN T 13002 (kidT n j)
  rw [hq]
  refine fn_len hg hb hqT ?_
  have := (ndT_mem hqT).1
  rw [g2] at this
  injection this with this
  rw [← this]
  unfold kidN at g3
  rw [hk1] at g3
  simpa using g3
end Go.Proofs.YtkpejdkffkhekaaGreatDoor
