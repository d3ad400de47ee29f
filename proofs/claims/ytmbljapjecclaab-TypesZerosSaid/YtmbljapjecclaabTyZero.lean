/- 'types.Zero' and the document's Zero answer alike. Conditions: none. -/
import Derived.Test.YtmbljapjecclaabTyLaws
import Derived.Test.YtmbljapjecclaabEqual
set_option maxRecDepth 20000
namespace Go.Proofs.Ytmbljapjecclaab
open Go.ChangeShapes Go.WideShapes Go.ChangeAt Go.RowKit
/-- The kind and the error of what Zero answers. -/
def zK (s : ByteArray) : Int := if tyOk s = true then (if (s.toList == [105, 110, 116]) = true then 1 else if (s.toList == [98, 111, 111, 108]) = true then 2 else if (s.toList == [115, 116, 114, 105, 110, 103]) = true then 3 else 4) else 0
def zE (s : ByteArray) : Int := if tyOk s = true then 0 else 9
theorem only (s : ByteArray) (a b : List UInt8) (hab : a ≠ b) (h : (s.toList == a) = true) : (s.toList == b) = false := by
  rw [beq_iff_eq] at h
  rw [h, beq_eq_false_iff_ne]
  exact hab
set_option maxHeartbeats 1000000 in
theorem zero_any (s : ByteArray) (k z : Int) (hk : k = zK s) (hz : z = zE s) (w : World) (hs : s.size ≤ 140737488351232) : Calls Try.prog 26 #[.string s] w fun e w' => e = .returned (.tuple #[val k 0 ⟨#[]⟩ none 0 0, .int .i64 z]) ∧ Below w.heap.size w w' := by
  have H := Lib.hid (And.intro hk hz)
  clear hk hz
  unfold zK zE at H
  cases hv : tyOk s
  · rw [hv] at H
    have HV := Lib.hid hv
    clear hv
    obtain ⟨rfl, rfl⟩ := H.out
    clear H
    go_enter Try.func26, Try.ntmps26
    go_wp2_with fail
    refine (typesValid_any s _ hs).mono ?_
    rintro e w1 ⟨rfl, hb⟩
    rw [HV.out]
    have c0 := hb.cell (p := ⟨w.heap.size, 0, none⟩) (by go_size); have c1 := hb.cell (p := ⟨w.heap.size, 1, none⟩) (by go_size); have c2 := hb.cell (p := ⟨w.heap.size, 2, none⟩) (by go_size); have c3 := hb.cell (p := ⟨w.heap.size, 3, none⟩) (by go_size); (try simp at c0 c1 c2 c3)
    have f0 := hb.frozen (p := ⟨w.heap.size, 0, none⟩) (by go_size); have f1 := hb.frozen (p := ⟨w.heap.size, 1, none⟩) (by go_size); have f2 := hb.frozen (p := ⟨w.heap.size, 2, none⟩) (by go_size); have f3 := hb.frozen (p := ⟨w.heap.size, 3, none⟩) (by go_size); (try simp at f0 f1 f2 f3)
    have hsz := hb.size
    simp at hsz
    have hlt : w.heap.size < w1.heap.size := hsz
    go_wp2_with fail
    have hB : Below w.heap.size w w1 := sq (al _) hb
    have hq : w.heap.size ≤ w.heap.size := Nat.le_refl _
    exact bodyPost_ret (v := .tuple #[val 0 0 ⟨#[]⟩ none 0 0, .int .i64 9]) (by simp [results, Try.results26, go_sem, c0, c1, c2, c3]) rfl ⟨rfl, by first | exact hB | exact (((hB.setCell hq _).setCell hq _).setCell hq _).setCell hq _ | exact ((((hB.alloc hB.size _).setCell hq _).setCell hq _).setCell hq _).setCell hq _ | trace_state⟩
  · rw [hv] at H
    have HV := Lib.hid hv
    clear hv
    by_cases h0 : (s.toList == [105, 110, 116]) = true
    · have ebool := only s [105, 110, 116] [98, 111, 111, 108] (by decide) h0
      have estring := only s [105, 110, 116] [115, 116, 114, 105, 110, 103] (by decide) h0
      rw [if_pos rfl, if_pos rfl, if_pos h0] at H
      obtain ⟨rfl, rfl⟩ := H.out
      clear H
      go_enter Try.func26, Try.ntmps26
      go_wp2_with fail
      refine (typesValid_any s _ hs).mono ?_
      rintro e w1 ⟨rfl, hb⟩
      rw [HV.out]
      have c0 := hb.cell (p := ⟨w.heap.size, 0, none⟩) (by go_size); have c1 := hb.cell (p := ⟨w.heap.size, 1, none⟩) (by go_size); have c2 := hb.cell (p := ⟨w.heap.size, 2, none⟩) (by go_size); have c3 := hb.cell (p := ⟨w.heap.size, 3, none⟩) (by go_size); (try simp at c0 c1 c2 c3)
      have f0 := hb.frozen (p := ⟨w.heap.size, 0, none⟩) (by go_size); have f1 := hb.frozen (p := ⟨w.heap.size, 1, none⟩) (by go_size); have f2 := hb.frozen (p := ⟨w.heap.size, 2, none⟩) (by go_size); have f3 := hb.frozen (p := ⟨w.heap.size, 3, none⟩) (by go_size); (try simp at f0 f1 f2 f3)
      have hsz := hb.size
      simp at hsz
      have hlt : w.heap.size < w1.heap.size := hsz
      go_wp2_with fail
      have hB : Below w.heap.size w w1 := sq (al _) hb
      have hq : w.heap.size ≤ w.heap.size := Nat.le_refl _
      exact bodyPost_ret (v := .tuple #[val 1 0 ⟨#[]⟩ none 0 0, .int .i64 0]) (by simp [results, Try.results26, go_sem, c0, c1, c2, c3]) rfl ⟨rfl, by first | exact hB | exact (((hB.setCell hq _).setCell hq _).setCell hq _).setCell hq _ | exact ((((hB.alloc hB.size _).setCell hq _).setCell hq _).setCell hq _).setCell hq _ | trace_state⟩
    replace h0 : ¬ (s.toList == [105, 110, 116]) = true := h0
    by_cases h1 : (s.toList == [98, 111, 111, 108]) = true
    · have eint := only s [98, 111, 111, 108] [105, 110, 116] (by decide) h1
      have estring := only s [98, 111, 111, 108] [115, 116, 114, 105, 110, 103] (by decide) h1
      rw [if_pos rfl, if_pos rfl, if_neg h0, if_pos h1] at H
      obtain ⟨rfl, rfl⟩ := H.out
      clear H
      go_enter Try.func26, Try.ntmps26
      go_wp2_with fail
      refine (typesValid_any s _ hs).mono ?_
      rintro e w1 ⟨rfl, hb⟩
      rw [HV.out]
      have c0 := hb.cell (p := ⟨w.heap.size, 0, none⟩) (by go_size); have c1 := hb.cell (p := ⟨w.heap.size, 1, none⟩) (by go_size); have c2 := hb.cell (p := ⟨w.heap.size, 2, none⟩) (by go_size); have c3 := hb.cell (p := ⟨w.heap.size, 3, none⟩) (by go_size); (try simp at c0 c1 c2 c3)
      have f0 := hb.frozen (p := ⟨w.heap.size, 0, none⟩) (by go_size); have f1 := hb.frozen (p := ⟨w.heap.size, 1, none⟩) (by go_size); have f2 := hb.frozen (p := ⟨w.heap.size, 2, none⟩) (by go_size); have f3 := hb.frozen (p := ⟨w.heap.size, 3, none⟩) (by go_size); (try simp at f0 f1 f2 f3)
      have hsz := hb.size
      simp at hsz
      have hlt : w.heap.size < w1.heap.size := hsz
      go_wp2_with fail
      have hB : Below w.heap.size w w1 := sq (al _) hb
      have hq : w.heap.size ≤ w.heap.size := Nat.le_refl _
      exact bodyPost_ret (v := .tuple #[val 2 0 ⟨#[]⟩ none 0 0, .int .i64 0]) (by simp [results, Try.results26, go_sem, c0, c1, c2, c3]) rfl ⟨rfl, by first | exact hB | exact (((hB.setCell hq _).setCell hq _).setCell hq _).setCell hq _ | exact ((((hB.alloc hB.size _).setCell hq _).setCell hq _).setCell hq _).setCell hq _ | trace_state⟩
    replace h1 : ¬ (s.toList == [98, 111, 111, 108]) = true := h1
    by_cases h2 : (s.toList == [115, 116, 114, 105, 110, 103]) = true
    · have eint := only s [115, 116, 114, 105, 110, 103] [105, 110, 116] (by decide) h2
      have ebool := only s [115, 116, 114, 105, 110, 103] [98, 111, 111, 108] (by decide) h2
      rw [if_pos rfl, if_pos rfl, if_neg h0, if_neg h1, if_pos h2] at H
      obtain ⟨rfl, rfl⟩ := H.out
      clear H
      go_enter Try.func26, Try.ntmps26
      go_wp2_with fail
      refine (typesValid_any s _ hs).mono ?_
      rintro e w1 ⟨rfl, hb⟩
      rw [HV.out]
      have c0 := hb.cell (p := ⟨w.heap.size, 0, none⟩) (by go_size); have c1 := hb.cell (p := ⟨w.heap.size, 1, none⟩) (by go_size); have c2 := hb.cell (p := ⟨w.heap.size, 2, none⟩) (by go_size); have c3 := hb.cell (p := ⟨w.heap.size, 3, none⟩) (by go_size); (try simp at c0 c1 c2 c3)
      have f0 := hb.frozen (p := ⟨w.heap.size, 0, none⟩) (by go_size); have f1 := hb.frozen (p := ⟨w.heap.size, 1, none⟩) (by go_size); have f2 := hb.frozen (p := ⟨w.heap.size, 2, none⟩) (by go_size); have f3 := hb.frozen (p := ⟨w.heap.size, 3, none⟩) (by go_size); (try simp at f0 f1 f2 f3)
      have hsz := hb.size
      simp at hsz
      have hlt : w.heap.size < w1.heap.size := hsz
      go_wp2_with fail
      have hB : Below w.heap.size w w1 := sq (al _) hb
      have hq : w.heap.size ≤ w.heap.size := Nat.le_refl _
      exact bodyPost_ret (v := .tuple #[val 3 0 ⟨#[]⟩ none 0 0, .int .i64 0]) (by simp [results, Try.results26, go_sem, c0, c1, c2, c3]) rfl ⟨rfl, by first | exact hB | exact (((hB.setCell hq _).setCell hq _).setCell hq _).setCell hq _ | exact ((((hB.alloc hB.size _).setCell hq _).setCell hq _).setCell hq _).setCell hq _ | trace_state⟩
    replace h2 : ¬ (s.toList == [115, 116, 114, 105, 110, 103]) = true := h2
    have e0 : (s.toList == [105, 110, 116]) = false := by simpa using h0
    have e1 : (s.toList == [98, 111, 111, 108]) = false := by simpa using h1
    have e2 : (s.toList == [115, 116, 114, 105, 110, 103]) = false := by simpa using h2
    rw [if_pos rfl, if_pos rfl, if_neg h0, if_neg h1, if_neg h2] at H
    obtain ⟨rfl, rfl⟩ := H.out
    clear H h0 h1 h2
    go_enter Try.func26, Try.ntmps26
    go_wp2_with fail
    refine (typesValid_any s _ hs).mono ?_
    rintro e w1 ⟨rfl, hb⟩
    rw [HV.out]
    have c0 := hb.cell (p := ⟨w.heap.size, 0, none⟩) (by go_size); have c1 := hb.cell (p := ⟨w.heap.size, 1, none⟩) (by go_size); have c2 := hb.cell (p := ⟨w.heap.size, 2, none⟩) (by go_size); have c3 := hb.cell (p := ⟨w.heap.size, 3, none⟩) (by go_size); (try simp at c0 c1 c2 c3)
    have f0 := hb.frozen (p := ⟨w.heap.size, 0, none⟩) (by go_size); have f1 := hb.frozen (p := ⟨w.heap.size, 1, none⟩) (by go_size); have f2 := hb.frozen (p := ⟨w.heap.size, 2, none⟩) (by go_size); have f3 := hb.frozen (p := ⟨w.heap.size, 3, none⟩) (by go_size); (try simp at f0 f1 f2 f3)
    have hsz := hb.size
    simp at hsz
    have hlt : w.heap.size < w1.heap.size := hsz
    go_wp2_with fail
    have hB : Below w.heap.size w w1 := sq (al _) hb
    have hq : w.heap.size ≤ w.heap.size := Nat.le_refl _
    exact bodyPost_ret (v := .tuple #[val 4 0 ⟨#[]⟩ none 0 0, .int .i64 0]) (by simp [results, Try.results26, go_sem, c0, c1, c2, c3]) rfl ⟨rfl, by first | exact hB | exact (((hB.setCell hq _).setCell hq _).setCell hq _).setCell hq _ | exact ((((hB.alloc hB.size _).setCell hq _).setCell hq _).setCell hq _).setCell hq _ | trace_state⟩
set_option maxHeartbeats 4000000 in
theorem refZero_any (s : ByteArray) (k z : Int) (hk : k = zK s) (hz : z = zE s) (w : World) (hs : s.size ≤ 140737488351232) : Calls Try.prog 27 #[.string s] w fun e w' => e = .returned (.tuple #[val k 0 ⟨#[]⟩ none 0 0, .int .i64 z]) ∧ Below w.heap.size w w' := by
  have H := Lib.hid (And.intro hk hz)
  clear hk hz
  unfold zK zE at H
  cases hv : tyOk s
  · rw [hv] at H
    have HV := Lib.hid hv
    clear hv
    obtain ⟨rfl, rfl⟩ := H.out
    clear H
    go_enter Try.func27, Try.ntmps27
    go_wp2_with fail
    refine (refValid_any s _ hs).mono ?_
    rintro e w1 ⟨rfl, hb⟩
    rw [HV.out]
    have c0 := hb.cell (p := ⟨w.heap.size, 0, none⟩) (by go_size); have c1 := hb.cell (p := ⟨w.heap.size, 1, none⟩) (by go_size); have c2 := hb.cell (p := ⟨w.heap.size, 2, none⟩) (by go_size); have c3 := hb.cell (p := ⟨w.heap.size, 3, none⟩) (by go_size); (try simp at c0 c1 c2 c3)
    have f0 := hb.frozen (p := ⟨w.heap.size, 0, none⟩) (by go_size); have f1 := hb.frozen (p := ⟨w.heap.size, 1, none⟩) (by go_size); have f2 := hb.frozen (p := ⟨w.heap.size, 2, none⟩) (by go_size); have f3 := hb.frozen (p := ⟨w.heap.size, 3, none⟩) (by go_size); (try simp at f0 f1 f2 f3)
    have hsz := hb.size
    simp at hsz
    have hlt : w.heap.size < w1.heap.size := hsz
    go_wp2_with fail
    have hB : Below w.heap.size w w1 := sq (al _) hb
    have hq : w.heap.size ≤ w.heap.size := Nat.le_refl _
    exact bodyPost_ret (v := .tuple #[val 0 0 ⟨#[]⟩ none 0 0, .int .i64 9]) (by simp [results, Try.results27, go_sem, c0, c1, c2, c3]) rfl ⟨rfl, (((hB.setCell hq _).setCell hq _).setCell hq _).setCell hq _⟩
  · rw [hv] at H
    have HV := Lib.hid hv
    clear hv
    by_cases h0 : (s.toList == [105, 110, 116]) = true
    · have ebool := only s [105, 110, 116] [98, 111, 111, 108] (by decide) h0
      have estring := only s [105, 110, 116] [115, 116, 114, 105, 110, 103] (by decide) h0
      rw [if_pos rfl, if_pos rfl, if_pos h0] at H
      obtain ⟨rfl, rfl⟩ := H.out
      clear H
      go_enter Try.func27, Try.ntmps27
      go_wp2_with fail
      refine (refValid_any s _ hs).mono ?_
      rintro e w1 ⟨rfl, hb⟩
      rw [HV.out]
      have c0 := hb.cell (p := ⟨w.heap.size, 0, none⟩) (by go_size); have c1 := hb.cell (p := ⟨w.heap.size, 1, none⟩) (by go_size); have c2 := hb.cell (p := ⟨w.heap.size, 2, none⟩) (by go_size); have c3 := hb.cell (p := ⟨w.heap.size, 3, none⟩) (by go_size); (try simp at c0 c1 c2 c3)
      have f0 := hb.frozen (p := ⟨w.heap.size, 0, none⟩) (by go_size); have f1 := hb.frozen (p := ⟨w.heap.size, 1, none⟩) (by go_size); have f2 := hb.frozen (p := ⟨w.heap.size, 2, none⟩) (by go_size); have f3 := hb.frozen (p := ⟨w.heap.size, 3, none⟩) (by go_size); (try simp at f0 f1 f2 f3)
      have hsz := hb.size
      simp at hsz
      have hlt : w.heap.size < w1.heap.size := hsz
      go_wp2_with fail
      have hB : Below w.heap.size w w1 := sq (al _) hb
      have hq : w.heap.size ≤ w.heap.size := Nat.le_refl _
      exact bodyPost_ret (v := .tuple #[val 1 0 ⟨#[]⟩ none 0 0, .int .i64 0]) (by simp [results, Try.results27, go_sem, c0, c1, c2, c3, World.cell?_alloc_lt, hlt]) rfl ⟨rfl, by first | exact hB | exact ((((hB.setCell hq _).setCell hq _).setCell hq _).setCell hq _).alloc (by simp; omega) _⟩
    replace h0 : ¬ (s.toList == [105, 110, 116]) = true := h0
    by_cases h1 : (s.toList == [98, 111, 111, 108]) = true
    · have eint := only s [98, 111, 111, 108] [105, 110, 116] (by decide) h1
      have estring := only s [98, 111, 111, 108] [115, 116, 114, 105, 110, 103] (by decide) h1
      rw [if_pos rfl, if_pos rfl, if_neg h0, if_pos h1] at H
      obtain ⟨rfl, rfl⟩ := H.out
      clear H
      go_enter Try.func27, Try.ntmps27
      go_wp2_with fail
      refine (refValid_any s _ hs).mono ?_
      rintro e w1 ⟨rfl, hb⟩
      rw [HV.out]
      have c0 := hb.cell (p := ⟨w.heap.size, 0, none⟩) (by go_size); have c1 := hb.cell (p := ⟨w.heap.size, 1, none⟩) (by go_size); have c2 := hb.cell (p := ⟨w.heap.size, 2, none⟩) (by go_size); have c3 := hb.cell (p := ⟨w.heap.size, 3, none⟩) (by go_size); (try simp at c0 c1 c2 c3)
      have f0 := hb.frozen (p := ⟨w.heap.size, 0, none⟩) (by go_size); have f1 := hb.frozen (p := ⟨w.heap.size, 1, none⟩) (by go_size); have f2 := hb.frozen (p := ⟨w.heap.size, 2, none⟩) (by go_size); have f3 := hb.frozen (p := ⟨w.heap.size, 3, none⟩) (by go_size); (try simp at f0 f1 f2 f3)
      have hsz := hb.size
      simp at hsz
      have hlt : w.heap.size < w1.heap.size := hsz
      go_wp2_with fail
      have hB : Below w.heap.size w w1 := sq (al _) hb
      have hq : w.heap.size ≤ w.heap.size := Nat.le_refl _
      exact bodyPost_ret (v := .tuple #[val 2 0 ⟨#[]⟩ none 0 0, .int .i64 0]) (by simp [results, Try.results27, go_sem, c0, c1, c2, c3, World.cell?_alloc_lt, hlt]) rfl ⟨rfl, by first | exact hB | exact ((((hB.setCell hq _).setCell hq _).setCell hq _).setCell hq _).alloc (by simp; omega) _⟩
    replace h1 : ¬ (s.toList == [98, 111, 111, 108]) = true := h1
    by_cases h2 : (s.toList == [115, 116, 114, 105, 110, 103]) = true
    · have eint := only s [115, 116, 114, 105, 110, 103] [105, 110, 116] (by decide) h2
      have ebool := only s [115, 116, 114, 105, 110, 103] [98, 111, 111, 108] (by decide) h2
      rw [if_pos rfl, if_pos rfl, if_neg h0, if_neg h1, if_pos h2] at H
      obtain ⟨rfl, rfl⟩ := H.out
      clear H
      go_enter Try.func27, Try.ntmps27
      go_wp2_with fail
      refine (refValid_any s _ hs).mono ?_
      rintro e w1 ⟨rfl, hb⟩
      rw [HV.out]
      have c0 := hb.cell (p := ⟨w.heap.size, 0, none⟩) (by go_size); have c1 := hb.cell (p := ⟨w.heap.size, 1, none⟩) (by go_size); have c2 := hb.cell (p := ⟨w.heap.size, 2, none⟩) (by go_size); have c3 := hb.cell (p := ⟨w.heap.size, 3, none⟩) (by go_size); (try simp at c0 c1 c2 c3)
      have f0 := hb.frozen (p := ⟨w.heap.size, 0, none⟩) (by go_size); have f1 := hb.frozen (p := ⟨w.heap.size, 1, none⟩) (by go_size); have f2 := hb.frozen (p := ⟨w.heap.size, 2, none⟩) (by go_size); have f3 := hb.frozen (p := ⟨w.heap.size, 3, none⟩) (by go_size); (try simp at f0 f1 f2 f3)
      have hsz := hb.size
      simp at hsz
      have hlt : w.heap.size < w1.heap.size := hsz
      go_wp2_with fail
      have hB : Below w.heap.size w w1 := sq (al _) hb
      have hq : w.heap.size ≤ w.heap.size := Nat.le_refl _
      exact bodyPost_ret (v := .tuple #[val 3 0 ⟨#[]⟩ none 0 0, .int .i64 0]) (by simp [results, Try.results27, go_sem, c0, c1, c2, c3, World.cell?_alloc_lt, hlt]) rfl ⟨rfl, by first | exact hB | exact ((((hB.setCell hq _).setCell hq _).setCell hq _).setCell hq _).alloc (by simp; omega) _⟩
    replace h2 : ¬ (s.toList == [115, 116, 114, 105, 110, 103]) = true := h2
    have e0 : (s.toList == [105, 110, 116]) = false := by simpa using h0
    have e1 : (s.toList == [98, 111, 111, 108]) = false := by simpa using h1
    have e2 : (s.toList == [115, 116, 114, 105, 110, 103]) = false := by simpa using h2
    rw [if_pos rfl, if_pos rfl, if_neg h0, if_neg h1, if_neg h2] at H
    obtain ⟨rfl, rfl⟩ := H.out
    clear H h0 h1 h2
    go_enter Try.func27, Try.ntmps27
    go_wp2_with fail
    refine (refValid_any s _ hs).mono ?_
    rintro e w1 ⟨rfl, hb⟩
    rw [HV.out]
    have c0 := hb.cell (p := ⟨w.heap.size, 0, none⟩) (by go_size); have c1 := hb.cell (p := ⟨w.heap.size, 1, none⟩) (by go_size); have c2 := hb.cell (p := ⟨w.heap.size, 2, none⟩) (by go_size); have c3 := hb.cell (p := ⟨w.heap.size, 3, none⟩) (by go_size); (try simp at c0 c1 c2 c3)
    have f0 := hb.frozen (p := ⟨w.heap.size, 0, none⟩) (by go_size); have f1 := hb.frozen (p := ⟨w.heap.size, 1, none⟩) (by go_size); have f2 := hb.frozen (p := ⟨w.heap.size, 2, none⟩) (by go_size); have f3 := hb.frozen (p := ⟨w.heap.size, 3, none⟩) (by go_size); (try simp at f0 f1 f2 f3)
    have hsz := hb.size
    simp at hsz
    have hlt : w.heap.size < w1.heap.size := hsz
    go_wp2_with fail
    have hB : Below w.heap.size w w1 := sq (al _) hb
    have hq : w.heap.size ≤ w.heap.size := Nat.le_refl _
    exact bodyPost_ret (v := .tuple #[val 4 0 ⟨#[]⟩ none 0 0, .int .i64 0]) (by simp [results, Try.results27, go_sem, c0, c1, c2, c3, World.cell?_alloc_lt, hlt]) rfl ⟨rfl, by first | exact hB | exact ((((hB.setCell hq _).setCell hq _).setCell hq _).setCell hq _).alloc (by simp; omega) _⟩
theorem walkTypesZeros (v0 : Value) (w : World) (w0 : IsStr v0) : Calls Try.prog 8 #[v0] w fun e w' => e = .returned (.bool true) ∧ Below w.heap.size w w' := by
  obtain ⟨s, rfl, hs⟩ := w0
  obtain ⟨k, hk⟩ : ∃ k, k = zK s := ⟨_, rfl⟩
  obtain ⟨z, hz⟩ : ∃ z, z = zE s := ⟨_, rfl⟩
  have HK := Lib.hid hk
  have HZ := Lib.hid hz
  clear hk hz
  go_enter Try.func8, Try.ntmps8
  go_wp2_with fail
  refine (zero_any s k z HK.out HZ.out _ hs).mono ?_
  rintro e w1 ⟨rfl, b1⟩
  go_wp2_with fail
  refine (refZero_any s k z HK.out HZ.out _ hs).mono ?_
  rintro e w2 ⟨rfl, b2⟩
  have c0 := b2.cell (p := ⟨w1.heap.size, 0, none⟩) (by go_size); have c1 := b2.cell (p := ⟨w1.heap.size, 1, none⟩) (by go_size); have c2 := b2.cell (p := ⟨w1.heap.size, 2, none⟩) (by go_size); have c3 := b2.cell (p := ⟨w1.heap.size, 3, none⟩) (by go_size); (try simp at c0 c1 c2 c3)
  have hsz := b2.size
  simp at hsz
  have hlt : w1.heap.size < w2.heap.size := hsz
  go_wp2_with fail
  refine (refEq_any k 0 _ none 0 0 [] k 0 _ none 0 0 [] _ Rd.nil Rd.nil (by omega) (by omega)).mono ?_
  rintro e w3 ⟨rfl, b3⟩
  go_wp2_with fail
  go_ret
  exact ⟨by simp, sq (al2 (sq (al2 b1 _) b2) _) b3⟩
end Go.Proofs.Ytmbljapjecclaab
