/- 'value.Same' and the document's SameValue: the law over them is true. Conditions: none. -/
import Derived.Test.YtniepfpjklccmacPlain
import Derived.Test.YtniepfpjklccmacValue2
import Derived.Test.YtniepfpjklccmacPlains
import Derived.Deep.RegionHeld3
set_option maxRecDepth 20000
namespace Go.Proofs.Ytniepfpjklccmac
open Go.ChangeShapes Go.WideShapes Go.ChangeAt Go.RowKit
def sameV (k n : Int) (s : ByteArray) (zs : List Int) (k' n' : Int) (s' : ByteArray) (zs' : List Int) : Bool :=
  if (k != k') = true then false else if (k == 2) = true then ((n != 0) == (n' != 0)) else if (k == 1) = true ∨ (k == 7) = true ∨ (k == 8) = true then n == n' else if (k == 3) = true ∨ (k == 5) = true then s.toList == s'.toList else if (k == 6) = true then zs == zs' else true
theorem valueSame_any (k n : Int) (s : ByteArray) (A : Option Addr) (len cap : Nat) (zs : List Int) (k' n' : Int) (s' : ByteArray) (A' : Option Addr) (len' cap' : Nat) (zs' : List Int) (w : World) (hx : Rd w w.heap.size 1 A len (zs.map (Value.int .i64))) (hy : Rd w w.heap.size 1 A' len' (zs'.map (Value.int .i64))) (hn : len * 8 ≤ 140737488355328) (hn' : len' * 8 ≤ 140737488355328) :
    Calls Try.prog 18 #[val k n s A len cap, val k' n' s' A' len' cap'] w fun e w' => e = .returned (.bool (sameV k n s zs k' n' s' zs')) ∧ Below w.heap.size w w' := by
  go_enter Try.func18, Try.ntmps18
  go_wp2_with (go_at_call 54; refine (slicesEqual_any _ _ _ _ _ _ zs zs' _ _ _ ((hx.alloc (Nat.le_refl _) _).alloc (by simp) _) ((hy.alloc (Nat.le_refl _) _).alloc (by simp) _) hn hn').mono ?_; rintro e w2 ⟨rfl, m, rfl⟩)
  all_goals
    go_ret
    refine ⟨by simp_all [sameV], ?_⟩
    first | exact al2 (al _) _ | exact dr (al2 (al _) _) _
def noneB (k : Int) : Bool := decide (k < 1) || decide (8 < k)
theorem refNone_any (k : Int) (w : World) : Calls Try.prog 55 #[.int .i64 k] w fun e w' => e = .returned (.bool (noneB k)) ∧ w = w' := by
  have HN := Lib.hid (show (k < 1 → noneB k = true) ∧ (¬ k < 1 → noneB k = decide (8 < k)) by
    unfold noneB
    refine ⟨fun h => by simp [h], fun h => by simp [h]⟩)
  by_cases h1 : k < 1
  · have e := HN.out.1 h1
    go_enter Try.func55, Try.ntmps55
    go_wp2
    go_ret
    exact ⟨rfl, rfl⟩
  · have e := HN.out.2 h1
    go_enter Try.func55, Try.ntmps55
    go_wp2
    go_ret
    exact ⟨rfl, rfl⟩
theorem bb (n n' : Int) : ((if (n != 0) = true then (1 : Int) else 0) == (if (n' != 0) = true then (1 : Int) else 0)) = ((n != 0) == (n' != 0)) := by
  cases (n != 0) <;> cases (n' != 0) <;> rfl
theorem same_eq {k : Int} (h : noneB k = false) (n n' : Int) (s s' : ByteArray) (zs zs' : List Int) :
    (plN k n == plN k n' && (plS k s).toList == (plS k s').toList && plL k zs == plL k zs') = sameV k n s zs k n' s' zs' := by
  have hk : k = 1 ∨ k = 2 ∨ k = 3 ∨ k = 4 ∨ k = 5 ∨ k = 6 ∨ k = 7 ∨ k = 8 := by
    unfold noneB at h
    simp at h
    omega
  rcases hk with rfl | rfl | rfl | rfl | rfl | rfl | rfl | rfl
  all_goals simp only [plN, plS, plL, sameV, bne_self_eq_false]
  all_goals simp
  all_goals (first | done | exact bb n n' | (have := bb n n'; simpa using this))
theorem same_none {k : Int} (h : noneB k = true) (n n' : Int) (s s' : ByteArray) (zs zs' : List Int) : sameV k n s zs k n' s' zs' = true := by
  have hk : k < 1 ∨ 8 < k := by
    unfold noneB at h
    simpa using h
  have e : ∀ j : Int, 1 ≤ j → j ≤ 8 → (k == j) = false := fun j h1 h2 => by simp; omega
  unfold sameV
  rw [e 2 (by omega) (by omega), e 1 (by omega) (by omega), e 7 (by omega) (by omega), e 8 (by omega) (by omega), e 3 (by omega) (by omega), e 5 (by omega) (by omega), e 6 (by omega) (by omega)]
  simp
theorem refSame_any (k n : Int) (s : ByteArray) (A : Option Addr) (len cap : Nat) (zs : List Int) (k' n' : Int) (s' : ByteArray) (A' : Option Addr) (len' cap' : Nat) (zs' : List Int) (w : World) (hx : Rd w w.heap.size 1 A len (zs.map (Value.int .i64))) (hy : Rd w w.heap.size 1 A' len' (zs'.map (Value.int .i64))) (hn : len * 8 ≤ 140737488355328) (hn' : len' * 8 ≤ 140737488355328) :
    Calls Try.prog 19 #[val k n s A len cap, val k' n' s' A' len' cap'] w fun e w' => e = .returned (.bool (sameV k n s zs k' n' s' zs')) ∧ Below w.heap.size w w' := by
  go_enter Try.func19, Try.ntmps19
  have hzl : zs.length = len := by have := hx.1; simpa using this
  have hzl' : zs'.length = len' := by have := hy.1; simpa using this
  have HZ := Lib.hid (And.intro hzl hzl')
  clear hzl hzl'
  by_cases hk : k = k'
  · subst hk
    by_cases hN : noneB k = true
    · have HE := Lib.hid (same_none hN n n' s s' zs zs')
      go_wp2_with fail
      go_quiet (exact Calls.quiet_of_same ((refNone_any _ _).mono fun _ _ h => ⟨h.1, h.2.symm⟩))
      go_wp2
      go_ret
      exact ⟨by rw [HE.out]; rfl, dr (al2 (al _) _) _⟩
    · have hN' : noneB k = false := by simpa using hN
      have HE := Lib.hid (same_eq hN' n n' s s' zs zs')
      clear hN
      go_wp2_with fail
      generalize hW : (w.alloc (Obj.cells #[Value.int .i64 k, Value.int .i64 n, Value.string s, Value.slice A len cap] 24)).alloc (Obj.cells #[Value.int .i64 k, Value.int .i64 n', Value.string s', Value.slice A' len' cap'] 24) = W
      have hWb : Below w.heap.size w W := by rw [← hW]; exact al2 (al _) _
      have hWs : W.heap.size = w.heap.size + 1 + 1 := by rw [← hW]; simp
      have hg : w.heap.size + 1 < W.heap.size := by omega
      have hrW := hx.below hWb
      have hrW' := hy.below hWb
      have hI : W.cell? ⟨w.heap.size, 0, none⟩ = some (.int .i64 k) ∧ W.cell? ⟨w.heap.size, 1, none⟩ = some (.int .i64 n) ∧ W.cell? ⟨w.heap.size, 2, none⟩ = some (.string s) ∧ W.cell? ⟨w.heap.size, 3, none⟩ = some (.slice A len cap) ∧ W.cell? ⟨w.heap.size + 1, 0, none⟩ = some (.int .i64 k) ∧ W.cell? ⟨w.heap.size + 1, 1, none⟩ = some (.int .i64 n') ∧ W.cell? ⟨w.heap.size + 1, 2, none⟩ = some (.string s') ∧ W.cell? ⟨w.heap.size + 1, 3, none⟩ = some (.slice A' len' cap') ∧ Below W.heap.size W W := by
        rw [← hW]; simp; exact Below.refl _ _
      clear hW hWs
      have hId : W.drew.cell? ⟨w.heap.size, 0, none⟩ = some (.int .i64 k) ∧ W.drew.cell? ⟨w.heap.size, 1, none⟩ = some (.int .i64 n) ∧ W.drew.cell? ⟨w.heap.size, 2, none⟩ = some (.string s) ∧ W.drew.cell? ⟨w.heap.size, 3, none⟩ = some (.slice A len cap) ∧ W.drew.cell? ⟨w.heap.size + 1, 0, none⟩ = some (.int .i64 k) ∧ W.drew.cell? ⟨w.heap.size + 1, 1, none⟩ = some (.int .i64 n') ∧ W.drew.cell? ⟨w.heap.size + 1, 2, none⟩ = some (.string s') ∧ W.drew.cell? ⟨w.heap.size + 1, 3, none⟩ = some (.slice A' len' cap') ∧ Below W.heap.size W W.drew :=
        ⟨hI.1, hI.2.1, hI.2.2.1, hI.2.2.2.1, hI.2.2.2.2.1, hI.2.2.2.2.2.1, hI.2.2.2.2.2.2.1, hI.2.2.2.2.2.2.2.1, hI.2.2.2.2.2.2.2.2.drew⟩
      go_region_held3 (fun w' => w'.cell? ⟨w.heap.size, 0, none⟩ = some (.int .i64 k) ∧ w'.cell? ⟨w.heap.size, 1, none⟩ = some (.int .i64 n) ∧ w'.cell? ⟨w.heap.size, 2, none⟩ = some (.string s) ∧ w'.cell? ⟨w.heap.size, 3, none⟩ = some (.slice A len cap) ∧ w'.cell? ⟨w.heap.size + 1, 0, none⟩ = some (.int .i64 k) ∧ w'.cell? ⟨w.heap.size + 1, 1, none⟩ = some (.int .i64 n') ∧ w'.cell? ⟨w.heap.size + 1, 2, none⟩ = some (.string s') ∧ w'.cell? ⟨w.heap.size + 1, 3, none⟩ = some (.slice A' len' cap') ∧ Below W.heap.size W w')
        (first | exact hId | exact held_two hg (by assumption) (by assumption))
        (first
          | (go_at_call 55; refine (refNone_any _ _).mono ?_; rintro e w1 ⟨rfl, rfl⟩)
          | (go_at_call 22; refine (refPlain_any _ _ _ _ _ _ _ _ (by first | exact hrW.into (by omega) (last9 (by assumption)) | exact hrW'.into (by omega) (last9 (by assumption))) (by first | exact hn | exact hn')).mono ?_; rintro e w2 ⟨A3, l3, c3, rfl, hown3, hb3⟩)
          | (go_at_call 21; refine (refEqual_any _ _ _ _ _ _ _ _ _ _ _ _ _ _ _ (by first | exact Rd.of_own (by assumption) | exact (Rd.of_own (by assumption)).into (Nat.le_refl _) (by assumption)) (by first | exact Rd.of_own (by assumption) | exact (Rd.of_own (by assumption)).into (Nat.le_refl _) (by assumption)) (by first | exact own_len (by assumption) HZ.out.1 hn | exact own_len (by assumption) HZ.out.2 hn') (by first | exact own_len (by assumption) HZ.out.1 hn | exact own_len (by assumption) HZ.out.2 hn')).mono ?_; rintro e w4 ⟨rfl, hb5⟩))
      go_wp2
      go_ret
      exact ⟨by rw [← HE.out]; rfl, sq hWb (last9 (by assumption))⟩
  · have HE := Lib.hid (show sameV k n s zs k' n' s' zs' = false by unfold sameV; rw [if_pos (by simp [hk])])
    go_wp2_with fail
    go_ret
    exact ⟨by rw [HE.out]; rfl, al2 (al _) _⟩
theorem same_self (k n : Int) (s : ByteArray) (zs : List Int) : sameV k n s zs k n s zs = true := by
  unfold sameV
  simp
set_option maxHeartbeats 2000000 in
theorem walkValueSame (v0 v1 : Value) (w : World) (w0 : IsValue w v0) (w1 : IsValue w v1) : Calls Try.prog 4 #[v0, v1] w fun e w' => e = .returned (.bool true) ∧ Below w.heap.size w w' := by
  obtain ⟨k, n, s, A, len, cap, zs, rfl, _, _, _, hr, hlc, hcb, _⟩ := w0
  obtain ⟨k', n', s', A', len', cap', zs', rfl, _, _, _, hr', hlc', hcb', _⟩ := w1
  have hself := same_self k n s zs
  have hn : len * 8 ≤ 140737488355328 := by omega
  have hn' : len' * 8 ≤ 140737488355328 := by omega
  go_enter Try.func4, Try.ntmps4
  go_wp2_with fail
  generalize hW : (w.alloc (Obj.cells #[Value.int .i64 k, Value.int .i64 n, Value.string s, Value.slice A len cap] 24)).alloc (Obj.cells #[Value.int .i64 k', Value.int .i64 n', Value.string s', Value.slice A' len' cap'] 24) = W
  have hWb : Below w.heap.size w W := by rw [← hW]; exact al2 (al _) _
  have hWb' : Below w.heap.size w W := hWb
  have hWs : W.heap.size = w.heap.size + 1 + 1 := by rw [← hW]; simp
  have hg : w.heap.size + 1 < W.heap.size := by omega
  have hrW := hr.below hWb
  have hrW' := hr'.below hWb
  have hI : W.cell? ⟨w.heap.size, 0, none⟩ = some (.int .i64 k) ∧ W.cell? ⟨w.heap.size, 1, none⟩ = some (.int .i64 n) ∧ W.cell? ⟨w.heap.size, 2, none⟩ = some (.string s) ∧ W.cell? ⟨w.heap.size, 3, none⟩ = some (.slice A len cap) ∧ W.cell? ⟨w.heap.size + 1, 0, none⟩ = some (.int .i64 k') ∧ W.cell? ⟨w.heap.size + 1, 1, none⟩ = some (.int .i64 n') ∧ W.cell? ⟨w.heap.size + 1, 2, none⟩ = some (.string s') ∧ W.cell? ⟨w.heap.size + 1, 3, none⟩ = some (.slice A' len' cap') ∧ Below W.heap.size W W := by
    rw [← hW]; simp; exact Below.refl _ _
  clear hW hWs
  have hId : W.drew.cell? ⟨w.heap.size, 0, none⟩ = some (.int .i64 k) ∧ W.drew.cell? ⟨w.heap.size, 1, none⟩ = some (.int .i64 n) ∧ W.drew.cell? ⟨w.heap.size, 2, none⟩ = some (.string s) ∧ W.drew.cell? ⟨w.heap.size, 3, none⟩ = some (.slice A len cap) ∧ W.drew.cell? ⟨w.heap.size + 1, 0, none⟩ = some (.int .i64 k') ∧ W.drew.cell? ⟨w.heap.size + 1, 1, none⟩ = some (.int .i64 n') ∧ W.drew.cell? ⟨w.heap.size + 1, 2, none⟩ = some (.string s') ∧ W.drew.cell? ⟨w.heap.size + 1, 3, none⟩ = some (.slice A' len' cap') ∧ Below W.heap.size W W.drew :=
    ⟨hI.1, hI.2.1, hI.2.2.1, hI.2.2.2.1, hI.2.2.2.2.1, hI.2.2.2.2.2.1, hI.2.2.2.2.2.2.1, hI.2.2.2.2.2.2.2.1, hI.2.2.2.2.2.2.2.2.drew⟩
  go_region_held3 (fun w' => w'.cell? ⟨w.heap.size, 0, none⟩ = some (.int .i64 k) ∧ w'.cell? ⟨w.heap.size, 1, none⟩ = some (.int .i64 n) ∧ w'.cell? ⟨w.heap.size, 2, none⟩ = some (.string s) ∧ w'.cell? ⟨w.heap.size, 3, none⟩ = some (.slice A len cap) ∧ w'.cell? ⟨w.heap.size + 1, 0, none⟩ = some (.int .i64 k') ∧ w'.cell? ⟨w.heap.size + 1, 1, none⟩ = some (.int .i64 n') ∧ w'.cell? ⟨w.heap.size + 1, 2, none⟩ = some (.string s') ∧ w'.cell? ⟨w.heap.size + 1, 3, none⟩ = some (.slice A' len' cap') ∧ Below W.heap.size W w')
    (first | exact hId | exact held_two hg (by assumption) (by assumption))
    (first
      | (go_at_call 16; refine (own_any _ _ _ _ _ _ _ _ (by first | exact hrW.into (by omega) (last9 (by assumption)) | exact hrW'.into (by omega) (last9 (by assumption))) (by first | exact hn | exact hn')).mono ?_; rintro e w1 ⟨A1, c1, rfl, hown, hb⟩)
      | (go_at_call 18; refine (valueSame_any _ _ _ _ _ _ _ _ _ _ _ _ _ _ _ (by first | exact Rd.of_own (by assumption) | exact (Rd.of_own (by assumption)).into (Nat.le_refl _) (by assumption)) (by first | exact Rd.of_own (by assumption) | exact (Rd.of_own (by assumption)).into (Nat.le_refl _) (by assumption)) (by first | exact hn | exact hn') (by first | exact hn | exact hn')).mono ?_; rintro e w2 ⟨rfl, hb2⟩)
      | (go_at_call 19; refine (refSame_any _ _ _ _ _ _ zs _ _ _ _ _ _ zs' _ (hrW.into (by omega) (last9 (by assumption))) (hrW'.into (by omega) (last9 (by assumption))) hn hn').mono ?_; rintro e w3 ⟨rfl, hb3⟩))
  go_wp2
  go_ret
  exact ⟨rfl, sq hWb' (last9 (by assumption))⟩
end Go.Proofs.Ytniepfpjklccmac
