/- A heap's 'place': where a block's cell stands. Conditions: none. -/
import Derived.Test.YthogfcdgbodccaaHpZ
set_option maxRecDepth 100000
namespace Go.Proofs.Ythogfcdgbodccaa
open Go.ChangeShapes Go.WideShapes Go.ChangeAt Go.RowKit
set_option maxHeartbeats 2000000 in
theorem place_no {w : World} {base P room : Nat} {bs : List BK} {cells : List (Int × Int)} {shapes : List Int} {cv zv sv : Value} (h : HPc w base P room bs cells shapes cv zv sv) (a i : Int) (hA : isB bs a = false) :
    Calls Try.prog 35 #[.pointer (some ⟨P, 0, none⟩), .int .i64 a, .int .i64 i] w fun e w' => e = .returned (.tuple #[.int .i64 0, .int .i64 16]) ∧ Below w.heap.size w w' := by
  have HC := Lib.hid h
  clear h
  go_enter Try.func35, Try.ntmps35
  go_wp2_with fail
  refine Calls.mono (is_any HC.out a) ?_
  rw [hA]
  rintro e w1 ⟨rfl, hb1⟩
  go_wp2_with fail
  refine bodyPost_ret (v := .tuple #[.int .i64 0, .int .i64 16]) (by simp [results, Try.results35, go_sem]) rfl ?_
  exact ⟨rfl, hb1⟩
set_option maxHeartbeats 2000000 in
theorem place_in {w : World} {base P room : Nat} {bs : List BK} {cells : List (Int × Int)} {shapes : List Int} {cv zv sv : Value} (h : HPc w base P room bs cells shapes cv zv sv) (a : Nat) (b : BK) (i : Int) (hb : blkAt bs a = some b) (h63 : room < 9223372036854775000) (hP : P < w.heap.size) :
    Calls Try.prog 35 #[.pointer (some ⟨P, 0, none⟩), .int .i64 (a : Int), .int .i64 i] w fun e w' => e = .returned (.tuple (if 0 ≤ i ∧ i < (b.cells.length : Int) then #[.int .i64 ((a : Int) + 1 + i), .int .i64 0] else #[.int .i64 0, .int .i64 14])) ∧ Below w.heap.size w w' := by
  obtain ⟨hm, he⟩ := blkAt_mem hb
  have hfb := (h.fit.ge b hm).2
  have h3 : b.fin = b.at_ + 1 + b.cells.length := rfl
  have hA : isB bs (a : Int) = true := by
    unfold isB
    rw [Int.toNat_natCast, hb]
    simp
  obtain ⟨Z, n1, e1, d2⟩ := h.size (a := a) (by omega)
  rw [hb] at d2
  simp only at d2
  subst e1
  have hZ : Z < w.heap.size := (h.siz.lt Z rfl).2
  have har : a < room := by omega
  have d1 := h.cell0.2.1
  have HC := Lib.hid h
  have hw1 : IntKind.i64.wrap (((b.cells.length + 1 : Nat) : Int) - 1) = (b.cells.length : Int) := by rw [show ((b.cells.length + 1 : Nat) : Int) - 1 = (b.cells.length : Int) by omega]; exact IntWalk.i64_in _ (by omega)
  have hq : a + 1 + b.cells.length ≤ room := by omega
  clear h hm hfb h3
  go_enter Try.func35, Try.ntmps35
  go_wp2_with fail
  refine Calls.mono (is_any HC.out (a : Int)) ?_
  rw [hA]
  rintro e w1 ⟨rfl, hb1⟩
  have c1 := (hb1.cell (p := ⟨P, 1, none⟩) hP).trans d1
  have c2 := (hb1.cell (p := ⟨Z, a, none⟩) hZ).trans d2
  clear d1 d2
  generalize ((b.cells.length + 1 : Nat) : Int) = v at hw1 c2
  by_cases h0 : 0 ≤ i
  · by_cases h1 : i < (b.cells.length : Int)
    · have hw2 : IntKind.i64.wrap ((a : Int) + 1) = (a : Int) + 1 := IntWalk.i64_in _ (by omega)
      have hw3 : IntKind.i64.wrap ((a : Int) + 1 + i) = (a : Int) + 1 + i := IntWalk.i64_in _ (by omega)
      go_wp2_with fail
      refine bodyPost_ret (v := .tuple #[.int .i64 ((a : Int) + 1 + i), .int .i64 0]) (by simp [results, Try.results35, go_sem]) rfl ?_
      exact ⟨by first | rfl | (rw [if_pos (by omega)]) | (rw [if_neg (by omega)]), hb1⟩
    · go_wp2_with fail
      refine bodyPost_ret (v := .tuple #[.int .i64 0, .int .i64 14]) (by simp [results, Try.results35, go_sem]) rfl ?_
      exact ⟨by first | rfl | (rw [if_pos (by omega)]) | (rw [if_neg (by omega)]), hb1⟩
  · go_wp2_with fail
    refine bodyPost_ret (v := .tuple #[.int .i64 0, .int .i64 14]) (by simp [results, Try.results35, go_sem]) rfl ?_
    exact ⟨by first | rfl | (rw [if_pos (by omega)]) | (rw [if_neg (by omega)]), hb1⟩
end Go.Proofs.Ythogfcdgbodccaa
