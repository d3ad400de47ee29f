/- The heap's Look, Load, Free. Conditions: none. -/
import Derived.Test.YthogfcdgbodccaaHpE
set_option maxRecDepth 100000
namespace Go.Proofs.Ythogfcdgbodccaa
open Go.ChangeShapes Go.WideShapes Go.ChangeAt Go.RowKit
def lookV (bs : List BK) (a : Int) : Value := if isB bs a then (match blkAt bs a.toNat with | some b => .tuple #[.int .i64 b.shape, .int .i64 (b.cells.length : Int), .int .i64 0] | none => .tuple #[]) else .tuple #[.int .i64 0, .int .i64 0, .int .i64 16]
def loadV (bs : List BK) (a i : Int) : Value := if isB bs a then (match blkAt bs a.toNat with
  | some b => if 0 ≤ i ∧ i < (b.cells.length : Int) then (match b.cells[i.toNat]? with | some c => .tuple #[.agg #[.int .i64 c.1, .int .i64 c.2], .int .i64 0] | none => .tuple #[]) else .tuple #[.agg #[.int .i64 0, .int .i64 0], .int .i64 14]
  | none => .tuple #[]) else .tuple #[.agg #[.int .i64 0, .int .i64 0], .int .i64 16]
theorem isB_blk {bs : List BK} {a : Int} (h : isB bs a = true) : ∃ (k : Nat) (b : BK), a = (k : Int) ∧ blkAt bs k = some b := by
  unfold isB at h
  simp only [Bool.and_eq_true, decide_eq_true_eq] at h
  obtain ⟨b, hb⟩ := Option.isSome_iff_exists.1 h.2
  exact ⟨a.toNat, b, by omega, hb⟩
theorem HPc.shape {w : World} {base P room : Nat} {bs : List BK} {cells : List (Int × Int)} {shapes : List Int} {cv zv sv : Value} (h : HPc w base P room bs cells shapes cv zv sv) {a : Nat} {b : BK} (hb : blkAt bs a = some b) : ∃ S n1, sv = .slice (some ⟨S, 0, none⟩) room n1 ∧ w.cell? ⟨S, a, none⟩ = some (.int .i64 b.shape) ∧ S < w.heap.size ∧ a < room := by
  obtain ⟨hm, he⟩ := blkAt_mem hb
  have hf := (h.fit.ge b hm).2
  have h3 : b.fin = b.at_ + 1 + b.cells.length := rfl
  have har : a < room := by omega
  have hs := h.sha
  obtain ⟨S, n1, rfl, _⟩ := hs.form (by omega)
  have := own_cellC hs (k := a) (u := .int .i64 b.shape) (by rw [List.getElem?_map, ← he, h.row.sha b hm]; rfl)
  exact ⟨S, n1, rfl, this.1, this.2.2.2, har⟩
set_option maxHeartbeats 2000000 in
theorem look_any {w : World} {base P room : Nat} {bs : List BK} {cells : List (Int × Int)} {shapes : List Int} {cv zv sv : Value} (h : HPc w base P room bs cells shapes cv zv sv) (a : Int) (h63 : room < 9223372036854775000) :
    Calls Try.prog 24 #[.pointer (some ⟨P, 0, none⟩), .int .i64 a] w fun e w' => e = .returned (lookV bs a) ∧ Below w.heap.size w w' := by
  have HC := Lib.hid h
  cases hA : isB bs a with
  | false =>
    have HV := Lib.hid (show lookV bs a = .tuple #[.int .i64 0, .int .i64 0, .int .i64 16] by unfold lookV; rw [hA]; rfl)
    clear h
    go_enter Try.func24, Try.ntmps24
    go_wp2_with fail
    refine Calls.mono (is_any HC.out a) ?_
    rw [hA]
    rintro e w1 ⟨rfl, hb1⟩
    go_wp2_with fail
    refine bodyPost_ret (v := .tuple #[.int .i64 0, .int .i64 0, .int .i64 16]) (by simp [results, Try.results24, go_sem]) rfl ?_
    exact ⟨by rw [HV.out], hb1⟩
  | true =>
    obtain ⟨k, b, rfl, hb⟩ := isB_blk hA
    have HV := Lib.hid (show lookV bs (k : Int) = .tuple #[.int .i64 b.shape, .int .i64 (b.cells.length : Int), .int .i64 0] by unfold lookV; rw [hA, Int.toNat_natCast, hb]; rfl)
    obtain ⟨S, n2, rfl, d3, hS, hkr⟩ := h.shape hb
    obtain ⟨Z, n1, rfl, d2⟩ := h.size (a := k) hkr
    have hZ : Z < w.heap.size := (h.siz.lt Z rfl).2
    have hP : P < w.heap.size := (Array.getElem?_eq_some_iff.1 h.box).1
    obtain ⟨d0, d1, d4⟩ := h.cell0
    obtain ⟨hm, he⟩ := blkAt_mem hb
    have hf := (h.fit.ge b hm).2
    have h3 : b.fin = b.at_ + 1 + b.cells.length := rfl
    rw [hb] at d2
    simp only at d2
    have hw1 : IntKind.i64.wrap (((b.cells.length + 1 : Nat) : Int) - 1) = (b.cells.length : Int) := by rw [show ((b.cells.length + 1 : Nat) : Int) - 1 = (b.cells.length : Int) by omega]; exact IntWalk.i64_in _ (by omega)
    clear h hm hf h3 he hb
    go_enter Try.func24, Try.ntmps24
    go_wp2_with fail
    refine Calls.mono (is_any HC.out (k : Int)) ?_
    rw [hA]
    rintro e w1 ⟨rfl, hb1⟩
    have c1 := (hb1.cell (p := ⟨P, 1, none⟩) hP).trans d1
    have c2 := (hb1.cell (p := ⟨Z, k, none⟩) hZ).trans d2
    have c3 := (hb1.cell (p := ⟨S, k, none⟩) hS).trans d3
    have c4 := (hb1.cell (p := ⟨P, 2, none⟩) hP).trans d4
    clear d0 d1 d2 d3 d4 hA
    generalize ((b.cells.length + 1 : Nat) : Int) = v at hw1 c2
    go_wp2_with fail
    go_quiet (fail)
    go_wp2_with fail
    refine bodyPost_ret (v := .tuple #[.int .i64 b.shape, .int .i64 (b.cells.length : Int), .int .i64 0]) (by simp [results, Try.results24, go_sem]) rfl ?_
    exact ⟨by rw [HV.out], by first | exact hb1 | exact dr hb1 _⟩
theorem HPc.cellAt {w : World} {base P room : Nat} {bs : List BK} {cells : List (Int × Int)} {shapes : List Int} {cv zv sv : Value} (h : HPc w base P room bs cells shapes cv zv sv) {a j : Nat} {b : BK} {c : Int × Int} (hb : blkAt bs a = some b) (hj : b.cells[j]? = some c) : ∃ C n1, cv = .slice (some ⟨C, 0, none⟩) room n1 ∧ w.cell? ⟨C, (a + 1 + j) * 2, none⟩ = some (.int .i64 c.1) ∧ w.cell? ⟨C, (a + 1 + j) * 2 + 1, none⟩ = some (.int .i64 c.2) ∧ C < w.heap.size ∧ a + 1 + j < room := by
  obtain ⟨hm, he⟩ := blkAt_mem hb
  have hf := (h.fit.ge b hm).2
  have h3 : b.fin = b.at_ + 1 + b.cells.length := rfl
  have hjl := (List.getElem?_eq_some_iff.1 hj).1
  have hs := h.cel
  obtain ⟨C, n1, rfl, _⟩ := hs.form (by omega)
  have hq : cells[a + 1 + j]? = some c := by rw [← he, h.row.cel b hm j hjl]; exact hj
  have h0 := own_cellC hs (k := (a + 1 + j) * 2 + 0) (u := .int .i64 c.1) (by rw [ceL_get hq (by omega)]; rfl)
  have h1 := own_cellC hs (k := (a + 1 + j) * 2 + 1) (u := .int .i64 c.2) (by rw [ceL_get hq (by omega)]; rfl)
  exact ⟨C, n1, rfl, h0.1, h1.1, h0.2.2.2, by omega⟩
set_option maxHeartbeats 2000000 in
theorem load_any {w : World} {base P room : Nat} {bs : List BK} {cells : List (Int × Int)} {shapes : List Int} {cv zv sv : Value} (h : HPc w base P room bs cells shapes cv zv sv) (a i : Int) (h63 : room < 9223372036854775000) :
    Calls Try.prog 22 #[.pointer (some ⟨P, 0, none⟩), .int .i64 a, .int .i64 i] w fun e w' => e = .returned (loadV bs a i) ∧ Below w.heap.size w w' := by
  have HC := Lib.hid h
  have hP : P < w.heap.size := (Array.getElem?_eq_some_iff.1 h.box).1
  cases hA : isB bs a with
  | false =>
    have HV := Lib.hid (show loadV bs a i = .tuple #[.agg #[.int .i64 0, .int .i64 0], .int .i64 16] by unfold loadV; rw [hA]; rfl)
    clear h
    go_enter Try.func22, Try.ntmps22
    go_wp2_with fail
    refine Calls.mono (place_no (HC.out.below (al _)) a i hA) ?_
    rintro e w1 ⟨rfl, hb1⟩
    have hb := sq (al _) hb1
    obtain ⟨⟨c0, c1⟩, f0, f1⟩ := loc2 hb1
    go_wp2_with fail
    refine bodyPost_ret (v := .tuple #[.agg #[.int .i64 0, .int .i64 0], .int .i64 16]) (by simp [results, Try.results22, go_sem, c0, c1]) rfl ?_
    exact ⟨by rw [HV.out], below_loc2 hb _ _⟩
  | true =>
    obtain ⟨k, b, rfl, hb⟩ := isB_blk hA
    have hpl := place_in (HC.out.below (al (.cells #[.int .i64 0, .int .i64 0] 36))) k b i hb h63 (by simp; omega)
    by_cases hi : 0 ≤ i ∧ i < (b.cells.length : Int)
    · obtain ⟨j, rfl⟩ : ∃ j : Nat, i = (j : Int) := ⟨i.toNat, by omega⟩
      obtain ⟨c, hc⟩ : ∃ c, b.cells[j]? = some c := ⟨_, List.getElem?_eq_getElem (by omega)⟩
      have HV := Lib.hid (show loadV bs (k : Int) (j : Int) = .tuple #[.agg #[.int .i64 c.1, .int .i64 c.2], .int .i64 0] by unfold loadV; rw [hA, Int.toNat_natCast, hb]; simp only [if_true, if_pos hi, Int.toNat_natCast, hc])
      obtain ⟨C, n1, e1, d1, d2, hC, hr⟩ := h.cellAt hb hc
      have d0 := h.cell0.1
      rw [e1] at d0
      rw [if_pos hi, show ((k : Int) + 1 + (j : Int)) = ((k + 1 + j : Nat) : Int) by omega] at hpl
      have HPL := Lib.hid hpl
      clear h hpl e1 hi hc hb
      generalize k + 1 + j = q at d1 d2 hr HPL
      go_enter Try.func22, Try.ntmps22
      go_wp2_with fail
      refine Calls.mono HPL.out ?_
      rintro e w1 ⟨rfl, hb1⟩
      have hb := sq (al _) hb1
      obtain ⟨⟨c0, c1⟩, f0, f1⟩ := loc2 hb1
      have c2 := (hb.cell (p := ⟨C, q * 2, none⟩) hC).trans d1
      have c3 := (hb.cell (p := ⟨C, q * 2 + 1, none⟩) hC).trans d2
      have c4 := (hb.cell (p := ⟨P, 0, none⟩) hP).trans d0
      clear d0 d1 d2
      go_wp2_with fail
      refine bodyPost_ret (v := .tuple #[.agg #[.int .i64 c.1, .int .i64 c.2], .int .i64 0]) (by simp [results, Try.results22, go_sem, c0, c1]) rfl ?_
      exact ⟨by rw [HV.out], below_loc2 hb _ _⟩
    · have HV := Lib.hid (show loadV bs (k : Int) i = .tuple #[.agg #[.int .i64 0, .int .i64 0], .int .i64 14] by unfold loadV; rw [hA, Int.toNat_natCast, hb]; simp only [if_true, if_neg hi])
      rw [if_neg hi] at hpl
      have HPL := Lib.hid hpl
      clear h hpl hi hb
      go_enter Try.func22, Try.ntmps22
      go_wp2_with fail
      refine Calls.mono HPL.out ?_
      rintro e w1 ⟨rfl, hb1⟩
      have hb := sq (al _) hb1
      obtain ⟨⟨c0, c1⟩, f0, f1⟩ := loc2 hb1
      go_wp2_with fail
      refine bodyPost_ret (v := .tuple #[.agg #[.int .i64 0, .int .i64 0], .int .i64 14]) (by simp [results, Try.results22, go_sem, c0, c1]) rfl ?_
      exact ⟨by rw [HV.out], below_loc2 hb _ _⟩
end Go.Proofs.Ythogfcdgbodccaa
