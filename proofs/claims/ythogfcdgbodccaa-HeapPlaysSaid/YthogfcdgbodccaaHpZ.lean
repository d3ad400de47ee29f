/- A heap's 'is', whole. Conditions: none. -/
import Derived.Test.YthogfcdgbodccaaHpY
set_option maxRecDepth 100000
namespace Go.Proofs.Ythogfcdgbodccaa
open Go.ChangeShapes Go.WideShapes Go.ChangeAt Go.RowKit
def isB (bs : List BK) (a : Int) : Bool := decide (0 ≤ a) && (blkAt bs a.toNat).isSome
theorem isB_low {bs : List BK} {a : Int} (h : a < 0) : isB bs a = false := by
  unfold isB
  rw [decide_eq_false (by omega)]
  rfl
theorem isB_high {lo : Nat} {bs : List BK} {room : Nat} {a : Int} (hf : FitB lo bs room) (h : (room : Int) ≤ a) : isB bs a = false := by
  have hn : blkAt bs a.toNat = none := by
    apply List.find?_eq_none.2
    intro b hb
    have := (hf.ge b hb).2
    have h3 : b.fin = b.at_ + 1 + b.cells.length := rfl
    simp
    omega
  unfold isB
  rw [hn]
  simp
/-- What the box's cells tell. -/
theorem HPc.cell0 {w : World} {base P room : Nat} {bs : List BK} {cells : List (Int × Int)} {shapes : List Int} {cv zv sv : Value} (h : HPc w base P room bs cells shapes cv zv sv) : w.cell? ⟨P, 0, none⟩ = some cv ∧ w.cell? ⟨P, 1, none⟩ = some zv ∧ w.cell? ⟨P, 2, none⟩ = some sv :=
  ⟨by rw [Lib.cell_of_heap h.box]; rfl, by rw [Lib.cell_of_heap h.box]; rfl, by rw [Lib.cell_of_heap h.box]; rfl⟩
/-- The size that stands at a place. -/
theorem HPc.size {w : World} {base P room : Nat} {bs : List BK} {cells : List (Int × Int)} {shapes : List Int} {cv zv sv : Value} (h : HPc w base P room bs cells shapes cv zv sv) {a : Nat} (ha : a < room) : ∃ Z n1, zv = .slice (some ⟨Z, 0, none⟩) room n1 ∧ w.cell? ⟨Z, a, none⟩ = some (.int .i64 (match blkAt bs a with | some b => ((b.cells.length + 1 : Nat) : Int) | none => 0)) := by
  have hz := h.siz
  obtain ⟨Z, n1, e, _, _⟩ := hz.form (by omega)
  subst e
  refine ⟨Z, n1, rfl, ?_⟩
  obtain ⟨b, off, e, _, hc⟩ := (Rd.of_own hz).2 (by omega)
  injection e with e
  injection e with e1 e2
  subst e1 e2
  have hs := szL_at h.fit (Nat.zero_le a) ha
  rw [Nat.sub_zero] at hs
  have := hc a _ (by rw [List.getElem?_map, hs]; rfl)
  rwa [Nat.zero_add] at this
theorem is_any {w : World} {base P room : Nat} {bs : List BK} {cells : List (Int × Int)} {shapes : List Int} {cv zv sv : Value} (h : HPc w base P room bs cells shapes cv zv sv) (a : Int) :
    Calls Try.prog 37 #[.pointer (some ⟨P, 0, none⟩), .int .i64 a] w fun e w' => e = .returned (.bool (isB bs a)) ∧ Below w.heap.size w w' := by
  rcases Int.lt_or_le a 0 with hl | hl
  · rw [isB_low hl]
    exact is_low P a w hl
  · obtain ⟨d0, d1, _⟩ := h.cell0
    obtain ⟨A0, n0, e0⟩ := own_form h.cel
    rw [e0] at d0
    rcases Int.lt_or_le a (room : Int) with hr | hr
    · obtain ⟨Z, n1, e1, d2⟩ := h.size (a := a.toNat) (by omega)
      rw [e1] at d1
      have hw := is_in P Z room n0 n1 a.toNat A0 _ w d0 d1 d2 (by omega)
      rw [Int.toNat_of_nonneg hl] at hw
      have e2 : isB bs a = decide ((0 : Int) < (match blkAt bs a.toNat with | some b => ((b.cells.length + 1 : Nat) : Int) | none => 0)) := by
        unfold isB
        rw [decide_eq_true hl]
        cases blkAt bs a.toNat with
        | none => rfl
        | some b =>
          have : (0 : Int) < ((b.cells.length + 1 : Nat) : Int) := by omega
          simp only [decide_eq_true this]
          rfl
      rw [e2]
      exact hw
    · rw [isB_high h.fit hr]
      exact is_high P room n0 A0 a w d0 hl hr
end Go.Proofs.Ythogfcdgbodccaa
