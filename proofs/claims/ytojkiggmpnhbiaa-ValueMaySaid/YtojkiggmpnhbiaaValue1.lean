/- 'value.May' and the document's May answer alike; so the law over them is true. Conditions: none. -/
import Derived.Test.YtojkiggmpnhbiaaOpValue
import Derived.Deep.RegionHeld3
namespace Go.Proofs.Ytojkiggmpnhbiaa
open Go.ChangeShapes Go.WideShapes Go.ChangeAt Go.RowKit
def mayB (k : Int) : Bool := k == 1 || k == 3 || k == 5
theorem valueMay_any (k n : Int) (s : ByteArray) (A : Option Addr) (len cap : Nat) (w : World) : Calls Try.prog 15 #[val k n s A len cap] w fun e w' => e = .returned (.bool (mayB k)) ∧ Below w.heap.size w w' := by
  go_enter Try.func15, Try.ntmps15
  go_wp2
  all_goals
    go_ret
    refine ⟨?_, al _⟩
    simp_all [mayB]
theorem refMay_any (k n : Int) (s : ByteArray) (A : Option Addr) (len cap : Nat) (w : World) : Calls Try.prog 17 #[val k n s A len cap] w fun e w' => e = .returned (.bool (mayB k)) ∧ Below w.heap.size w w' := by
  go_enter Try.func17, Try.ntmps17
  go_wp2
  all_goals
    go_ret
    refine ⟨?_, al _⟩
    simp_all [mayB]
/-- The cells of the law's own copy of a Value stay through a call. -/
theorem held_stay {W w1 w2 : World} {g : Nat} {x0 x1 x2 x3 : Value} (hg : g < W.heap.size) (hb : Below w1.heap.size w1 w2) (h : w1.cell? ⟨g, 0, none⟩ = some x0 ∧ w1.cell? ⟨g, 1, none⟩ = some x1 ∧ w1.cell? ⟨g, 2, none⟩ = some x2 ∧ w1.cell? ⟨g, 3, none⟩ = some x3 ∧ Below W.heap.size W w1) :
    w2.cell? ⟨g, 0, none⟩ = some x0 ∧ w2.cell? ⟨g, 1, none⟩ = some x1 ∧ w2.cell? ⟨g, 2, none⟩ = some x2 ∧ w2.cell? ⟨g, 3, none⟩ = some x3 ∧ Below W.heap.size W w2 := by
  obtain ⟨k1, _⟩ := kept hb
  obtain ⟨a, b, c, d, e⟩ := h
  have hg1 : g < w1.heap.size := Nat.lt_of_lt_of_le hg e.size
  exact ⟨by rw [k1 _ _ hg1]; exact a, by rw [k1 _ _ hg1]; exact b, by rw [k1 _ _ hg1]; exact c, by rw [k1 _ _ hg1]; exact d, sq e hb⟩
theorem last5 {a b c d e : Prop} (h : a ∧ b ∧ c ∧ d ∧ e) : e := h.2.2.2.2
theorem walkValueMay (v0 : Value) (w : World) (w0 : IsValue w v0) : Calls Try.prog 4 #[v0] w fun e w' => e = .returned (.bool true) ∧ Below w.heap.size w w' := by
  obtain ⟨k, n, s, A, len, cap, zs, rfl, _, _, _, hr, hlc, hcb, _⟩ := w0
  have hE : (mayB k == mayB k) = true := by simp
  go_enter Try.func4, Try.ntmps4
  go_wp2_with fail
  generalize hW : w.alloc (Obj.cells #[Value.int .i64 k, Value.int .i64 n, Value.string s, Value.slice A len cap] 25) = W
  have hWb : Below w.heap.size w W := by rw [← hW]; exact al _
  have hWb' : Below w.heap.size w W := hWb
  have hWs : W.heap.size = w.heap.size + 1 := by rw [← hW]; simp
  have hg : w.heap.size < W.heap.size := by omega
  have hrW := hr.below hWb
  have hI : W.cell? ⟨w.heap.size, 0, none⟩ = some (.int .i64 k) ∧ W.cell? ⟨w.heap.size, 1, none⟩ = some (.int .i64 n) ∧ W.cell? ⟨w.heap.size, 2, none⟩ = some (.string s) ∧ W.cell? ⟨w.heap.size, 3, none⟩ = some (.slice A len cap) ∧ Below W.heap.size W W := by
    rw [← hW]; simp; exact Below.refl _ _
  clear hW hWs
  have hId : W.drew.cell? ⟨w.heap.size, 0, none⟩ = some (.int .i64 k) ∧ W.drew.cell? ⟨w.heap.size, 1, none⟩ = some (.int .i64 n) ∧ W.drew.cell? ⟨w.heap.size, 2, none⟩ = some (.string s) ∧ W.drew.cell? ⟨w.heap.size, 3, none⟩ = some (.slice A len cap) ∧ Below W.heap.size W W.drew :=
    ⟨hI.1, hI.2.1, hI.2.2.1, hI.2.2.2.1, hI.2.2.2.2.drew⟩
  go_region_held3 (fun w' => w'.cell? ⟨w.heap.size, 0, none⟩ = some (.int .i64 k) ∧ w'.cell? ⟨w.heap.size, 1, none⟩ = some (.int .i64 n) ∧ w'.cell? ⟨w.heap.size, 2, none⟩ = some (.string s) ∧ w'.cell? ⟨w.heap.size, 3, none⟩ = some (.slice A len cap) ∧ Below W.heap.size W w')
    (first | exact hId | exact held_stay hg (by assumption) (by assumption))
    (first
      | (go_at_call 16; refine (own_any k n s A len cap zs _ (hrW.into (Nat.le_of_lt hg) (last5 (by assumption))) (by omega)).mono ?_; rintro e w1 ⟨A1, c1, rfl, hown, hb⟩)
      | (go_at_call 15; refine (valueMay_any _ _ _ _ _ _ _).mono ?_; rintro e w2 ⟨rfl, b2⟩)
      | (go_at_call 17; refine (refMay_any _ _ _ _ _ _ _).mono ?_; rintro e w3 ⟨rfl, b3⟩))
  go_wp2
  go_ret
  exact ⟨rfl, sq hWb' (last5 (by assumption))⟩
end Go.Proofs.Ytojkiggmpnhbiaa
