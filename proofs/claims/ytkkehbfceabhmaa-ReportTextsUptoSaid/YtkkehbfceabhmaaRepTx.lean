/- The law ReportTexts is true. Conditions: the bound on the bulk. -/
import Derived.Test.YtkkehbfceabhmaaPTx
import Derived.Test.YtkkehbfceabhmaaUp
import Derived.Deep.RegionHeld3
set_option maxRecDepth 20000
namespace Go.Proofs.Ytkkehbfceabhmaa
open Go.ChangeShapes Go.WideShapes Go.ChangeAt Go.RowKit
theorem walkReportTexts (v0 : Value) (w : World) (w0 : IsUVal w v0) : Calls Try.prog 6 #[v0] w fun e w' => e = .returned (.bool true) ∧ Below w.heap.size w w' := by
  obtain ⟨x, A, c, rfl, hrd, hb⟩ := w0
  obtain ⟨A', c', he, hr, hlc, hcm, hA, hk, hn, hz⟩ := VV.elim hrd
  simp at he
  obtain ⟨rfl, rfl⟩ := he
  clear hrd hA
  have hll : x.l.length * 8 ≤ 140737488355328 := by unfold VV.bulk at hb; omega
  have HB := Lib.hid hb
  have HN := Lib.hid hn
  clear hk hz hn hb
  go_enter Try.func6, Try.ntmps6
  go_wp2_with fail
  generalize hW : w.alloc (Obj.cells #[Value.int .i64 x.k, Value.int .i64 x.n, Value.string x.s, Value.slice A x.l.length c] 39) = W
  have hWb : Below w.heap.size w W := by rw [← hW]; exact al _
  have hWb' : Below w.heap.size w W := hWb
  have hWs : W.heap.size = w.heap.size + 1 := by rw [← hW]; simp
  have hg : w.heap.size < W.heap.size := by omega
  have hrW := hr.keep (w' := W) (fun p hp => hWb.cell hp)
  have hI : W.cell? ⟨w.heap.size, 0, none⟩ = some (.int .i64 x.k) ∧ W.cell? ⟨w.heap.size, 1, none⟩ = some (.int .i64 x.n) ∧ W.cell? ⟨w.heap.size, 2, none⟩ = some (.string x.s) ∧ W.cell? ⟨w.heap.size, 3, none⟩ = some (.slice A x.l.length c) ∧ Below W.heap.size W W := by
    rw [← hW]; simp; exact Below.refl _ _
  clear hW hWs
  have hId : W.drew.cell? ⟨w.heap.size, 0, none⟩ = some (.int .i64 x.k) ∧ W.drew.cell? ⟨w.heap.size, 1, none⟩ = some (.int .i64 x.n) ∧ W.drew.cell? ⟨w.heap.size, 2, none⟩ = some (.string x.s) ∧ W.drew.cell? ⟨w.heap.size, 3, none⟩ = some (.slice A x.l.length c) ∧ Below W.heap.size W W.drew :=
    ⟨hI.1, hI.2.1, hI.2.2.1, hI.2.2.2.1, hI.2.2.2.2.drew⟩
  have HR := Lib.hid (show Rd W w.heap.size 1 A x.l.length (x.l.map (Value.int .i64)) from hrW)
  clear hr hrW
  go_region_held3 (fun w' => w'.cell? ⟨w.heap.size, 0, none⟩ = some (.int .i64 x.k) ∧ w'.cell? ⟨w.heap.size, 1, none⟩ = some (.int .i64 x.n) ∧ w'.cell? ⟨w.heap.size, 2, none⟩ = some (.string x.s) ∧ w'.cell? ⟨w.heap.size, 3, none⟩ = some (.slice A x.l.length c) ∧ Below W.heap.size W w')
    (first | exact hId | exact held_stay hg (by assumption) (by assumption))
    (first
      | (go_at_call 23; refine (own_any x.k x.n x.s A _ c x.l _ (HR.out.into (Nat.le_of_lt hg) (last5 (by assumption))) hll).mono ?_; rintro e w1 ⟨A1, c1, rfl, hown, hb⟩)
      | (go_at_call 22; refine (reportText_any x _ _ _ HN.out HB.out).mono ?_; rintro e w2 ⟨rfl, b2⟩)
      | (go_at_call 24; refine (refPanicText_any x _ _ _ HN.out HB.out).mono ?_; rintro e w3 ⟨rfl, b3⟩))
  go_wp2
  go_ret
  exact ⟨by simp, sq hWb' (last5 (by assumption))⟩
end Go.Proofs.Ytkkehbfceabhmaa
