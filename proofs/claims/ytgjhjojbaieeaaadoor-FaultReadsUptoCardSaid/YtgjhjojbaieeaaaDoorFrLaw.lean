/- The law of 'fault.Read' and the document's. Conditions: the length. -/
import Derived.Test.YtgjhjojbaieeaaaDoorFrF
set_option maxRecDepth 20000
namespace Go.Proofs.YtgjhjojbaieeaaaDoor
open Go.ChangeShapes Go.WideShapes Go.ChangeAt Go.RowKit
theorem rdv_form (s : ByteArray) : ∃ k a b c e : Int, RdV s = .tuple #[.agg #[.int .i64 k, .int .i64 a, .int .i64 b, .int .i64 c], .int .i64 e] := by
  unfold RdV
  cases refP s.data.toList with
  | some f => exact ⟨_, _, _, _, _, rfl⟩
  | none => exact ⟨_, _, _, _, _, rfl⟩
set_option maxHeartbeats 1000000 in
theorem walkFaultReads (s : ByteArray) (m : Int) (w : World) (hm : w.cell? ⟨0, 0, none⟩ = some (.int .i64 m)) (hs : s.size ≤ 1048576) : Calls Tryd.prog 3 #[.string s] w fun e w' => e = .returned (.bool true) ∧ Below w.heap.size w w' := by
  obtain ⟨k, a, b, c, x, hv⟩ := rdv_form s
  have HV := Lib.hid hv
  have HM := Lib.hid hm
  clear hv hm
  go_enter Tryd.func3, Tryd.ntmps3
  go_wp2_with fail
  refine (faultRead_any s m _ HM.out (by omega)).mono ?_
  rintro e w1 ⟨rfl, hb1⟩
  rw [HV.out]
  have HB1 := Lib.hid hb1
  clear hb1
  go_wp2_with fail
  refine (readFault_any s _ hs).mono ?_
  rintro e w2 ⟨rfl, hb2⟩
  rw [HV.out]
  have HB2 := Lib.hid (sq (sq HB1.out (al _)) hb2)
  have d0 : w2.cell? ⟨w1.heap.size, 0, none⟩ = some (.int .i64 k) := (hb2.cell (p := ⟨w1.heap.size, 0, none⟩) (by simp)).trans (by simp [go_sem])
  have d1 : w2.cell? ⟨w1.heap.size, 1, none⟩ = some (.int .i64 a) := (hb2.cell (p := ⟨w1.heap.size, 1, none⟩) (by simp)).trans (by simp [go_sem])
  have d2 : w2.cell? ⟨w1.heap.size, 2, none⟩ = some (.int .i64 b) := (hb2.cell (p := ⟨w1.heap.size, 2, none⟩) (by simp)).trans (by simp [go_sem])
  have d3 : w2.cell? ⟨w1.heap.size, 3, none⟩ = some (.int .i64 c) := (hb2.cell (p := ⟨w1.heap.size, 3, none⟩) (by simp)).trans (by simp [go_sem])
  have hlt : w1.heap.size < w2.heap.size := by have := hb2.size; simp at this; omega
  generalize hg1 : w1.heap.size = g1 at *
  clear hb2
  go_wp2_with fail
  go_ret
  exact ⟨rfl, sq HB2.out (al _)⟩
end Go.Proofs.YtgjhjojbaieeaaaDoor
