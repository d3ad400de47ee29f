/- 'GuardSays' is true. Conditions: none. -/
import Derived.Test.YtegpaniooigbdaaGdH
import Derived.Test.YtegpaniooigbdaaCdL
import Derived.Deep.RegionHeld3
set_option maxRecDepth 100000
namespace Go.Proofs.Ytegpaniooigbdaa
open Go.ChangeShapes Go.WideShapes Go.ChangeAt Go.RowKit
theorem guard_zero (w : World) : Calls Try.prog 37 #[.agg #[.slice none 0 0, .slice none 0 0]] w fun e w' => e = .returned (.agg #[.int .i64 16, .int .i64 (-1), .int .i64 (-1)]) ∧ Below w.heap.size w w' := by
  refine (guard_any none none 0 0 ⟨[], []⟩ 0 0 w rfl rfl ⟨fun k f h => by simp at h, ⟨rfl, fun h => by simp at h⟩, fun s h => by simp at h, fun s h => by simp at h, by simp, by simp, fun s h => by simp at h⟩).mono ?_
  rintro e w' ⟨rfl, hb⟩
  exact ⟨rfl, hb⟩
theorem walkGuardSays (v0 : Value) (w : World) (w0 : IsCode w v0) : Calls Try.prog 9 #[v0] w fun e w' => e = .returned (.bool true) ∧ Below w.heap.size w w' := by
  obtain ⟨K, FA, TA, fc, tc, rfl, hrd, hf⟩ := w0
  have HCP := Lib.hid (fun W (hW : Below w.heap.size w W) => copied_any K FA TA fc tc W (KK.sh.more (KK.sh.keep hrd fun p hp => hW.cell hp) fun b hb => Nat.lt_of_lt_of_le hb hW.size) hf)
  have HKR := Lib.hid (KR.of' hrd hf)
  obtain ⟨nf, hnf⟩ : ∃ n, n = K.funcs.length := ⟨_, rfl⟩
  obtain ⟨nt, hnt⟩ : ∃ n, n = K.texts.length := ⟨_, rfl⟩
  rw [← hnf, ← hnt] at HCP ⊢
  have HNF := Lib.hid hnf
  have HNT := Lib.hid hnt
  have HSF := Lib.hid (fun A' B' c' d' W hk => guard_any A' B' c' d' K nf nt W HNF.out HNT.out hk)
  have HSR := Lib.hid (fun W (hW : Below w.heap.size w W) => refGuard_any FA TA fc tc K nf nt W HNF.out HNT.out ((HKR.out.into hW).more hW.size))
  clear hnf hnt hrd hf
  generalize hfx : fixV (guardV K) = fx at *
  obtain ⟨a, b, c, hfx3⟩ : ∃ a b c, fx = .agg #[.int .i64 a, .int .i64 b, .int .i64 c] := ⟨_, _, _, hfx.symm⟩
  subst hfx3
  clear hfx
  have hfl : ∀ w, (Instr.field 85 (.agg #[.int .i64 16, .int .i64 (-1), .int .i64 (-1)]) 0).run Try.prog w = .ok (.int .i64 16) w := fun w => by kernel_rfl
  go_enter Try.func9, Try.ntmps9
  go_wp2_with fail
  generalize hW : w.alloc (Obj.cells #[Value.slice FA nf fc, Value.slice TA nt tc] 71) = W
  have HWB := Lib.hid (show Below w.heap.size w W by rw [← hW]; exact al _)
  have hg : w.heap.size < W.heap.size := by rw [← hW]; simp
  have hId : W.drew.cell? ⟨w.heap.size, 0, none⟩ = some (.slice FA nf fc) ∧ W.drew.cell? ⟨w.heap.size, 1, none⟩ = some (.slice TA nt tc) ∧ Below W.heap.size W W.drew := by
    rw [← hW]; simp [go_sem]; exact (Below.refl _ _).drew
  clear hW
  go_region_held3 (fun w' => w'.cell? ⟨w.heap.size, 0, none⟩ = some (.slice FA nf fc) ∧ w'.cell? ⟨w.heap.size, 1, none⟩ = some (.slice TA nt tc) ∧ Below W.heap.size W w')
    (first | exact hId | exact held01 hg (by assumption) (by assumption))
    (first
      | (go_at_call 29; refine (HCP.out _ (sq HWB.out (lst3 (by assumption)))).mono ?_; rintro e w3 ⟨FA', fc', TA', tc', rfl, hkr, b3⟩)
      | (go_at_call_of 37 (Value.agg #[Value.slice none 0 0, Value.slice none 0 0]); refine (guard_zero _).mono ?_; rintro e w3 ⟨rfl, b3⟩)
      | (go_at_call 37; refine (HSF.out _ _ _ _ _ (by assumption)).mono ?_; rintro e w3 ⟨rfl, b3⟩)
      | (go_at_call 38; refine (HSR.out _ (sq HWB.out (lst3 (by assumption)))).mono ?_; rintro e w3 ⟨rfl, b3⟩))
  go_wp2
  go_ret
  exact ⟨rfl, sq HWB.out (lst3 (by assumption))⟩
end Go.Proofs.Ytegpaniooigbdaa
