/- The law TypesFuncs: walked. Conditions: none. -/
import Derived.Test.YtmbljapjecclaabTyFn
set_option maxRecDepth 20000
namespace Go.Proofs.Ytmbljapjecclaab
open Go.ChangeShapes Go.WideShapes Go.ChangeAt Go.RowKit
theorem strv_one (l : List ByteArray) : ∀ u ∈ l.map Value.string, u.oneCell' = true := by
  intro u hu
  obtain ⟨_, _, rfl⟩ := List.mem_map.1 hu
  rfl
theorem walkTypesFuncs (v0 v1 : Value) (w : World) (w0 : IsStrs w v0) (w1 : IsStr v1) : Calls Try.prog 9 #[v0, v1] w fun e w' => e = .returned (.bool true) ∧ Below w.heap.size w w' := by
  obtain ⟨A, c, l, rfl, hr, hl1, hl2⟩ := w0
  obtain ⟨r, rfl, hrs⟩ := w1
  obtain ⟨i0, hi, hz0, hz1, hz2⟩ := info_parts info_str
  obtain ⟨x, z, hV⟩ := fnV_form l r
  have HV := Lib.hid hV
  have HI := Lib.hid (show fnV [] ⟨#[105, 110, 116]⟩ = .tuple #[.string ⟨#[102, 117, 110, 99, 40, 41, 105, 110, 116]⟩, .int .i64 0] by
    rw [fnV_end (T := ⟨#[102, 117, 110, 99, 40, 41, 105, 110, 116]⟩) (by decide) (by decide) (.inr (by decide +kernel)) (by decide +kernel)]
    rfl)
  have HR := Lib.hid hr
  have HL := Lib.hid hl2
  clear hV hr hl2
  generalize hn : l.length = n at *
  have HN := Lib.hid hn
  clear hn
  go_enter Try.func9, Try.ntmps9
  go_wp2_with (at_builtin; refine wpList_append_new _ rfl _ _ 23 rfl 9 i0 _ 1 16 Try.underlying23 hi hz0 hz1 hz2 rfl (by omega) rfl w.heap.size A n c (l.map Value.string) rfl HR.out (strv_one l) (by omega) (by unfold maxLen; omega) ?_; intro A3 c3 w3 hown3 hb3)
  refine (func_any A3 n c3 l HN.out.symm r _ (Rd.of_own hown3) HL.out hrs (by omega)).mono ?_
  rintro e w4 ⟨rfl, b4⟩
  rw [HV.out]
  go_wp2_with fail
  refine (refFunc_any A n c l HN.out.symm r _ (HR.out.into (Nat.le_refl _) (sq hb3 b4)) HL.out hrs (by omega)).mono ?_
  rintro e w5 ⟨rfl, b5⟩
  rw [HV.out]
  go_wp2_with fail
  refine (func_any none 0 0 [] rfl ⟨#[105, 110, 116]⟩ _ Rd.nil (by simp) (by decide) (by omega)).mono ?_
  rintro e w6 ⟨rfl, b6⟩
  rw [HI.out]
  go_wp2_with fail
  go_ret
  exact ⟨by simp, sq (sq (sq hb3 b4) b5) b6⟩
end Go.Proofs.Ytmbljapjecclaab
