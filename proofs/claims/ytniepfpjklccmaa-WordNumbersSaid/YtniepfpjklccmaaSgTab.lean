/- The table of the operations' signs: the program's array and the document's pieces of one text. Conditions: none. -/
import Derived.Test.YtniepfpjklccmaaCut
namespace Go.Proofs.Ytniepfpjklccmaa
open Go.ChangeShapes Go.WideShapes Go.ChangeAt Go.RowKit

def signsL : List (List UInt8) := [[], [43], [45], [42], [47], [37], [60, 60], [62, 62], [38], [124], [94], [61, 61], [33, 61], [60], [60, 61], [62], [62, 61]]
theorem signs_len : signsL.length = 17 := rfl
theorem signs_cut : cutG 32 (ByteArray.mk #[32, 43, 32, 45, 32, 42, 32, 47, 32, 37, 32, 60, 60, 32, 62, 62, 32, 38, 32, 124, 32, 94, 32, 61, 61, 32, 33, 61, 32, 60, 32, 60, 61, 32, 62, 32, 62, 61]).data.toList [] = signsL := by decide +kernel
theorem cutAt_signs (w : World) : Calls Try.prog 39 #[.string ⟨#[32, 43, 32, 45, 32, 42, 32, 47, 32, 37, 32, 60, 60, 32, 62, 62, 32, 38, 32, 124, 32, 94, 32, 61, 61, 32, 33, 61, 32, 60, 32, 60, 61, 32, 62, 32, 62, 61]⟩, .int .u8 32] w fun e w' => ∃ g c, e = .returned (.slice (some ⟨g, 0, none⟩) 17 c) ∧ Rd w' w'.heap.size 1 (some ⟨g, 0, none⟩) 17 (strs signsL) ∧ Below w.heap.size w w' := by
  have h := cutAt_any ⟨#[32, 43, 32, 45, 32, 42, 32, 47, 32, 37, 32, 60, 60, 32, 62, 62, 32, 38, 32, 124, 32, 94, 32, 61, 61, 32, 33, 61, 32, 60, 32, 60, 61, 32, 62, 32, 62, 61]⟩ 32 32 rfl (by decide +kernel) w
  rw [signs_cut] at h
  refine h.mono ?_
  rintro e w' ⟨A, c, rfl, hown, hb⟩
  obtain ⟨g, cap, hv, _⟩ := hown.form (by decide)
  injection hv with hA _ hc
  subst hA hc
  exact ⟨g, _, rfl, Rd.of_own hown, hb⟩
/-- The table of the signs. -/
def sgArr : Array Value := #[.string ⟨#[]⟩, .string ⟨#[43]⟩, .string ⟨#[45]⟩, .string ⟨#[42]⟩, .string ⟨#[47]⟩, .string ⟨#[37]⟩, .string ⟨#[60, 60]⟩, .string ⟨#[62, 62]⟩, .string ⟨#[38]⟩, .string ⟨#[124]⟩, .string ⟨#[94]⟩, .string ⟨#[61, 61]⟩, .string ⟨#[33, 61]⟩, .string ⟨#[60]⟩, .string ⟨#[60, 61]⟩, .string ⟨#[62]⟩, .string ⟨#[62, 61]⟩]
theorem wordSigns_any (w : World) : Calls Try.prog 38 #[] w fun e w' => e = .returned (.agg sgArr) ∧ Below w.heap.size w w' := by
  go_enter Try.func38, Try.ntmps38
  go_wp2
  exact bodyPost_ret (v := .agg sgArr) (by simp [results, Try.results38, go_sem, sgArr]) rfl ⟨rfl, al _⟩
/-- The sign of number k, as a text. -/
def sgAt (k : Nat) : ByteArray := ⟨(signsL.getD k []).toArray⟩
theorem run_sgAt : ∀ (k : Nat), k < 17 → ∀ w : World, (Instr.index 46 (.agg sgArr) (.int .i64 (k : Int))).run Try.prog w = .ok (.string (sgAt k)) w
  | 0, _ => fun w => by kernel_rfl
  | 1, _ => fun w => by kernel_rfl
  | 2, _ => fun w => by kernel_rfl
  | 3, _ => fun w => by kernel_rfl
  | 4, _ => fun w => by kernel_rfl
  | 5, _ => fun w => by kernel_rfl
  | 6, _ => fun w => by kernel_rfl
  | 7, _ => fun w => by kernel_rfl
  | 8, _ => fun w => by kernel_rfl
  | 9, _ => fun w => by kernel_rfl
  | 10, _ => fun w => by kernel_rfl
  | 11, _ => fun w => by kernel_rfl
  | 12, _ => fun w => by kernel_rfl
  | 13, _ => fun w => by kernel_rfl
  | 14, _ => fun w => by kernel_rfl
  | 15, _ => fun w => by kernel_rfl
  | 16, _ => fun w => by kernel_rfl
  | k + 17, h => absurd h (by omega)

theorem sg_ne : ∀ k, k < 17 → ∀ j, j < 17 → k ≠ j → (sgAt k).toList ≠ (sgAt j).toList := by decide +kernel
theorem cell_sg {w : World} {g : Nat} (hr : Rd w w.heap.size 1 (some ⟨g, 0, none⟩) 17 (strs signsL)) {k : Nat} (hk : k < 17) : w.cell? ⟨g, k, none⟩ = some (.string (sgAt k)) := by
  obtain ⟨b, off, u, hA, _, hu, hc⟩ := hr.at1 hk
  have hu' := strs_get (by rw [signs_len]; omega) hu
  injection hA with hA
  injection hA with hA1 hA2
  subst hA1 hA2 hu'
  rw [Nat.zero_add] at hc
  exact hc
end Go.Proofs.Ytniepfpjklccmaa
