/- 'word.Sign' and the document's Sign answer alike; so the law over them is true. Conditions: none. -/
import Derived.Test.YtojkiggmpnhbiaaCut
namespace Go.Proofs.Ytojkiggmpnhbiaa
open Go.ChangeShapes Go.WideShapes Go.ChangeAt Go.RowKit

def signsL : List (List UInt8) := [[], [43], [45], [42], [47], [37], [60, 60], [62, 62], [38], [124], [94], [61, 61], [33, 61], [60], [60, 61], [62], [62, 61]]
theorem signs_len : signsL.length = 17 := rfl
theorem signs_cut : cutG 32 (ByteArray.mk #[32, 43, 32, 45, 32, 42, 32, 47, 32, 37, 32, 60, 60, 32, 62, 62, 32, 38, 32, 124, 32, 94, 32, 61, 61, 32, 33, 61, 32, 60, 32, 60, 61, 32, 62, 32, 62, 61]).data.toList [] = signsL := by decide +kernel
theorem cutAt_signs (w : World) : Calls Try.prog 41 #[.string ⟨#[32, 43, 32, 45, 32, 42, 32, 47, 32, 37, 32, 60, 60, 32, 62, 62, 32, 38, 32, 124, 32, 94, 32, 61, 61, 32, 33, 61, 32, 60, 32, 60, 61, 32, 62, 32, 62, 61]⟩, .int .u8 32] w fun e w' => ∃ g c, e = .returned (.slice (some ⟨g, 0, none⟩) 17 c) ∧ Rd w' w'.heap.size 1 (some ⟨g, 0, none⟩) 17 (strs signsL) ∧ Below w.heap.size w w' := by
  have h := cutAt_any ⟨#[32, 43, 32, 45, 32, 42, 32, 47, 32, 37, 32, 60, 60, 32, 62, 62, 32, 38, 32, 124, 32, 94, 32, 61, 61, 32, 33, 61, 32, 60, 32, 60, 61, 32, 62, 32, 62, 61]⟩ 32 32 rfl (by decide +kernel) w
  rw [signs_cut] at h
  refine h.mono ?_
  rintro e w' ⟨A, c, rfl, hown, hb⟩
  obtain ⟨g, cap, hv, _⟩ := hown.form (by decide)
  injection hv with hA _ hc
  subst hA hc
  exact ⟨g, _, rfl, Rd.of_own hown, hb⟩
/-- The table of the signs. -/
def sgArr : Array Value := #[.string ⟨#[]⟩, .string ⟨#[43]⟩, .string ⟨#[45]⟩, .string ⟨#[42]⟩, .string ⟨#[47]⟩, .string ⟨#[37]⟩, .string ⟨#[60, 60]⟩, .string ⟨#[62, 62]⟩, .string ⟨#[38]⟩, .string ⟨#[124]⟩, .string ⟨#[94]⟩, .string ⟨#[61, 61]⟩, .string ⟨#[33, 61]⟩, .string ⟨#[60]⟩, .string ⟨#[60, 61]⟩, .string ⟨#[62]⟩, .string ⟨#[62, 61]⟩]
theorem wordSigns_any (w : World) : Calls Try.prog 43 #[] w fun e w' => e = .returned (.agg sgArr) ∧ Below w.heap.size w w' := by
  go_enter Try.func43, Try.ntmps43
  go_wp2
  exact bodyPost_ret (v := .agg sgArr) (by simp [results, Try.results43, go_sem, sgArr]) rfl ⟨rfl, al _⟩
/-- The sign of number k, as a text. -/
def sgAt (k : Nat) : ByteArray := ⟨(signsL.getD k []).toArray⟩
theorem run_sgAt : ∀ (k : Nat), k < 17 → ∀ w : World, (Instr.index 63 (.agg sgArr) (.int .i64 (k : Int))).run Try.prog w = .ok (.string (sgAt k)) w
  | 0, _ => fun w => by kernel_rfl
  | 1, _ => fun w => by kernel_rfl
  | 2, _ => fun w => by kernel_rfl
  | 3, _ => fun w => by kernel_rfl
  | 4, _ => fun w => by kernel_rfl
  | 5, _ => fun w => by kernel_rfl
  | 6, _ => fun w => by kernel_rfl
  | 7, _ => fun w => by kernel_rfl
  | 8, _ => fun w => by kernel_rfl
  | 9, _ => fun w => by kernel_rfl
  | 10, _ => fun w => by kernel_rfl
  | 11, _ => fun w => by kernel_rfl
  | 12, _ => fun w => by kernel_rfl
  | 13, _ => fun w => by kernel_rfl
  | 14, _ => fun w => by kernel_rfl
  | 15, _ => fun w => by kernel_rfl
  | 16, _ => fun w => by kernel_rfl
  | k + 17, h => absurd h (by omega)
theorem strs_get {W : List (List UInt8)} {k : Nat} {u : Value} (hk : k < W.length) (h : (strs W)[k]? = some u) : u = .string ⟨(W.getD k []).toArray⟩ := by
  rw [strs, List.getElem?_map, List.getElem?_eq_getElem hk] at h
  simpa [List.getD, hk] using h.symm

theorem wordSign_yes (k : Nat) (h1 : 1 ≤ k) (h2 : k ≤ 16) (w : World) : Calls Try.prog 33 #[.int .i64 (k : Int)] w fun e w' => e = .returned (.tuple #[.string (sgAt k), .int .i64 0]) ∧ Below w.heap.size w w' := by
  have hi := run_sgAt k (by omega)
  go_enter Try.func33, Try.ntmps33
  go_wp2_with (go_at_call 43; refine (wordSigns_any _).mono ?_; rintro e w1 ⟨rfl, b1⟩)
  go_ret2
  exact ⟨rfl, b1⟩
theorem wordSign_no (n : Int) (h : n < 1 ∨ 16 < n) (w : World) : Calls Try.prog 33 #[.int .i64 n] w fun e w' => e = .returned (.tuple #[.string ByteArray.empty, .int .i64 13]) ∧ Below w.heap.size w w' := by
  by_cases h1 : n < 1
  · clear h
    go_enter Try.func33, Try.ntmps33
    go_wp2
    go_ret2
    exact ⟨rfl, Below.refl _ _⟩
  · have h2 : 16 < n := by omega
    clear h
    go_enter Try.func33, Try.ntmps33
    go_wp2
    go_ret2
    exact ⟨rfl, Below.refl _ _⟩
theorem refSign_yes (k : Nat) (h1 : 1 ≤ k) (h2 : k ≤ 16) (w : World) : Calls Try.prog 34 #[.int .i64 (k : Int)] w fun e w' => e = .returned (.tuple #[.string (sgAt k), .int .i64 0]) ∧ Below w.heap.size w w' := by
  go_enter Try.func34, Try.ntmps34
  go_wp2_with fail
  refine (cutAt_signs _).mono ?_
  rintro e w1 ⟨g, c, rfl, hr, hb⟩
  obtain ⟨b, off, u, hA, _, hu, hc⟩ := hr.at1 (show k < 17 by omega)
  have hu' := strs_get (by rw [signs_len]; omega) hu
  injection hA with hA
  injection hA with hA1 hA2
  subst hA1 hA2 hu'
  clear hu
  rw [Nat.zero_add] at hc
  replace hc : w1.cell? ⟨g, k, none⟩ = some (.string (sgAt k)) := hc
  go_wp2
  go_ret2
  exact ⟨rfl, hb⟩
theorem refSign_no (n : Int) (h : n < 1 ∨ 16 < n) (w : World) : Calls Try.prog 34 #[.int .i64 n] w fun e w' => e = .returned (.tuple #[.string ByteArray.empty, .int .i64 13]) ∧ Below w.heap.size w w' := by
  by_cases h1 : n < 1
  · clear h
    go_enter Try.func34, Try.ntmps34
    go_wp2
    go_ret2
    exact ⟨rfl, Below.refl _ _⟩
  · have h2 : 16 < n := by omega
    clear h
    go_enter Try.func34, Try.ntmps34
    go_wp2
    go_ret2
    exact ⟨rfl, Below.refl _ _⟩
theorem walkWordSigns (v0 : Value) (w : World) (w0 : IsInt v0) : Calls Try.prog 12 #[v0] w fun e w' => e = .returned (.bool true) ∧ Below w.heap.size w w' := by
  obtain ⟨n, rfl, _⟩ := w0
  by_cases h : 1 ≤ n ∧ n ≤ 16
  · obtain ⟨k, rfl⟩ := Int.eq_ofNat_of_zero_le (show 0 ≤ n by omega)
    have h1 : 1 ≤ k := by omega
    have h2 : k ≤ 16 := by omega
    clear h
    have hE : ((sgAt k).toList == (sgAt k).toList) = true := by simp
    go_enter Try.func12, Try.ntmps12
    go_wp2_with fail
    refine (wordSign_yes k h1 h2 _).mono ?_
    rintro e w1 ⟨rfl, b1⟩
    go_wp2_with fail
    refine (refSign_yes k h1 h2 _).mono ?_
    rintro e w2 ⟨rfl, b2⟩
    go_wp2_with fail
    go_ret
    exact ⟨rfl, sq b1 b2⟩
  · have h' : n < 1 ∨ 16 < n := by omega
    clear h
    go_enter Try.func12, Try.ntmps12
    go_wp2_with fail
    refine (wordSign_no n h' _).mono ?_
    rintro e w1 ⟨rfl, b1⟩
    go_wp2_with fail
    refine (refSign_no n h' _).mono ?_
    rintro e w2 ⟨rfl, b2⟩
    go_wp2_with fail
    go_ret
    exact ⟨rfl, sq b1 b2⟩
end Go.Proofs.Ytojkiggmpnhbiaa
