/- 'report.Ending', 'report.Status' and the document's answer alike; so the law over them is true. Conditions: none. -/
import Derived.Test.YtapofohbngkekaaTx
import Derived.Laws.BitsAllLaws
import Derived.Laws.BitsLemmas
set_option maxRecDepth 20000
namespace Go.Proofs.Ytapofohbngkekaa
open Go.ChangeShapes Go.WideShapes Go.ChangeAt Go.RowKit

theorem and255 (n : Int) : bits .and .i64 n 255 = n % 256 := by
  show IntKind.i64.wrap ((BitVec.ofInt 64 n &&& BitVec.ofInt 64 255).toNat : Int) = _
  have e : (BitVec.ofInt 64 255).toNat = 2 ^ 8 - 1 := rfl
  rw [BitVec.toNat_and, e, Nat.and_two_pow_sub_one_eq_mod, BitVec.toNat_ofInt, IntKind.wrap_i64]
  omega
theorem tmod256 (n : Int) : (wrap64 (n.tmod 256 + 256)).tmod 256 = n % 256 := by
  have e : ∃ q : Int, -256 < q ∧ q < 256 ∧ n.tmod 256 = q ∧ (q + 256) % 256 = n % 256 := by
    rcases Int.le_total 0 n with h | h
    · exact ⟨n % 256, by omega, by omega, Int.tmod_eq_emod_of_nonneg h, by omega⟩
    · refine ⟨-((-n) % 256), by omega, by omega, ?_, by omega⟩
      have h2 : (-n).tmod 256 = (-n) % 256 := Int.tmod_eq_emod_of_nonneg (by omega)
      have h3 := Int.neg_tmod (-n) 256
      rw [Int.neg_neg, h2] at h3
      exact h3
  obtain ⟨q, a, b, hq, hm⟩ := e
  rw [hq]
  have w : wrap64 (q + 256) = q + 256 := by unfold wrap64; omega
  rw [w, Int.tmod_eq_emod_of_nonneg (by omega), hm]

def endsL : List (List UInt8) := [[100, 111, 110, 101], [99, 114, 97, 115, 104], [101, 120, 105, 116], [102, 117, 101, 108], [109, 101, 109, 111, 114, 121], [100, 101, 112, 116, 104], [111, 117, 116, 112, 117, 116], [119, 105, 108, 100]]
theorem ends_len : endsL.length = 8 := rfl
theorem ends_cut : cutG 32 (ByteArray.mk #[100, 111, 110, 101, 32, 99, 114, 97, 115, 104, 32, 101, 120, 105, 116, 32, 102, 117, 101, 108, 32, 109, 101, 109, 111, 114, 121, 32, 100, 101, 112, 116, 104, 32, 111, 117, 116, 112, 117, 116, 32, 119, 105, 108, 100]).data.toList [] = endsL := by decide +kernel
theorem cutAt_ends (w : World) : Calls Try.prog 100 #[.string ⟨#[100, 111, 110, 101, 32, 99, 114, 97, 115, 104, 32, 101, 120, 105, 116, 32, 102, 117, 101, 108, 32, 109, 101, 109, 111, 114, 121, 32, 100, 101, 112, 116, 104, 32, 111, 117, 116, 112, 117, 116, 32, 119, 105, 108, 100]⟩, .int .u8 32] w fun e w' => ∃ g c, e = .returned (.slice (some ⟨g, 0, none⟩) 8 c) ∧ Rd w' w'.heap.size 1 (some ⟨g, 0, none⟩) 8 (strs endsL) ∧ Below w.heap.size w w' := by
  have h := cutAt_any ⟨#[100, 111, 110, 101, 32, 99, 114, 97, 115, 104, 32, 101, 120, 105, 116, 32, 102, 117, 101, 108, 32, 109, 101, 109, 111, 114, 121, 32, 100, 101, 112, 116, 104, 32, 111, 117, 116, 112, 117, 116, 32, 119, 105, 108, 100]⟩ 32 32 rfl (by decide +kernel) w
  rw [ends_cut] at h
  refine h.mono ?_
  rintro e w' ⟨A, c, rfl, hown, hb⟩
  obtain ⟨g, cap, hv, _⟩ := hown.form (by decide)
  injection hv with hA _ hc
  subst hA hc
  exact ⟨g, _, rfl, Rd.of_own hown, hb⟩
/-- The word of end k + 1. -/
def endAt (k : Nat) : ByteArray := ⟨(endsL.getD k []).toArray⟩
theorem cell_end {w : World} {g : Nat} (hr : Rd w w.heap.size 1 (some ⟨g, 0, none⟩) 8 (strs endsL)) {k : Nat} (hk : k < 8) : w.cell? ⟨g, k, none⟩ = some (.string (endAt k)) := by
  obtain ⟨b, off, u, hA, _, hu, hc⟩ := hr.at1 hk
  have hu' := strs_get (by rw [ends_len]; omega) hu
  injection hA with hA
  injection hA with hA1 hA2
  subst hA1 hA2 hu'
  rw [Nat.zero_add] at hc
  exact hc
end Go.Proofs.Ytapofohbngkekaa
