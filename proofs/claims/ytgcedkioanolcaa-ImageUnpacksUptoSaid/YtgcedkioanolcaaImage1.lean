/- 'image.Sum' and the document's SumOf answer the same number of every list of bytes; so the law over them is true. Conditions: none. -/
import Derived.Test.YtgcedkioanolcaaBase
import Derived.Test.YtgcedkioanolcaaSumPlain
import Derived.Handy
import Derived.Laws.BitsAllLaws
import Derived.Laws.BitsLemmas
namespace Go.Proofs.Ytgcedkioanolcaa
open Go.ChangeShapes Go.WideShapes Go.ChangeAt Go.RowKit

def by_ (zs : List Int) (k : Nat) : Nat := (zs.getD k 0).toNat
theorem cellAt {w : World} {B n : Nat} {A : Option Addr} {zs : List Int} (h : Rd w B 1 A n (zs.map (Value.int .u8))) (hz : ∀ z ∈ zs, (Lit.int .u8 z).wf = true) {k : Nat} (hk : k < n) :
    ∃ b off, A = some ⟨b, off, none⟩ ∧ w.cell? ⟨b, off + k, none⟩ = some (.int .u8 (by_ zs k : Int)) ∧ by_ zs k < 256 := by
  obtain ⟨b, off, u, e, _, hu, hc⟩ := h.at1 hk
  rw [List.getElem?_map, Option.map_eq_some_iff] at hu
  obtain ⟨z, hz1, rfl⟩ := hu
  have hb : 0 ≤ z ∧ z ≤ 255 := by simpa [Lit.wf, IntKind.min, IntKind.max, IntKind.bits, IntKind.signed] using hz z (List.mem_of_getElem? hz1)
  have e1 : by_ zs k = z.toNat := by simp [by_, List.getD, hz1]
  refine ⟨b, off, e, ?_, by omega⟩
  rw [hc, e1]
  congr 2
  omega
theorem or_nat (a b : Nat) (ha : a < 9223372036854775808) (hb : b < 9223372036854775808) : bits .or .i64 (a : Int) (b : Int) = ((a ||| b : Nat) : Int) := by
  have hx : a ||| b < 2 ^ 63 := Nat.or_lt_two_pow (by omega) (by omega)
  have e : ∀ q : Nat, q < 9223372036854775808 → (BitVec.ofInt 64 (q : Int)).toNat = q := fun q hq => by
    rw [BitVec.ofInt_natCast, BitVec.toNat_ofNat]; exact Nat.mod_eq_of_lt (by omega)
  show IntKind.i64.wrap ((BitVec.ofInt 64 (a : Int) ||| BitVec.ofInt 64 (b : Int)).toNat : Int) = _
  rw [BitVec.toNat_or, e a ha, e b hb, IntKind.wrap_i64]
  omega
theorem sum_or (y x : Nat) (hy : y < 65521) (hx : x < 65521) : bits .or .i64 ((y : Int) * 65536) (x : Int) = (y : Int) * 65536 + (x : Int) := by
  have := or_nat (y * 65536) x (by omega) (by omega)
  rw [or_low y x (by omega)] at this
  simpa using this

set_option maxHeartbeats 400000 in
theorem imageSum_any (A : Option Addr) (n c : Nat) (zs : List Int) (w : World) (h : Rd w w.heap.size 1 A n (zs.map (Value.int .u8))) (hz : ∀ z ∈ zs, (Lit.int .u8 z).wf = true) (hn : n ≤ 140737488351232) :
    Calls Try.prog 58 #[.slice A n c] w fun e w' => e = .returned (.int .i64 ((yP (by_ zs) n : Int) * 65536 + (xOf (by_ zs) n : Int))) ∧ w' = w := by
  go_enter Try.func58, Try.ntmps58
  go_wp2
  go_loop [3, 4, 9] (fun x y i => ∃ k : Nat, k ≤ n ∧ i = .int .i64 k ∧ x = .int .i64 (xOf (by_ zs) k) ∧ y = .int .i64 (yP (by_ zs) k)) (fun _ _ i => n - (intOf i).toNat)
  case atStart => exact ⟨0, Nat.zero_le _, rfl, rfl, rfl⟩
  case round =>
    obtain ⟨k, hk, rfl, rfl, rfl⟩ := hrel
    have hx := xOf_lt (by_ zs) k
    have hy := yP_lt (by_ zs) k
    by_cases hlt : k < n
    · obtain ⟨b, off, rfl, hc, hb⟩ := cellAt h hz hlt
      have h1 := xOf_lt (by_ zs) (k + 1)
      have HX := Lib.hid (xOf_succ (by_ zs) k)
      have HY := Lib.hid (yP_succ (by_ zs) k)
      go_wp2
      go_round
      case rel => exact ⟨k + 1, by omega, by go_num, by rw [HX.out]; go_num, by rw [HY.out, HX.out]; go_num⟩
      case measure => simp [intOf]; omega
    · go_wp2
      go_ret
      have e : k = n := by omega
      subst e
      exact ⟨by rw [sum_or _ _ hy hx]; rfl, rfl⟩
set_option maxHeartbeats 400000 in
theorem refSumOf_any (A : Option Addr) (n c : Nat) (zs : List Int) (w : World) (h : Rd w w.heap.size 1 A n (zs.map (Value.int .u8))) (hz : ∀ z ∈ zs, (Lit.int .u8 z).wf = true) (hn : n ≤ 140737488351232) :
    Calls Try.prog 61 #[.slice A n c] w fun e w' => e = .returned (.int .i64 ((yP (by_ zs) n : Int) * 65536 + (xOf (by_ zs) n : Int))) ∧ w' = w := by
  go_enter Try.func61, Try.ntmps61
  go_wp2
  go_loop [3, 4, 12] (fun x y i => ∃ k : Nat, k ≤ n ∧ i = .int .i64 k ∧ x = .int .i64 (xOf (by_ zs) k) ∧ y = .int .i64 (yR (by_ zs) n k)) (fun _ _ i => n - (intOf i).toNat)
  case atStart => exact ⟨0, Nat.zero_le _, rfl, rfl, by simp [yR, sU]⟩
  case round =>
    obtain ⟨k, hk, rfl, rfl, rfl⟩ := hrel
    have hx := xOf_lt (by_ zs) k
    have hy := yR_lt (by_ zs) n k
    by_cases hlt : k < n
    · obtain ⟨b, off, rfl, hc, hb⟩ := cellAt h hz hlt
      have h1 := xOf_lt (by_ zs) (k + 1)
      have hp : ((n : Int) - (k : Int)) % 65521 * (by_ zs k : Int) ≤ 65520 * 255 := by
        have h2 : ((n : Int) - (k : Int)) % 65521 ≤ 65520 := by omega
        have h3 : 0 ≤ ((n : Int) - (k : Int)) % 65521 := by omega
        exact Int.mul_le_mul h2 (by omega) (by omega) (by omega)
      have hp0 : 0 ≤ ((n : Int) - (k : Int)) % 65521 * (by_ zs k : Int) := Int.mul_nonneg (by omega) (by omega)
      have HX := Lib.hid (xOf_succ (by_ zs) k)
      have HY := Lib.hid (yR_succ (by_ zs) n k)
      go_wp2
      go_round
      case rel =>
        refine ⟨k + 1, by omega, by go_num, by rw [HX.out]; go_num, ?_⟩
        rw [HY.out]
        have e : (((n - k : Nat) : Int)) = (n : Int) - (k : Int) := by omega
        simp [e]
      case measure => simp [intOf]; omega
    · go_wp2
      go_ret
      have e : k = n := by omega
      subst e
      exact ⟨by rw [y_full]; rfl, rfl⟩

end Go.Proofs.Ytgcedkioanolcaa
