/- Bits of 64-bit words, as numbers. Conditions: none. -/
import Derived.Test.YtgjhjojbaieeaaaDoorBase
import Derived.Test.YtgjhjojbaieeaaaDoorWds
import Derived.Laws.BitsAllLaws
import Derived.Laws.BitsLemmas
namespace Go.Proofs.YtgjhjojbaieeaaaDoor
open Go.RowKit
theorem wrapU (q : Int) (h0 : 0 ≤ q) (h : q < 18446744073709551616) : IntKind.u64.wrap q = q := by
  rw [IntKind.wrap_u64]; omega
theorem ofIntU (q : Nat) (h : q < 18446744073709551616) : (BitVec.ofInt 64 (q : Int)).toNat = q := by
  rw [BitVec.ofInt_natCast, BitVec.toNat_ofNat]; exact Nat.mod_eq_of_lt (by omega)
theorem orU (a b : Nat) (ha : a < 18446744073709551616) (hb : b < 18446744073709551616) (h : a ||| b < 18446744073709551616) : bits .or .u64 (a : Int) (b : Int) = ((a ||| b : Nat) : Int) := by
  show IntKind.u64.wrap ((BitVec.ofInt 64 (a : Int) ||| BitVec.ofInt 64 (b : Int)).toNat : Int) = _
  rw [BitVec.toNat_or, ofIntU a ha, ofIntU b hb, wrapU _ (by omega) (by omega)]
theorem or32 (R x : Nat) (hR : R < 4294967296) (hx : x < 4294967296) : bits .or .u64 ((R : Int) * 4294967296) (x : Int) = ((R * 4294967296 + x : Nat) : Int) := by
  have e : R * 4294967296 ||| x = R * 4294967296 + x := by
    rw [Nat.or_comm, or_add (s := 32) (by simpa using hx) ⟨R, by rw [Nat.mul_comm]⟩]
    omega
  have := orU (R * 4294967296) x (by omega) (by omega) (by rw [e]; omega)
  rw [e] at this
  rw [← this]
  congr 1
end Go.Proofs.YtgjhjojbaieeaaaDoor
