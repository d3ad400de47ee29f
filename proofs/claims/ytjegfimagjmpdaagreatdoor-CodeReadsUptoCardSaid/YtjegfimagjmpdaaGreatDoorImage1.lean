/- 'image.Sum' and the document's SumOf answer the same number of every list of bytes; so the law over them is true. Conditions: none. -/
import Derived.Test.YtjegfimagjmpdaaGreatDoorBase
import Derived.Test.YtjegfimagjmpdaaGreatDoorSumPlain
import Derived.Handy
import Derived.Laws.BitsAllLaws
import Derived.Laws.BitsLemmas
namespace Go.Proofs.YtjegfimagjmpdaaGreatDoor
open Go.ChangeShapes Go.WideShapes Go.ChangeAt Go.RowKit

def by_ (zs : List Int) (k : Nat) : Nat := (zs.getD k 0).toNat
theorem cellAt {w : World} {B n : Nat} {A : Option Addr} {zs : List Int} (h : Rd w B 1 A n (zs.map (Value.int .u8))) (hz : ∀ z ∈ zs, (Lit.int .u8 z).wf = true) {k : Nat} (hk : k < n) :
    ∃ b off, A = some ⟨b, off, none⟩ ∧ w.cell? ⟨b, off + k, none⟩ = some (.int .u8 (by_ zs k : Int)) ∧ by_ zs k < 256 := by
  obtain ⟨b, off, u, e, _, hu, hc⟩ := h.at1 hk
  rw [List.getElem?_map, Option.map_eq_some_iff] at hu
  obtain ⟨z, hz1, rfl⟩ := hu
  have hb : 0 ≤ z ∧ z ≤ 255 := by simpa [Lit.wf, IntKind.min, IntKind.max, IntKind.bits, IntKind.signed] using hz z (List.mem_of_getElem? hz1)
  have e1 : by_ zs k = z.toNat := by simp [by_, List.getD, hz1]
  refine ⟨b, off, e, ?_, by omega⟩
  rw [hc, e1]
  congr 2
  omega
theorem or_nat (a b : Nat) (ha : a < 9223372036854775808) (hb : b < 9223372036854775808) : bits .or .i64 (a : Int) (b : Int) = ((a ||| b : Nat) : Int) := by
  have hx : a ||| b < 2 ^ 63 := Nat.or_lt_two_pow (by omega) (by omega)
  have e : ∀ q : Nat, q < 9223372036854775808 → (BitVec.ofInt 64 (q : Int)).toNat = q := fun q hq => by
    rw [BitVec.ofInt_natCast, BitVec.toNat_ofNat]; exact Nat.mod_eq_of_lt (by omega)
  show IntKind.i64.wrap ((BitVec.ofInt 64 (a : Int) ||| BitVec.ofInt 64 (b : Int)).toNat : Int) = _
  rw [BitVec.toNat_or, e a ha, e b hb, IntKind.wrap_i64]
  omega
theorem sum_or (y x : Nat) (hy : y < 65521) (hx : x < 65521) : bits .or .i64 ((y : Int) * 65536) (x : Int) = (y : Int) * 65536 + (x : Int) := by
  have := or_nat (y * 65536) x (by omega) (by omega)
  rw [or_low y x (by omega)] at this
  simpa using this

end Go.Proofs.YtjegfimagjmpdaaGreatDoor
