/- x. Conditions: none. -/
import Derived.Test.YtjegfimagjmpdaaGreatDoorBase
import Derived.Handy
import Derived.Laws.BitsAllLaws
import Derived.Laws.BytesArg
import Derived.Laws.BitsLemmas
set_option maxRecDepth 20000
namespace Go.Proofs.YtjegfimagjmpdaaGreatDoor
open Go.ChangeShapes Go.WideShapes Go.ChangeAt Go.RowKit
def nbz (u : Nat) : List Int := if h : u < 128 then [(u : Int)] else ((u % 128 + 128 : Nat) : Int) :: nbz (u / 128)
decreasing_by omega
theorem nb_lt {u : Nat} (h : u < 128) : nbz u = [(u : Int)] := by rw [nbz]; simp [h]
theorem nb_ge {u : Nat} (h : ¬ u < 128) : nbz u = ((u % 128 + 128 : Nat) : Int) :: nbz (u / 128) := by rw [nbz]; simp [h]
def zig (i : Int) : Nat := if i < 0 then (2 * (-(i + 1)) + 1).toNat else (2 * i).toNat
theorem zig_lt {i : Int} (hi : -9223372036854775808 ≤ i ∧ i ≤ 9223372036854775807) : zig i < 18446744073709551616 := by unfold zig; split <;> omega
theorem wrap64 (q : Int) (h0 : 0 ≤ q) (h : q < 18446744073709551616) : IntKind.u64.wrap q = q := by
  rw [IntKind.wrap_u64]; omega
theorem ofInt64 (q : Nat) (h : q < 18446744073709551616) : (BitVec.ofInt 64 (q : Int)).toNat = q := by
  rw [BitVec.ofInt_natCast, BitVec.toNat_ofNat]; exact Nat.mod_eq_of_lt (by omega)
theorem xor_max (q : Nat) (h : q < 18446744073709551616) : bits .xor .u64 IntKind.u64.max (q : Int) = 18446744073709551615 - (q : Int) := by
  show IntKind.u64.wrap ((BitVec.ofInt 64 IntKind.u64.max ^^^ BitVec.ofInt 64 (q : Int)).toNat : Int) = _
  have e : BitVec.ofInt 64 IntKind.u64.max = BitVec.allOnes 64 := by decide
  rw [e, BitVec.allOnes_xor, BitVec.toNat_not, ofInt64 q h, wrap64 _ (by omega) (by omega)]
  omega
theorem or128 : ∀ b : Nat, b < 128 → b ||| 128 = b + 128 := by decide
theorem and127 (q : Nat) (h : q < 18446744073709551616) : bits .and .u64 (q : Int) 127 = ((q % 128 : Nat) : Int) := by
  show IntKind.u64.wrap ((BitVec.ofInt 64 (q : Int) &&& BitVec.ofInt 64 ((127 : Nat) : Int)).toNat : Int) = _
  rw [BitVec.toNat_and, ofInt64 q h, ofInt64 127 (by omega), show (127 : Nat) = 2 ^ 7 - 1 from rfl, Nat.and_two_pow_sub_one_eq_mod, wrap64 _ (by omega) (by omega)]
theorem or128' (q : Nat) (h : q < 128) : bits .or .u64 (q : Int) 128 = ((q + 128 : Nat) : Int) := by
  show IntKind.u64.wrap ((BitVec.ofInt 64 (q : Int) ||| BitVec.ofInt 64 ((128 : Nat) : Int)).toNat : Int) = _
  rw [BitVec.toNat_or, ofInt64 q (by omega), ofInt64 128 (by omega), or128 q h, wrap64 _ (by omega) (by omega)]
theorem zig_neg {i : Int} (hi : -9223372036854775808 ≤ i ∧ i ≤ 9223372036854775807) (h : i < 0) : bits .xor .u64 IntKind.u64.max (IntKind.u64.wrap (IntKind.u64.wrap i * 2)) = (zig i : Int) := by
  have e : IntKind.u64.wrap (IntKind.u64.wrap i * 2) = ((18446744073709551616 + 2 * i).toNat : Int) := by
    rw [IntKind.wrap_u64, IntKind.wrap_u64]; omega
  rw [e, xor_max _ (by omega)]
  unfold zig; rw [if_pos h]; omega
theorem zig_pos {i : Int} (hi : -9223372036854775808 ≤ i ∧ i ≤ 9223372036854775807) (h : ¬ i < 0) : i * 2 = (zig i : Int) := by
  unfold zig; rw [if_neg h]; omega

theorem nb_len (k : Nat) : ∀ u : Nat, u < 128 ^ (k + 1) → (nbz u).length ≤ k + 1 := by
  induction k with
  | zero => intro u h; rw [nb_lt (by omega)]; simp
  | succ k ih =>
    intro u h
    by_cases h1 : u < 128
    · rw [nb_lt h1]; simp
    · rw [nb_ge h1]
      have := ih (u / 128) (by rw [Nat.div_lt_iff_lt_mul (by omega)]; rw [Nat.pow_succ] at h; exact h)
      simp; omega
theorem nb_len10 {u : Nat} (h : u < 18446744073709551616) : (nbz u).length ≤ 10 := nb_len 9 u (Nat.lt_trans h (by decide))
/-- What the loop keeps: the number still to write, the bytes written. -/
def Nr (B : Nat) (W : World) (n0 : Nat) (zs : List Value) (U : Nat) (u out : Value) (wr : World) : Prop :=
  ∃ (q : Nat) (A : Option Addr) (n c : Nat) (l : List Int), u = .int .u64 (q : Int) ∧ q ≤ U ∧ out = .slice A n c ∧ l ++ nbz q = nbz U ∧ n = n0 + l.length ∧ wr.ownsRow B 5 1 out n (zs ++ l.map (Value.int .u8)) ∧ Below B W wr
theorem Nr.start {W w0 w1 : World} {zs : List Value} {U n c1 : Nat} {A1 : Option Addr} {x : Value} {u : Int} (hu : u = (U : Int)) (hg0 : W.grownBy w0 none) (hown0 : w0.ownsRow W.heap.size 5 1 x 0 []) (hown : w1.ownsRow W.heap.size 5 1 (.slice A1 (0 + n) c1) (0 + n) ([] ++ zs)) (hg : w0.grownBy w1 x.ownBlock) :
    Nr W.heap.size W n zs U (.int .u64 u) (.slice A1 n c1) w1 := by
  rw [Nat.zero_add] at hown
  have hl := hown.1
  simp at hl
  refine ⟨U, A1, _, c1, [], by rw [hu], Nat.le_refl _, rfl, rfl, by simp, by simpa using hown, below_grown ((Below.refl _ _).grown hg0 (Nat.le_refl _) (by simp)) hg0.size hown0 (Nat.le_refl _) hg⟩
/-- What the document's loop keeps. -/
def Mr (B : Nat) (W : World) (U : Nat) (u out : Value) (wr : World) : Prop :=
  ∃ (q g c m : Nat) (l : List Int), u = .int .u64 ((q / 128 : Nat) : Int) ∧ q ≤ U ∧ m = l.length ∧ out = .slice (some ⟨g, 0, none⟩) (m + 1) c ∧ l ++ nbz q = nbz U ∧ wr.ownsRow B 5 1 out (m + 1) (l.map (Value.int .u8) ++ [.int .u8 ((q % 128 : Nat) : Int)]) ∧ Below B W wr
theorem Mr.start {W : World} {U : Nat} {x y : Int} (hx : x = ((U / 128 : Nat) : Int)) (hy : y = ((U % 128 : Nat) : Int)) : Mr W.heap.size W U (.int .u64 x) (.slice (some ⟨W.heap.size, 0, none⟩) 1 1) (W.alloc (.cells #[.int .u8 y] 5)) := by
  subst hx hy
  refine ⟨U, W.heap.size, 1, 0, [], rfl, Nat.le_refl _, rfl, rfl, rfl, ?_, al _⟩
  exact World.ownsRow_lit _ _ 1 (Nat.le_refl _) (by unfold maxLen; omega) rfl
theorem zig_n {i : Int} (hi : -9223372036854775808 ≤ i ∧ i ≤ 9223372036854775807) (h : i < 0) : (-(i + 1) * 2 + 1) / 128 = ((zig i / 128 : Nat) : Int) ∧ (-(i + 1) * 2 + 1) % 128 = ((zig i % 128 : Nat) : Int) := by
  unfold zig; rw [if_pos h]; omega
theorem zig_p {i : Int} (hi : -9223372036854775808 ≤ i ∧ i ≤ 9223372036854775807) (h : ¬ i < 0) : (i * 2) / 128 = ((zig i / 128 : Nat) : Int) ∧ (i * 2) % 128 = ((zig i % 128 : Nat) : Int) := by
  unfold zig; rw [if_neg h]; omega
end Go.Proofs.YtjegfimagjmpdaaGreatDoor
