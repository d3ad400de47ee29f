/- x. Conditions: none. -/
import Derived.Test.YtgcedkioanolcaaBase
import Derived.Handy
import Derived.Laws.BitsAllLaws
import Derived.Laws.BytesArg
import Derived.Laws.BitsLemmas
set_option maxRecDepth 20000
namespace Go.Proofs.Ytgcedkioanolcaa
open Go.ChangeShapes Go.WideShapes Go.ChangeAt Go.RowKit
def nbz (u : Nat) : List Int := if h : u < 128 then [(u : Int)] else ((u % 128 + 128 : Nat) : Int) :: nbz (u / 128)
decreasing_by omega
theorem nb_lt {u : Nat} (h : u < 128) : nbz u = [(u : Int)] := by rw [nbz]; simp [h]
theorem nb_ge {u : Nat} (h : ¬ u < 128) : nbz u = ((u % 128 + 128 : Nat) : Int) :: nbz (u / 128) := by rw [nbz]; simp [h]
def zig (i : Int) : Nat := if i < 0 then (2 * (-(i + 1)) + 1).toNat else (2 * i).toNat
theorem zig_lt {i : Int} (hi : -9223372036854775808 ≤ i ∧ i ≤ 9223372036854775807) : zig i < 18446744073709551616 := by unfold zig; split <;> omega
theorem wrap64 (q : Int) (h0 : 0 ≤ q) (h : q < 18446744073709551616) : IntKind.u64.wrap q = q := by
  rw [IntKind.wrap_u64]; omega
theorem ofInt64 (q : Nat) (h : q < 18446744073709551616) : (BitVec.ofInt 64 (q : Int)).toNat = q := by
  rw [BitVec.ofInt_natCast, BitVec.toNat_ofNat]; exact Nat.mod_eq_of_lt (by omega)
theorem xor_max (q : Nat) (h : q < 18446744073709551616) : bits .xor .u64 IntKind.u64.max (q : Int) = 18446744073709551615 - (q : Int) := by
  show IntKind.u64.wrap ((BitVec.ofInt 64 IntKind.u64.max ^^^ BitVec.ofInt 64 (q : Int)).toNat : Int) = _
  have e : BitVec.ofInt 64 IntKind.u64.max = BitVec.allOnes 64 := by decide
  rw [e, BitVec.allOnes_xor, BitVec.toNat_not, ofInt64 q h, wrap64 _ (by omega) (by omega)]
  omega
theorem or128 : ∀ b : Nat, b < 128 → b ||| 128 = b + 128 := by decide
theorem and127 (q : Nat) (h : q < 18446744073709551616) : bits .and .u64 (q : Int) 127 = ((q % 128 : Nat) : Int) := by
  show IntKind.u64.wrap ((BitVec.ofInt 64 (q : Int) &&& BitVec.ofInt 64 ((127 : Nat) : Int)).toNat : Int) = _
  rw [BitVec.toNat_and, ofInt64 q h, ofInt64 127 (by omega), show (127 : Nat) = 2 ^ 7 - 1 from rfl, Nat.and_two_pow_sub_one_eq_mod, wrap64 _ (by omega) (by omega)]
theorem or128' (q : Nat) (h : q < 128) : bits .or .u64 (q : Int) 128 = ((q + 128 : Nat) : Int) := by
  show IntKind.u64.wrap ((BitVec.ofInt 64 (q : Int) ||| BitVec.ofInt 64 ((128 : Nat) : Int)).toNat : Int) = _
  rw [BitVec.toNat_or, ofInt64 q (by omega), ofInt64 128 (by omega), or128 q h, wrap64 _ (by omega) (by omega)]
theorem zig_neg {i : Int} (hi : -9223372036854775808 ≤ i ∧ i ≤ 9223372036854775807) (h : i < 0) : bits .xor .u64 IntKind.u64.max (IntKind.u64.wrap (IntKind.u64.wrap i * 2)) = (zig i : Int) := by
  have e : IntKind.u64.wrap (IntKind.u64.wrap i * 2) = ((18446744073709551616 + 2 * i).toNat : Int) := by
    rw [IntKind.wrap_u64, IntKind.wrap_u64]; omega
  rw [e, xor_max _ (by omega)]
  unfold zig; rw [if_pos h]; omega
theorem zig_pos {i : Int} (hi : -9223372036854775808 ≤ i ∧ i ≤ 9223372036854775807) (h : ¬ i < 0) : i * 2 = (zig i : Int) := by
  unfold zig; rw [if_neg h]; omega

theorem nb_len (k : Nat) : ∀ u : Nat, u < 128 ^ (k + 1) → (nbz u).length ≤ k + 1 := by
  induction k with
  | zero => intro u h; rw [nb_lt (by omega)]; simp
  | succ k ih =>
    intro u h
    by_cases h1 : u < 128
    · rw [nb_lt h1]; simp
    · rw [nb_ge h1]
      have := ih (u / 128) (by rw [Nat.div_lt_iff_lt_mul (by omega)]; rw [Nat.pow_succ] at h; exact h)
      simp; omega
theorem nb_len10 {u : Nat} (h : u < 18446744073709551616) : (nbz u).length ≤ 10 := nb_len 9 u (Nat.lt_trans h (by decide))
/-- What the loop keeps: the number still to write, the bytes written. -/
def Nr (B : Nat) (W : World) (n0 : Nat) (zs : List Value) (U : Nat) (u out : Value) (wr : World) : Prop :=
  ∃ (q : Nat) (A : Option Addr) (n c : Nat) (l : List Int), u = .int .u64 (q : Int) ∧ q ≤ U ∧ out = .slice A n c ∧ l ++ nbz q = nbz U ∧ n = n0 + l.length ∧ wr.ownsRow B 5 1 out n (zs ++ l.map (Value.int .u8)) ∧ Below B W wr
theorem Nr.start {W w0 w1 : World} {zs : List Value} {U n c1 : Nat} {A1 : Option Addr} {x : Value} {u : Int} (hu : u = (U : Int)) (hg0 : W.grownBy w0 none) (hown0 : w0.ownsRow W.heap.size 5 1 x 0 []) (hown : w1.ownsRow W.heap.size 5 1 (.slice A1 (0 + n) c1) (0 + n) ([] ++ zs)) (hg : w0.grownBy w1 x.ownBlock) :
    Nr W.heap.size W n zs U (.int .u64 u) (.slice A1 n c1) w1 := by
  rw [Nat.zero_add] at hown
  have hl := hown.1
  simp at hl
  refine ⟨U, A1, _, c1, [], by rw [hu], Nat.le_refl _, rfl, rfl, by simp, by simpa using hown, below_grown ((Below.refl _ _).grown hg0 (Nat.le_refl _) (by simp)) hg0.size hown0 (Nat.le_refl _) hg⟩
/-- What the document's loop keeps. -/
def Mr (B : Nat) (W : World) (U : Nat) (u out : Value) (wr : World) : Prop :=
  ∃ (q g c m : Nat) (l : List Int), u = .int .u64 ((q / 128 : Nat) : Int) ∧ q ≤ U ∧ m = l.length ∧ out = .slice (some ⟨g, 0, none⟩) (m + 1) c ∧ l ++ nbz q = nbz U ∧ wr.ownsRow B 5 1 out (m + 1) (l.map (Value.int .u8) ++ [.int .u8 ((q % 128 : Nat) : Int)]) ∧ Below B W wr
theorem Mr.start {W : World} {U : Nat} {x y : Int} (hx : x = ((U / 128 : Nat) : Int)) (hy : y = ((U % 128 : Nat) : Int)) : Mr W.heap.size W U (.int .u64 x) (.slice (some ⟨W.heap.size, 0, none⟩) 1 1) (W.alloc (.cells #[.int .u8 y] 5)) := by
  subst hx hy
  refine ⟨U, W.heap.size, 1, 0, [], rfl, Nat.le_refl _, rfl, rfl, rfl, ?_, al _⟩
  exact World.ownsRow_lit _ _ 1 (Nat.le_refl _) (by unfold maxLen; omega) rfl
theorem zig_n {i : Int} (hi : -9223372036854775808 ≤ i ∧ i ≤ 9223372036854775807) (h : i < 0) : (-(i + 1) * 2 + 1) / 128 = ((zig i / 128 : Nat) : Int) ∧ (-(i + 1) * 2 + 1) % 128 = ((zig i % 128 : Nat) : Int) := by
  unfold zig; rw [if_pos h]; omega
theorem zig_p {i : Int} (hi : -9223372036854775808 ≤ i ∧ i ≤ 9223372036854775807) (h : ¬ i < 0) : (i * 2) / 128 = ((zig i / 128 : Nat) : Int) ∧ (i * 2) % 128 = ((zig i % 128 : Nat) : Int) := by
  unfold zig; rw [if_neg h]; omega
theorem refNumberBytes_any (i : Int) (hi : -9223372036854775808 ≤ i ∧ i ≤ 9223372036854775807) (w : World) : Calls Try.prog 96 #[.int .i64 i] w fun e w' => ∃ A' n' c', e = .returned (.slice A' n' c') ∧ w'.ownsRow w.heap.size 5 1 (.slice A' n' c') n' ((nbz (zig i)).map (Value.int .u8)) ∧ Below w.heap.size w w' := by
  obtain ⟨i0, hi0, hz0, hz1, hz2⟩ := info_parts info_u8
  have hU := zig_lt hi
  have h10 := nb_len10 hU
  have hq := Lib.hid (And.intro (zig_n hi) (zig_p hi))
  go_enter Try.func96, Try.ntmps96
  by_cases hneg : i < 0 <;>
  (go_wp2
   go_loopw [3, 4] (fun u out wr => Mr w.heap.size w (zig i) u out wr) (fun u _ _ => (intOf u).toNat)
   case atStart => exact Mr.start (by first | exact (hq.out.1 hneg).1 | exact (hq.out.2 hneg).1 | trace_state) (by first | exact (hq.out.1 hneg).2 | exact (hq.out.2 hneg).2 | trace_state)
   case round =>
    obtain ⟨q, g, c, m, l, rfl, hqU, hm, rfl, hl, hown, hbel⟩ := hrel
    have hq64 : q < 18446744073709551616 := by omega
    have hll : l.length + (nbz q).length = (nbz (zig i)).length := by rw [← hl]; simp
    clear hq
    by_cases hlt : q < 128
    · have hl1 := hl
      rw [nb_lt hlt] at hll hl1
      have h0 : q / 128 = 0 := by omega
      rw [h0]
      go_wp2
      go_ret
      refine ⟨_, _, _, rfl, ?_, hbel⟩
      rw [← hl1]
      rw [Nat.mod_eq_of_lt hlt] at hown
      simpa using hown
    · have hl1 := hl
      rw [nb_ge hlt] at hll hl1
      simp at hll
      have h0 : 0 < q / 128 := by omega
      have hg := (hown.lt g rfl)
      have hcell := hown.cellAt m (by omega)
      have hfz := hown.frozenAt m
      rw [List.getElem?_append_right (by simp [hm]), show m - (l.map (Value.int .u8)).length = 0 by simp [hm]] at hcell
      simp only [List.getElem?_cons_zero] at hcell
      have HM := Lib.hid hm
      rw [← hm] at hll
      clear hm
      have hst := hown.stored m (.int .u8 ((q : Int) % 128 + 128))
      go_wp2_with (at_builtin; refine wpList_append_rd _ rfl _ _ 68 rfl w.heap.size 5 i0 _ 1 1 Try.underlying68 hi0 hz0 hz1 hz2 rfl (by omega) _ _ _ rfl (hst.1.alloc _) _ _ 1 1 [_] rfl (Rd.lit1' _ _ _ _ (by simp)) (one1 rfl) (by unfold maxLen; omega) (by omega) (Nat.le_trans hbel.size (by simp)) ?_; intro A3 c3 w3 hown3 hgrow3 _)
      go_roundw
      case rel =>
        have e : (l.map (Value.int .u8) ++ [Value.int .u8 ((q % 128 : Nat) : Int)]).set m (Value.int .u8 ((q : Int) % 128 + 128)) = (l ++ [((q % 128 + 128 : Nat) : Int)]).map (Value.int .u8) := by
          rw [HM.out, List.set_append_right _ _ (by simp)]
          simp
        rw [e] at hown3
        obtain ⟨g3, cp, hv3, _, _⟩ := hown3.form (by omega)
        injection hv3 with hv1 _ _
        subst hv1
        have hb1 := hbel.grown hst.2 hbel.size (fun k hk => by injection hk with hk; omega)
        exact ⟨q / 128, g3, c3, m + 1, l ++ [((q % 128 + 128 : Nat) : Int)], by go_num, by omega, by simp [HM.out], rfl, by simpa using hl1, hown3, below_grown (hb1.alloc hb1.size _) (Nat.le_trans hbel.size (by simp)) (hst.1.alloc _) (Nat.le_refl _) hgrow3⟩
      case measure => simp [intOf]; omega)

end Go.Proofs.Ytgcedkioanolcaa
