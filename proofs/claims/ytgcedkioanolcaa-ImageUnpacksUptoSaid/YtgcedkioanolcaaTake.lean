/- 'image.Take' and the document's TakeNumber answer alike; so the law over them is true. Conditions: none. -/
import Derived.Test.YtgcedkioanolcaaImage2
import Derived.Test.YtgcedkioanolcaaImage1
import Derived.Deep.QuietTactic
import Derived.BigQuiet
set_option maxRecDepth 20000
namespace Go.Proofs.Ytgcedkioanolcaa
open Go.ChangeShapes Go.WideShapes Go.ChangeAt Go.RowKit
theorem wrap64' (q : Int) (h0 : 0 ≤ q) (h : q < 18446744073709551616) : IntKind.u64.wrap q = q := by
  rw [IntKind.wrap_u64]; omega
/-- The number that m digits from i on say, the lowest first. -/
def hval (f : Nat → Nat) : Nat → Nat → Nat
  | _, 0 => 0
  | i, m + 1 => hval f (i + 1) m * 128 + f i % 128
theorem hval_snoc (f : Nat → Nat) (m : Nat) : ∀ i, hval f i (m + 1) = hval f i m + f (i + m) % 128 * 128 ^ m := by
  induction m with
  | zero => intro i; simp [hval]
  | succ m ih =>
    intro i
    rw [hval, ih (i + 1), hval, Nat.pow_succ, Nat.add_mul, show i + 1 + m = i + (m + 1) by omega]
    have : f (i + (m + 1)) % 128 * 128 ^ m * 128 = f (i + (m + 1)) % 128 * (128 ^ m * 128) := by rw [Nat.mul_assoc]
    omega
theorem hval_lt (f : Nat → Nat) (m : Nat) : ∀ i, hval f i m < 128 ^ m := by
  induction m with
  | zero => intro i; simp [hval]
  | succ m ih =>
    intro i
    have := ih (i + 1)
    rw [hval, Nat.pow_succ]
    have h2 : f i % 128 < 128 := Nat.mod_lt _ (by omega)
    omega
def dig (f : Nat → Nat) (i m : Nat) : List Int := (List.range m).map fun j => ((f (i + j) : Nat) : Int)
theorem dig_succ (f : Nat → Nat) (i m : Nat) : dig f i (m + 1) = (f i : Int) :: dig f (i + 1) m := by
  unfold dig
  rw [List.range_succ_eq_map, List.map_cons, List.map_map]
  congr 1
  apply List.map_congr_left
  intro j _
  simp only [Function.comp]
  congr 2; omega
/-- The number's own bytes are its digits. -/
theorem nb_dig (f : Nat → Nat) (m : Nat) : ∀ i, (∀ j, j < m → 128 ≤ f (i + j) ∧ f (i + j) < 256) → f (i + m) < 128 → (0 < m → f (i + m) ≠ 0) → nbz (hval f i (m + 1)) = dig f i (m + 1) ∧ (0 < m ∨ 0 < f i → 0 < hval f i (m + 1)) := by
  induction m with
  | zero =>
    intro i _ h1 _
    simp only [Nat.add_zero] at h1
    have e : hval f i 1 = f i := by simp [hval, Nat.mod_eq_of_lt h1]
    rw [e, nb_lt h1]
    exact ⟨by simp [dig], by omega⟩
  | succ m ih =>
    intro i h0 h1 h2
    have h3 := ih (i + 1) (fun j hj => by have := h0 (j + 1) (by omega); rwa [show i + (j + 1) = i + 1 + j by omega] at this) (by rwa [show i + 1 + m = i + (m + 1) by omega]) (fun _ => by rw [show i + 1 + m = i + (m + 1) by omega]; exact h2 (by omega))
    have h4 := h0 0 (by omega)
    simp only [Nat.add_zero] at h4
    have hp : 0 < hval f (i + 1) (m + 1) := h3.2 (by
      rcases Nat.eq_zero_or_pos m with rfl | hm
      · have := h2 (by omega); simp only [Nat.zero_add] at this; exact .inr (by omega)
      · exact .inl hm)
    have e : hval f i (m + 1 + 1) = hval f (i + 1) (m + 1) * 128 + f i % 128 := rfl
    rw [e]
    refine ⟨?_, by omega⟩
    rw [nb_ge (by omega), dig_succ, show (hval f (i + 1) (m + 1) * 128 + f i % 128) / 128 = hval f (i + 1) (m + 1) by omega, h3.1, show (hval f (i + 1) (m + 1) * 128 + f i % 128) % 128 + 128 = f i by omega]
theorem nb_pos (u : Nat) : 0 < (nbz u).length := by
  by_cases h : u < 128
  · rw [nb_lt h]; simp
  · rw [nb_ge h]; simp
theorem nb_last (t : Nat) : ∀ u, (nbz u).length = t + 1 → (nbz u)[t]? = some ((u / 128 ^ t : Nat) : Int) ∧ (0 < t → 0 < u / 128 ^ t) := by
  induction t with
  | zero =>
    intro u h
    by_cases hu : u < 128
    · rw [nb_lt hu]; simp
    · rw [nb_ge hu] at h; have := nb_pos (u / 128); simp at h; simp [h] at this
  | succ t ih =>
    intro u h
    by_cases hu : u < 128
    · rw [nb_lt hu] at h; simp at h
    · rw [nb_ge hu] at h ⊢
      simp at h
      have := ih (u / 128) h
      rw [Nat.div_div_eq_div_mul, show 128 * 128 ^ t = 128 ^ (t + 1) by rw [Nat.pow_succ, Nat.mul_comm]] at this
      refine ⟨by simpa using this.1, fun _ => ?_⟩
      rcases Nat.eq_zero_or_pos t with rfl | ht
      · simp; omega
      · exact this.2 ht
/-- The bytes begin with a number that ends at t. -/
def Good (f : Nat → Nat) (n t : Nat) : Prop := t < n ∧ t < 10 ∧ (∀ j, j < t → 128 ≤ f j) ∧ f t < 128 ∧ (t = 9 → f t ≤ 1) ∧ (0 < t → f t ≠ 0)
def unzig (u : Nat) : Int := if u % 2 = 1 then -((u / 2 : Nat) : Int) - 1 else ((u / 2 : Nat) : Int)
def TakeIs (f : Nat → Nat) (n : Nat) (x y e : Int) : Prop := (∃ t, Good f n t ∧ x = unzig (hval f 0 (t + 1)) ∧ y = ((t + 1 : Nat) : Int) ∧ e = 0) ∨ ((∀ t, ¬ Good f n t) ∧ x = 0 ∧ y = 0 ∧ e = 6)
theorem Good.uniq {f : Nat → Nat} {n t s : Nat} (h : Good f n t) (k : Good f n s) : t = s := by
  obtain ⟨_, _, h1, h2, _⟩ := h
  obtain ⟨_, _, k1, k2, _⟩ := k
  rcases Nat.lt_trichotomy t s with hl | he | hl
  · have := k1 t hl; omega
  · exact he
  · have := h1 s hl; omega
theorem TakeIs.uniq {f : Nat → Nat} {n : Nat} {x y e x' y' e' : Int} (h : TakeIs f n x y e) (k : TakeIs f n x' y' e') : x = x' ∧ y = y' ∧ e = e' := by
  rcases h with ⟨t, h, rfl, rfl, rfl⟩ | ⟨h, rfl, rfl, rfl⟩ <;> rcases k with ⟨s, k, rfl, rfl, rfl⟩ | ⟨k, rfl, rfl, rfl⟩
  · obtain rfl := h.uniq k; simp
  · exact absurd h (k t)
  · exact absurd k (h s)
  · simp
theorem Good.lt {f : Nat → Nat} {n t : Nat} (h : Good f n t) : hval f 0 (t + 1) < 18446744073709551616 := by
  obtain ⟨_, ht, _, h1, h2, _⟩ := h
  rw [hval_snoc]
  have := hval_lt f t 0
  simp only [Nat.zero_add] at *
  have hm : f t % 128 = f t := Nat.mod_eq_of_lt h1
  rw [hm]
  rcases Nat.lt_or_ge t 9 with h9 | h9
  · have e : 128 ^ t ≤ 128 ^ 8 := Nat.pow_le_pow_right (by omega) (by omega)
    have e2 : f t * 128 ^ t ≤ 127 * 128 ^ 8 := Nat.mul_le_mul (by omega) e
    have e3 : 128 ^ 8 = 72057594037927936 := by decide
    omega
  · have : t = 9 := by omega
    subst this
    have h3 := h2 rfl
    have e3 : 128 ^ 9 = 9223372036854775808 := by decide
    rw [e3] at *
    have : f 9 * 9223372036854775808 ≤ 1 * 9223372036854775808 := Nat.mul_le_mul_right _ h3
    omega
theorem zig_unzig (u : Nat) : zig (unzig u) = u := by
  unfold zig unzig
  split <;> split <;> omega
/-- The document's test: the bytes are those of the number. -/
theorem good_iff {f : Nat → Nat} {n t : Nat} (hb : ∀ j, f j < 256) (h0 : t < n) (h1 : t < 10) (h2 : ∀ j, j < t → 128 ≤ f j) (h3 : f t < 128) :
    (nbz (hval f 0 (t + 1) % 18446744073709551616) = dig f 0 (t + 1)) ↔ Good f n t := by
  constructor
  · intro h
    have hl : (nbz (hval f 0 (t + 1) % 18446744073709551616)).length = t + 1 := by rw [h]; simp [dig]
    have := nb_last t _ hl
    rw [h] at this
    have e : (dig f 0 (t + 1))[t]? = some (f t : Int) := by simp [dig]
    rw [e] at this
    have e2 : f t = hval f 0 (t + 1) % 18446744073709551616 / 128 ^ t := by
      have := this.1; simp only [Option.some.injEq] at this; exact_mod_cast this
    refine ⟨h0, h1, h2, h3, fun h9 => ?_, fun hp => ?_⟩
    · subst h9
      rw [e2]
      have e3 : 128 ^ 9 = 9223372036854775808 := by decide
      rw [e3]
      have : hval f 0 (9 + 1) % 18446744073709551616 < 18446744073709551616 := Nat.mod_lt _ (by omega)
      omega
    · have := this.2 hp; omega
  · intro h
    rw [Nat.mod_eq_of_lt h.lt]
    obtain ⟨_, _, k2, k3, _, k5⟩ := h
    exact (nb_dig f t 0 (fun j hj => by simp only [Nat.zero_add]; exact ⟨k2 j hj, hb j⟩) (by simpa using k3) (by simpa using k5)).1
theorem no_good_hi {f : Nat → Nat} {n : Nat} (hj : ∀ j, j < 9 → 128 ≤ f j) (h : 1 < f 9) : ∀ t, ¬ Good f n t := fun t hg => by
  obtain ⟨_, g1, g2, g3, g4, g5⟩ := hg
  rcases Nat.lt_trichotomy t 9 with h | h | h
  · have := hj t h; omega
  · subst h; have := g4 rfl; omega
  · omega
theorem no_good_zero {f : Nat → Nat} {n k : Nat} (hj : ∀ j, j < k → 128 ≤ f j) (hk : 0 < k) (h : f k = 0) : ∀ t, ¬ Good f n t := fun t hg => by
  obtain ⟨_, g1, g2, g3, g4, g5⟩ := hg
  rcases Nat.lt_trichotomy t k with h | h | h
  · have := hj t h; omega
  · subst h; have := g5 hk; omega
  · have := g2 k h; omega
theorem no_good_end {f : Nat → Nat} {n k : Nat} (hj : ∀ j, j < k → 128 ≤ f j) (hk : n ≤ k ∨ 10 ≤ k) : ∀ t, ¬ Good f n t := fun t hg => by
  obtain ⟨g0, g1, g2, g3, g4, g5⟩ := hg
  rcases Nat.lt_or_ge t k with h | h
  · have := hj t h; omega
  · omega
theorem or_step {f : Nat → Nat} {k : Nat} (hk : k < 9 ∨ (k = 9 ∧ f k ≤ 1)) (hf : f k < 256) :
    bits .or .u64 (hval f 0 k : Int) (IntKind.u64.wrap (bits .and .u64 (f k : Int) 127 * 2 ^ (7 * k))) = (hval f 0 (k + 1) : Int) := by
  rw [and127 _ (by omega), hval_snoc, Nat.zero_add]
  have e : (((f k % 128 : Nat)) : Int) * 2 ^ (7 * k) = ((f k % 128 * 128 ^ k : Nat) : Int) := by
    rw [Int.natCast_mul, Int.natCast_pow, Int.pow_mul]; rfl
  have hl := hval_lt f k 0
  have hb : hval f 0 k + f k % 128 * 128 ^ k < 18446744073709551616 := by
    rcases hk with hk | ⟨rfl, h1⟩
    · have e1 : 128 ^ k ≤ 128 ^ 8 := Nat.pow_le_pow_right (by omega) (by omega)
      have e2 : f k % 128 * 128 ^ k ≤ 127 * 128 ^ 8 := Nat.mul_le_mul (by omega) e1
      have e3 : 128 ^ 8 = 72057594037927936 := by decide
      omega
    · have e3 : 128 ^ 9 = 9223372036854775808 := by decide
      rw [e3] at *
      have : f 9 % 128 * 9223372036854775808 ≤ 1 * 9223372036854775808 := Nat.mul_le_mul_right _ (by omega)
      omega
  rw [e, wrap64' _ (by omega) (by omega)]
  show IntKind.u64.wrap ((BitVec.ofInt 64 ((hval f 0 k : Nat) : Int) ||| BitVec.ofInt 64 ((f k % 128 * 128 ^ k : Nat) : Int)).toNat : Int) = _
  rw [BitVec.toNat_or, ofInt64 _ (by omega), ofInt64 _ (by omega), Nat.or_comm]
  have e5 : f k % 128 * 128 ^ k = 2 ^ (7 * k) * (f k % 128) := by rw [Nat.pow_mul, Nat.mul_comm]
  have e6 : hval f 0 k < 2 ^ (7 * k) := by rw [Nat.pow_mul]; exact hl
  rw [e5, ← Nat.two_pow_add_eq_or_of_lt e6, ← e5, wrap64' _ (by omega) (by omega)]
  omega
theorem and1 (q : Nat) (h : q < 18446744073709551616) : bits .and .u64 (q : Int) 1 = ((q % 2 : Nat) : Int) := by
  show IntKind.u64.wrap ((BitVec.ofInt 64 (q : Int) &&& BitVec.ofInt 64 ((1 : Nat) : Int)).toNat : Int) = _
  rw [BitVec.toNat_and, ofInt64 q h, ofInt64 1 (by omega), show (1 : Nat) = 2 ^ 1 - 1 from rfl, Nat.and_two_pow_sub_one_eq_mod, wrap64' _ (by omega) (by omega)]
theorem not_i64 (q : Nat) (h : q < 9223372036854775808) : bits .xor .i64 (-1) (q : Int) = -(q : Int) - 1 := by
  show IntKind.i64.wrap ((BitVec.ofInt 64 (-1) ^^^ BitVec.ofInt 64 (q : Int)).toNat : Int) = _
  have e : BitVec.ofInt 64 (-1) = BitVec.allOnes 64 := by decide
  rw [e, BitVec.allOnes_xor, BitVec.toNat_not, ofInt64 q (by omega), IntKind.wrap_i64]
  omega
theorem half {e : Int} {q : Nat} (he : e = (q : Int)) (hq : q < 18446744073709551616) : RowKit.wrap64 (e / 2) = ((q / 2 : Nat) : Int) := by
  subst he; unfold RowKit.wrap64; omega
theorem take_odd {e : Int} {q : Nat} (he : e = (q : Int)) (hq : q < 18446744073709551616) (h : (bits .and .u64 e 1 == 1) = true) : bits .xor .i64 (-1) (RowKit.wrap64 (e / 2)) = unzig q := by
  rw [half he hq, not_i64 _ (by omega)]
  subst he
  rw [and1 q hq] at h
  simp at h
  unfold unzig; rw [if_pos (by omega)]
theorem take_even {e : Int} {q : Nat} (he : e = (q : Int)) (hq : q < 18446744073709551616) (h : (bits .and .u64 e 1 == 1) = false) : RowKit.wrap64 (e / 2) = unzig q := by
  rw [half he hq]
  subst he
  rw [and1 q hq] at h
  simp at h
  unfold unzig; rw [if_neg (by omega)]
theorem imageTake_any (A : Option Addr) (n c : Nat) (zs : List Int) (w : World) (h : Rd w w.heap.size 1 A n (zs.map (Value.int .u8))) (hz : ∀ z ∈ zs, (Lit.int .u8 z).wf = true) (hn : n ≤ 140737488351232) :
    Calls Try.prog 120 #[.slice A n c] w fun e w' => (∃ x y z, e = .returned (.tuple #[.int .i64 x, .int .i64 y, .int .i64 z]) ∧ TakeIs (by_ zs) n x y z) ∧ w' = w := by
  go_enter Try.func120, Try.ntmps120
  go_wp2
  go_loop [5, 6] (fun u i => ∃ k : Nat, k ≤ n ∧ k ≤ 10 ∧ i = .int .i64 k ∧ u = .int .u64 (hval (by_ zs) 0 k) ∧ ∀ j, j < k → 128 ≤ by_ zs j) (fun _ i => n - (intOf i).toNat)
  case atStart => exact ⟨0, by omega, by omega, rfl, rfl, fun j hj => by omega⟩
  case round =>
    obtain ⟨k, hk, hk2, rfl, rfl, hj⟩ := hrel
    have HJ := Lib.hid hj
    clear hj
    by_cases hlt : k < n ∧ k < 10
    · obtain ⟨hlt, h10⟩ := hlt
      obtain ⟨b, off, rfl, hc, hb⟩ := cellAt h hz hlt
      by_cases h9 : k = 9
      · subst h9
        by_cases hbad : 1 < by_ zs 9
        · have HN := Lib.hid (no_good_hi (n := n) HJ.out hbad)
          go_wp2
          go_returns
          exact ⟨⟨_, _, _, rfl, .inr ⟨HN.out, rfl, rfl, rfl⟩⟩, rfl⟩
        · by_cases h0 : by_ zs 9 = 0
          · have HN := Lib.hid (no_good_zero (n := n) HJ.out (by omega) h0)
            go_wp2
            go_returns
            exact ⟨⟨_, _, _, rfl, .inr ⟨HN.out, rfl, rfl, rfl⟩⟩, rfl⟩
          · have h1 : by_ zs 9 = 1 := by omega
            have HG := Lib.hid (show Good (by_ zs) n 9 from ⟨hlt, h10, HJ.out, by omega, fun _ => by omega, fun _ => h0⟩)
            have HO := Lib.hid (show bits .or .u64 (hval (by_ zs) 0 9 : Int) (IntKind.u64.wrap (bits .and .u64 1 127 * 9223372036854775808)) = (hval (by_ zs) 0 (9 + 1) : Int) from by
              have := or_step (f := by_ zs) (k := 9) (.inr ⟨rfl, by omega⟩) hb
              rw [h1] at this
              exact this)
            clear hbad h0
            go_wp2
            all_goals
              go_returns
              refine ⟨⟨_, _, _, rfl, .inl ⟨9, HG.out, ?_, rfl, rfl⟩⟩, rfl⟩
              first
              | exact take_odd HO.out HG.out.lt (by assumption)
              | exact take_even HO.out HG.out.lt (by assumption)
      · by_cases hz0 : 0 < k ∧ by_ zs k = 0
        · obtain ⟨hk0, h0⟩ := hz0
          have HN := Lib.hid (no_good_zero (n := n) HJ.out hk0 h0)
          go_wp2
          go_returns
          exact ⟨⟨_, _, _, rfl, .inr ⟨HN.out, rfl, rfl, rfl⟩⟩, rfl⟩
        · have HO := Lib.hid (or_step (f := by_ zs) (k := k) (.inl (by omega)) hb)
          by_cases h128 : by_ zs k < 128
          · have HG := Lib.hid (show Good (by_ zs) n k from ⟨hlt, h10, HJ.out, h128, fun _ => by omega, fun _ => by omega⟩)
            go_wp2
            all_goals
              go_returns
              refine ⟨⟨_, _, _, rfl, .inl ⟨k, HG.out, ?_, rfl, rfl⟩⟩, rfl⟩
              first
              | exact take_odd HO.out HG.out.lt (by assumption)
              | exact take_even HO.out HG.out.lt (by assumption)
          · have HJ' := Lib.hid (show ∀ j, j < k + 1 → 128 ≤ by_ zs j from fun j hj => by
              rcases Nat.lt_or_ge j k with h | h
              · exact HJ.out j h
              · obtain rfl : j = k := by omega
                omega)
            go_wp2
            all_goals
              go_round
              case rel => exact ⟨k + 1, by omega, by omega, by go_num, by rw [HO.out], HJ'.out⟩
              case measure => simp [intOf]; omega
    · have HN := Lib.hid (no_good_end (n := n) HJ.out (by omega))
      go_wp2
      all_goals
        go_returns
        exact ⟨⟨_, _, _, rfl, .inr ⟨HN.out, rfl, rfl, rfl⟩⟩, rfl⟩
theorem Rd.takes {w : World} {B n m : Nat} {A : Option Addr} {xs : List Value} (h : Rd w B 1 A n xs) (hm : m ≤ n) : Rd w B 1 A m (xs.take m) := by
  refine ⟨by have := h.1; simp; omega, fun h0 => ?_⟩
  obtain ⟨b, off, e, hb, hc⟩ := h.2 (by omega)
  refine ⟨b, off, e, hb, fun j u hu => hc j u ?_⟩
  rw [List.getElem?_take] at hu
  split at hu
  · exact hu
  · cases hu
theorem half2 (U : Nat) (h : U < 18446744073709551616) : RowKit.wrap64 ((U : Int) / 2) = ((U / 2 : Nat) : Int) := half rfl h
theorem zig_odd {U : Nat} (h : U % 2 = 1) : zig (-((U : Int) / 2) - 1) = U := by unfold zig; rw [if_pos (by omega)]; omega
theorem zig_even {U : Nat} (h : ¬ U % 2 = 1) : zig ((U : Int) / 2) = U := by unfold zig; rw [if_neg (by omega)]; omega
theorem hval_wrap (f : Nat → Nat) (p m : Nat) : IntKind.u64.wrap (IntKind.u64.wrap (((hval f (p + 1) m : Nat) : Int) % 18446744073709551616 * 128) + (f p : Int) % 128) = ((hval f p (m + 1) % 18446744073709551616 : Nat) : Int) := by
  have e : hval f p (m + 1) = hval f (p + 1) m * 128 + f p % 128 := rfl
  rw [e, IntKind.wrap_u64, IntKind.wrap_u64]
  omega
theorem nb_range (k : Nat) : ∀ u, u < k → ∀ z ∈ nbz u, 0 ≤ z ∧ z < 256 := by
  induction k with
  | zero => intro u h; omega
  | succ k ih =>
    intro u h z hz
    by_cases hu : u < 128
    · rw [nb_lt hu] at hz; simp at hz; omega
    · rw [nb_ge hu] at hz
      simp only [List.mem_cons] at hz
      rcases hz with rfl | hz
      · omega
      · exact ih (u / 128) (by omega) z hz
theorem strOfNums_inj {a b : List Int} (ha : ∀ z ∈ a, 0 ≤ z ∧ z < 256) (hb : ∀ z ∈ b, 0 ≤ z ∧ z < 256) : ((strOfNums a).toList == (strOfNums b).toList) = true ↔ a = b := by
  rw [beq_iff_eq, ByteArray.toList_eq, ByteArray.toList_eq]
  unfold strOfNums
  simp only
  constructor
  · intro h
    have key : ∀ (l : List Int), (∀ z ∈ l, 0 ≤ z ∧ z < 256) → (l.map fun n => UInt8.ofNat n.toNat).map (fun c => (c.toNat : Int)) = l := by
      intro l hl
      rw [List.map_map]
      conv => rhs; rw [← List.map_id l]
      apply List.map_congr_left
      intro z hz
      have := hl z hz
      simp only [Function.comp, id]
      rw [UInt8.toNat_ofNat']
      omega
    have := congrArg (List.map fun c : UInt8 => (c.toNat : Int)) h
    rwa [key a ha, key b hb] at this
  · intro h; rw [h]
theorem take_dig {zs : List Int} (hz : ∀ z ∈ zs, (Lit.int .u8 z).wf = true) {m : Nat} (hm : m ≤ zs.length) : zs.take m = dig (by_ zs) 0 m := by
  apply List.ext_getElem?
  intro j
  unfold dig
  rw [List.getElem?_take, List.getElem?_map]
  by_cases hj : j < m
  · rw [if_pos hj, List.getElem?_range hj]
    have hl : j < zs.length := by omega
    rw [List.getElem?_eq_getElem hl]
    have hb : 0 ≤ zs[j] ∧ zs[j] ≤ 255 := by simpa [Lit.wf, IntKind.min, IntKind.max, IntKind.bits, IntKind.signed] using hz zs[j] (List.getElem_mem hl)
    simp [by_, List.getD, List.getElem?_eq_getElem hl]
    omega
  · rw [if_neg hj, List.getElem?_eq_none (by simp; omega)]; rfl
theorem by_lt {zs : List Int} (hz : ∀ z ∈ zs, (Lit.int .u8 z).wf = true) (j : Nat) : by_ zs j < 256 := by
  unfold by_
  by_cases hl : j < zs.length
  · have hb : 0 ≤ zs[j] ∧ zs[j] ≤ 255 := by simpa [Lit.wf, IntKind.min, IntKind.max, IntKind.bits, IntKind.signed] using hz zs[j] (List.getElem_mem hl)
    simp [List.getD, List.getElem?_eq_getElem hl]; omega
  · simp [List.getD, List.getElem?_eq_none (show zs.length ≤ j by omega)]
/-- The document's test of the bytes, as it stands in the walk. -/
theorem test_iff {zs : List Int} (hz : ∀ z ∈ zs, (Lit.int .u8 z).wf = true) {n k U : Nat} (hl : zs.length = n) (h0 : k < n) (h1 : k < 10) (h2 : ∀ j, j < k → 128 ≤ by_ zs j) (h3 : by_ zs k < 128) (hU : hval (by_ zs) 0 (k + 1) % 18446744073709551616 = U) :
    ((strOfNums (nbz U)).toList == (strOfNums (zs.take (k + 1))).toList) = true ↔ Good (by_ zs) n k := by
  rw [strOfNums_inj (nb_range _ _ (Nat.lt_succ_self _)) (fun z hz' => by
    have hb : 0 ≤ z ∧ z ≤ 255 := by simpa [Lit.wf, IntKind.min, IntKind.max, IntKind.bits, IntKind.signed] using hz z (List.mem_of_mem_take hz')
    omega), take_dig hz (by omega), ← hU]
  exact good_iff (by_lt hz) h0 h1 h2 h3
theorem good_none {f : Nat → Nat} {n k : Nat} (hj : ∀ j, j < k → 128 ≤ f j) (h : f k < 128) (hg : ¬ Good f n k) : ∀ t, ¬ Good f n t := fun t ht => by
  rcases Nat.lt_trichotomy t k with h1 | h1 | h1
  · have := hj t h1; have := ht.2.2.2.1; omega
  · subst h1; exact hg ht
  · have := ht.2.2.1 k h1; omega
theorem unzig_odd {U : Nat} (h : U % 2 = 1) : -((U : Int) / 2) - 1 = unzig U := by unfold unzig; rw [if_pos h]; omega
theorem unzig_even {U : Nat} (h : ¬ U % 2 = 1) : (U : Int) / 2 = unzig U := by unfold unzig; rw [if_neg h]; omega
theorem bneq {a b : Bool} (h : (!a == b) = true) : a ≠ b := by cases a <;> cases b <;> simp_all
theorem refTakeNumber_any (A : Option Addr) (n c : Nat) (zs : List Int) (w : World) (h : Rd w w.heap.size 1 A n (zs.map (Value.int .u8))) (hz : ∀ z ∈ zs, (Lit.int .u8 z).wf = true) (hn : n ≤ 140737488351232) (hcap : n ≤ c) :
    Calls Try.prog 63 #[.slice A n c] w fun e w' => (∃ x y z, e = .returned (.tuple #[.int .i64 x, .int .i64 y, .int .i64 z]) ∧ TakeIs (by_ zs) n x y z) ∧ Below w.heap.size w w' := by
  have hzl : zs.length = n := by have := h.1; simpa using this
  go_enter Try.func63, Try.ntmps63
  go_wp2
  go_loop [5] (fun i => ∃ k : Nat, k ≤ n ∧ k ≤ 10 ∧ i = .int .i64 (k + 1) ∧ ∀ j, j < k → 128 ≤ by_ zs j) (fun i => n + 1 - (intOf i).toNat)
  case atStart => exact ⟨0, by omega, by omega, rfl, fun j hj => by omega⟩
  case round =>
    obtain ⟨k, hk, hk2, rfl, hj⟩ := hrel
    have HJ := Lib.hid hj
    clear hj
    by_cases hlt : k < n ∧ k < 10
    · obtain ⟨hlt, h10⟩ := hlt
      obtain ⟨b, off, rfl, hc, hb⟩ := cellAt h hz hlt
      by_cases h128 : by_ zs k < 128
      · go_wp2
        go_loop [6, 7] (fun u i => ∃ p m : Nat, p + m = k + 1 ∧ i = .int .i64 ((p : Int) - 1) ∧ u = .int .u64 ((hval (by_ zs) p m % 18446744073709551616 : Nat) : Int)) (fun _ i => (intOf i + 1).toNat)
        case atStart => exact ⟨k + 1, 0, by omega, by go_num, rfl⟩
        case round =>
          obtain ⟨p, m, hpm, rfl, rfl⟩ := hrel
          rcases p with _ | p
          · have HM : m = k + 1 := by omega
            subst HM
            generalize HU : hval (by_ zs) 0 (k + 1) % 18446744073709551616 = U
            have hU : U < 18446744073709551616 := by omega
            have hh := half2 U hU
            by_cases hodd : U % 2 = 1
            · go_wp2_with fail
              refine (refNumberBytes_any _ (by omega) w).mono ?_
              rintro e w2 ⟨A2, n2, c2, rfl, hown2, hb2⟩
              rw [zig_odd hodd] at hown2
              have hx := fun m => run_str_rd (P := Try.prog) (c := c2) ((Rd.of_own (c := c2) hown2).drewN m) 68 5 9 Try.underlying68 Try.underlying5 Try.underlying9
              have hy0 := (h.below hb2).takes (m := k + 1) (by omega)
              rw [← List.map_take] at hy0
              have hy := fun m => run_str_rd (P := Try.prog) (c := c) (hy0.drewN m) 68 5 9 Try.underlying68 Try.underlying5 Try.underlying9
              go_wp2_with fail
              go_quiet (fail)
              clear hx hy hy0
              have HT := Lib.hid (test_iff hz hzl hlt h10 HJ.out h128 HU)
              have HV := Lib.hid (unzig_odd hodd)
              have HN := Lib.hid (show ¬ Good (by_ zs) n k → ∀ t, ¬ Good (by_ zs) n t from good_none HJ.out h128)
              go_wp2
              all_goals
                go_returns
                first
                | (have heq : (!((strOfNums (nbz U)).toList == (strOfNums (zs.take (k + 1))).toList)) = false := by assumption
                   have HG := HT.out.1 (by simpa using heq)
                   refine ⟨⟨_, _, _, rfl, .inl ⟨k, HG, ?_, by go_num, rfl⟩⟩, dr hb2 _⟩
                   rw [HV.out, ← HU, Nat.mod_eq_of_lt HG.lt])
                | (have heq : (!((strOfNums (nbz U)).toList == (strOfNums (zs.take (k + 1))).toList)) = true := by assumption
                   exact ⟨⟨_, _, _, rfl, .inr ⟨HN.out (fun hg => by rw [HT.out.2 hg] at heq; cases heq), rfl, rfl, rfl⟩⟩, dr hb2 _⟩)
            · go_wp2_with fail
              refine (refNumberBytes_any _ (by omega) w).mono ?_
              rintro e w2 ⟨A2, n2, c2, rfl, hown2, hb2⟩
              rw [zig_even hodd] at hown2
              have hx := fun m => run_str_rd (P := Try.prog) (c := c2) ((Rd.of_own (c := c2) hown2).drewN m) 68 5 9 Try.underlying68 Try.underlying5 Try.underlying9
              have hy0 := (h.below hb2).takes (m := k + 1) (by omega)
              rw [← List.map_take] at hy0
              have hy := fun m => run_str_rd (P := Try.prog) (c := c) (hy0.drewN m) 68 5 9 Try.underlying68 Try.underlying5 Try.underlying9
              go_wp2_with fail
              go_quiet (fail)
              clear hx hy hy0
              have HT := Lib.hid (test_iff hz hzl hlt h10 HJ.out h128 HU)
              have HV := Lib.hid (unzig_even hodd)
              have HN := Lib.hid (show ¬ Good (by_ zs) n k → ∀ t, ¬ Good (by_ zs) n t from good_none HJ.out h128)
              go_wp2
              all_goals
                go_returns
                first
                | (have heq : (!((strOfNums (nbz U)).toList == (strOfNums (zs.take (k + 1))).toList)) = false := by assumption
                   have HG := HT.out.1 (by simpa using heq)
                   refine ⟨⟨_, _, _, rfl, .inl ⟨k, HG, ?_, by go_num, rfl⟩⟩, dr hb2 _⟩
                   rw [HV.out, ← HU, Nat.mod_eq_of_lt HG.lt])
                | (have heq : (!((strOfNums (nbz U)).toList == (strOfNums (zs.take (k + 1))).toList)) = true := by assumption
                   exact ⟨⟨_, _, _, rfl, .inr ⟨HN.out (fun hg => by rw [HT.out.2 hg] at heq; cases heq), rfl, rfl, rfl⟩⟩, dr hb2 _⟩)
          · have HP : (((p + 1 : Nat) : Int) - 1) = (p : Int) := by omega
            rw [HP]
            obtain ⟨b2, off2, e2, hc2, hb2⟩ := cellAt h hz (k := p) (by omega)
            injection e2 with e2; injection e2 with e2 e3
            subst e2 e3
            go_wp2
            exact ⟨⟨p, m + 1, by omega, rfl, by rw [hval_wrap]⟩, by simp [intOf]⟩
      · have HJ' := Lib.hid (show ∀ j, j < k + 1 → 128 ≤ by_ zs j from fun j hj => by
          rcases Nat.lt_or_ge j k with h | h
          · exact HJ.out j h
          · obtain rfl : j = k := by omega
            omega)
        go_wp2
        all_goals
          go_round
          case rel => exact ⟨k + 1, by omega, by omega, by go_num, HJ'.out⟩
          case measure => simp [intOf]; omega
    · have HN := Lib.hid (no_good_end (n := n) HJ.out (by omega))
      go_wp2
      all_goals
        go_returns
        exact ⟨⟨_, _, _, rfl, .inr ⟨HN.out, rfl, rfl, rfl⟩⟩, Below.refl _ _⟩
theorem take_five {x y e : Int} (h : TakeIs (by_ [5]) 1 x y e) : y = 1 := by
  have g : Good (by_ [5]) 1 0 := ⟨by omega, by omega, fun j hj => by omega, by decide, fun h => by omega, fun h => by omega⟩
  rcases h with ⟨t, h, _, rfl, _⟩ | ⟨h, _⟩
  · rw [← g.uniq h]; rfl
  · exact absurd g (h 0)
end Go.Proofs.Ytgcedkioanolcaa
