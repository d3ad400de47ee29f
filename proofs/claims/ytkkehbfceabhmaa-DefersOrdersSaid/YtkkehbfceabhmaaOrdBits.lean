/- 'defers.Set', 'Top' and 'Drop' where the bits are told by the highest one. Conditions: the mask's bounds. -/
import Derived.Test.YtkkehbfceabhmaaBase
import Derived.Test.YtkkehbfceabhmaaShelf
import Derived.Handy
set_option maxRecDepth 20000
namespace Go.Proofs.Ytkkehbfceabhmaa
open Go.ChangeShapes Go.WideShapes Go.ChangeAt Go.RowKit
def orB (m k : Int) : Int := bits BinOp.or IntKind.i64 m (wrap64 (2 ^ k.toNat))
theorem defersSet_yes (m k : Int) (w : World) (h1 : 0 ≤ m) (h2 : m < 256) (h3 : 0 ≤ k) (h4 : k < 8) : Calls Try.prog 65 #[.int .i64 m, .int .i64 k] w fun e w' => e = .returned (.tuple #[.int .i64 (orB m k), .int .i64 0]) ∧ w' = w := by
  go_enter Try.func65, Try.ntmps65
  go_wp2
  go_ret2
  exact ⟨rfl, rfl⟩
def dropB (m k : Int) : Bool := (m / 2 ^ k.toNat).tmod 2 == 0
def dropV (m k : Int) : Int := wrap64 (m - wrap64 (2 ^ k.toNat))
theorem drop_tab : ∀ m : Nat, m < 256 → ∀ k : Nat, k < 8 → (bits .and .i64 ((m : Int) / 2 ^ (k : Int).toNat) 1 == 0) = dropB m k ∧ (dropB m k = false → bits .andNot .i64 (m : Int) (wrap64 (2 ^ (k : Int).toNat)) = dropV m k) := by decide +kernel
theorem defersDrop_bit (m k : Int) (h1 : 0 ≤ m) (hm : m < 256) (h2 : 0 ≤ k) (hk : k < 8) (HT : (bits .and .i64 (m / 2 ^ k.toNat) 1 == 0) = false) (hv : Hid (bits .andNot .i64 m (wrap64 (2 ^ k.toNat)) = dropV m k)) (w : World) : Calls Try.prog 67 #[.int .i64 m, .int .i64 k] w fun e w' => e = .returned (.tuple #[.int .i64 (dropV m k), .int .i64 0]) ∧ w' = w := by
  go_enter Try.func67, Try.ntmps67
  go_wp2
  go_ret2
  exact ⟨by rw [← hv.out]; rfl, rfl⟩
def topK (m : Nat) : Nat := Lib.bitLen m - 1
theorem top_tab : ∀ m : Nat, m < 256 → 0 < m → (0 < Lib.bitLen m ∧ topK m ≤ 7 ∧ (((m : Int) / 2 ^ ((topK m : Nat) : Int).toNat).tmod 2 == 1) = true) ∧ ∀ k : Nat, k < 8 → topK m < k → (((m : Int) / 2 ^ (k : Int).toNat).tmod 2 == 1) = false := by decide +kernel
theorem defersTop_yes (m : Int) (h1 : 0 < m) (h2 : m < 256) (w : World) : Calls Try.prog 66 #[.int .i64 m] w fun e w' => e = .returned (.tuple #[.int .i64 ((topK m.toNat : Nat) : Int), .bool true]) ∧ w' = w := by
  obtain ⟨⟨t1, t2, _⟩, _⟩ := top_tab m.toNat (by omega) (by omega)
  have hE : Hid ((Lib.bitLen m.toNat : Int) - 1 = ((topK m.toNat : Nat) : Int)) := by show _ = _; unfold topK; omega
  have hl : Lib.bitLen m.toNat ≤ 64 := by unfold topK at t2; omega
  have hz : (m == 0) = false := by simp; omega
  generalize hB : Lib.bitLen m.toNat = B at *
  have HB := Lib.hid hB
  clear hB t2
  go_enter Try.func66, Try.ntmps66
  go_wp2_with (first
    | (go_at_call 107; refine (Try.bits_Len _ _ (by omega) (by omega)).mono ?_; rintro e w' ⟨rfl, rfl⟩; rw [HB.out])
    | go_in)
  go_ret2
  exact ⟨by rw [← hE.out]; rfl, rfl⟩
theorem defersTop_no (m : Int) (h : m ≤ 0 ∨ 256 ≤ m) (w : World) : Calls Try.prog 66 #[.int .i64 m] w fun e w' => e = .returned (.tuple #[.int .i64 0, .bool false]) ∧ w' = w := by
  by_cases h1 : m < 0
  · clear h
    go_enter Try.func66, Try.ntmps66
    go_wp2
    go_ret2
    exact ⟨rfl, rfl⟩
  · by_cases h2 : 256 ≤ m
    · clear h
      go_enter Try.func66, Try.ntmps66
      go_wp2
      go_ret2
      exact ⟨rfl, rfl⟩
    · obtain rfl : m = 0 := by omega
      clear h
      go_enter Try.func66, Try.ntmps66
      go_wp2
      go_ret2
      exact ⟨rfl, rfl⟩
theorem bit_tab : ∀ s : Nat, s < 8 → ∀ m : Nat, m < 256 → (m < 2 ^ s → orB (m : Int) (s : Int) = ((m + 2 ^ s : Nat) : Int)) ∧ (2 ^ s ≤ m → m < 2 ^ (s + 1) → topK m = s ∧ dropB (m : Int) (s : Int) = false ∧ dropV (m : Int) (s : Int) = ((m - 2 ^ s : Nat) : Int)) := by decide +kernel
theorem pow_le8 {s : Nat} (hs : s < 8) : 2 ^ s ≤ 128 := Nat.le_trans (Nat.pow_le_pow_right (by omega) (show s ≤ 7 by omega)) (by omega)
theorem set_ok (m s : Nat) (hs : s < 8) (hm : m < 2 ^ s) (w : World) : Calls Try.prog 65 #[.int .i64 (m : Int), .int .i64 (s : Int)] w fun e w' => e = .returned (.tuple #[.int .i64 ((m + 2 ^ s : Nat) : Int), .int .i64 0]) ∧ w' = w := by
  have h8 := pow_le8 hs
  rw [← ((bit_tab s hs m (by omega)).1 hm)]
  exact defersSet_yes (m : Int) (s : Int) w (by omega) (by omega) (by omega) (by omega)
theorem top_ok (m s : Nat) (hs : s < 8) (h1 : 2 ^ s ≤ m) (h2 : m < 2 ^ (s + 1)) (w : World) : Calls Try.prog 66 #[.int .i64 (m : Int)] w fun e w' => e = .returned (.tuple #[.int .i64 (s : Int), .bool true]) ∧ w' = w := by
  have h8 := pow_le8 hs
  have hp : 0 < 2 ^ s := Nat.two_pow_pos s
  have h9 : 2 ^ (s + 1) = 2 * 2 ^ s := by rw [Nat.pow_succ]; omega
  have ht := ((bit_tab s hs m (by omega)).2 h1 h2).1
  have := defersTop_yes (m : Int) (by omega) (by omega) w
  rwa [Int.toNat_natCast, ht] at this
theorem drop_ok (m s : Nat) (hs : s < 8) (h1 : 2 ^ s ≤ m) (h2 : m < 2 ^ (s + 1)) (w : World) : Calls Try.prog 67 #[.int .i64 (m : Int), .int .i64 (s : Int)] w fun e w' => e = .returned (.tuple #[.int .i64 ((m - 2 ^ s : Nat) : Int), .int .i64 0]) ∧ w' = w := by
  have h8 := pow_le8 hs
  have h9 : 2 ^ (s + 1) = 2 * 2 ^ s := by rw [Nat.pow_succ]; omega
  have hm : m < 256 := by omega
  obtain ⟨_, hb, hv⟩ := (bit_tab s hs m hm).2 h1 h2
  obtain ⟨t1, t2⟩ := drop_tab m hm s hs
  rw [← hv]
  exact defersDrop_bit (m : Int) (s : Int) (by omega) (by omega) (by omega) (by omega) (t1.trans hb) (Lib.hid (t2 hb)) w
end Go.Proofs.Ytkkehbfceabhmaa
