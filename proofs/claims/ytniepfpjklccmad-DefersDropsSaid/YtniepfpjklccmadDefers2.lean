/- 'defers.Drop' and the document's DropBit answer alike; so the law over them is true. Conditions: none. -/
import Derived.Test.YtniepfpjklccmadBase
import Derived.Handy
namespace Go.Proofs.Ytniepfpjklccmad
open Go.ChangeShapes Go.WideShapes Go.ChangeAt Go.RowKit

def dropB (m k : Int) : Bool := (m / 2 ^ k.toNat).tmod 2 == 0
def dropV (m k : Int) : Int := wrap64 (m - wrap64 (2 ^ k.toNat))
theorem drop_tab : ∀ m : Nat, m < 256 → ∀ k : Nat, k < 8 → (bits .and .i64 ((m : Int) / 2 ^ (k : Int).toNat) 1 == 0) = dropB m k ∧ (dropB m k = false → bits .andNot .i64 (m : Int) (wrap64 (2 ^ (k : Int).toNat)) = dropV m k) := by decide +kernel
theorem drop_124 : (bits .and .i64 ((12 : Int) / 2 ^ (3 : Int).toNat) 1 == 0) = false ∧ Hid (bits .andNot .i64 12 (wrap64 (2 ^ (3 : Int).toNat)) = dropV 12 3) ∧ dropV 12 3 = 4 := by unfold Hid; decide +kernel
theorem defersDrop_no (m k : Int) (w : World) (h : m < 0 ∨ 256 ≤ m ∨ k < 0 ∨ 8 ≤ k) : Calls Try.prog 21 #[.int .i64 m, .int .i64 k] w fun e w' => e = .returned (.tuple #[.int .i64 0, .int .i64 14]) ∧ w' = w := by
  by_cases h1 : m < 0
  · clear h
    go_enter Try.func21, Try.ntmps21
    go_wp2
    go_ret2
    exact ⟨rfl, rfl⟩
  · by_cases h2 : 256 ≤ m
    · clear h
      go_enter Try.func21, Try.ntmps21
      go_wp2
      go_ret2
      exact ⟨rfl, rfl⟩
    · by_cases h3 : k < 0
      · clear h
        go_enter Try.func21, Try.ntmps21
        go_wp2
        go_ret2
        exact ⟨rfl, rfl⟩
      · have h4 : 8 ≤ k := by omega
        clear h
        go_enter Try.func21, Try.ntmps21
        go_wp2
        go_ret2
        exact ⟨rfl, rfl⟩
theorem refDropBit_no (m k : Int) (w : World) (h : m < 0 ∨ 256 ≤ m ∨ k < 0 ∨ 8 ≤ k) : Calls Try.prog 22 #[.int .i64 m, .int .i64 k] w fun e w' => e = .returned (.tuple #[.int .i64 0, .int .i64 14]) ∧ w' = w := by
  by_cases h1 : m < 0
  · clear h
    go_enter Try.func22, Try.ntmps22
    go_wp2
    go_ret2
    exact ⟨rfl, rfl⟩
  · by_cases h2 : 256 ≤ m
    · clear h
      go_enter Try.func22, Try.ntmps22
      go_wp2
      go_ret2
      exact ⟨rfl, rfl⟩
    · by_cases h3 : k < 0
      · clear h
        go_enter Try.func22, Try.ntmps22
        go_wp2
        go_ret2
        exact ⟨rfl, rfl⟩
      · have h4 : 8 ≤ k := by omega
        clear h
        go_enter Try.func22, Try.ntmps22
        go_wp2
        go_ret2
        exact ⟨rfl, rfl⟩
theorem defersDrop_bit (m k : Int) (h1 : 0 ≤ m) (hm : m < 256) (h2 : 0 ≤ k) (hk : k < 8) (HT : (bits .and .i64 (m / 2 ^ k.toNat) 1 == 0) = false) (hv : Hid (bits .andNot .i64 m (wrap64 (2 ^ k.toNat)) = dropV m k)) (w : World) : Calls Try.prog 21 #[.int .i64 m, .int .i64 k] w fun e w' => e = .returned (.tuple #[.int .i64 (dropV m k), .int .i64 0]) ∧ w' = w := by
  go_enter Try.func21, Try.ntmps21
  go_wp2
  go_ret2
  exact ⟨by rw [← hv.out]; rfl, rfl⟩
theorem defersDrop_none (m k : Int) (h1 : 0 ≤ m) (hm : m < 256) (h2 : 0 ≤ k) (hk : k < 8) (HT : (bits .and .i64 (m / 2 ^ k.toNat) 1 == 0) = true) (w : World) : Calls Try.prog 21 #[.int .i64 m, .int .i64 k] w fun e w' => e = .returned (.tuple #[.int .i64 0, .int .i64 16]) ∧ w' = w := by
  go_enter Try.func21, Try.ntmps21
  go_wp2
  go_ret2
  exact ⟨rfl, rfl⟩
theorem refDropBit_bit (m k : Int) (h1 : 0 ≤ m) (hm : m < 256) (h2 : 0 ≤ k) (hk : k < 8) (hb : Hid (dropB m k = false)) (w : World) : Calls Try.prog 22 #[.int .i64 m, .int .i64 k] w fun e w' => e = .returned (.tuple #[.int .i64 (dropV m k), .int .i64 0]) ∧ w' = w := by
  have HT : ((m / 2 ^ k.toNat).tmod 2 == 0) = false := hb.out
  go_enter Try.func22, Try.ntmps22
  go_wp2
  go_ret2
  exact ⟨rfl, rfl⟩
theorem refDropBit_none (m k : Int) (h1 : 0 ≤ m) (hm : m < 256) (h2 : 0 ≤ k) (hk : k < 8) (hb : Hid (dropB m k = true)) (w : World) : Calls Try.prog 22 #[.int .i64 m, .int .i64 k] w fun e w' => e = .returned (.tuple #[.int .i64 0, .int .i64 16]) ∧ w' = w := by
  have HT : ((m / 2 ^ k.toNat).tmod 2 == 0) = true := hb.out
  go_enter Try.func22, Try.ntmps22
  go_wp2
  go_ret2
  exact ⟨rfl, rfl⟩
theorem walkDefersDrops (v0 v1 : Value) (w : World) (w0 : IsInt v0) (w1 : IsInt v1) : Calls Try.prog 7 #[v0, v1] w fun e w' => e = .returned (.bool true) ∧ Below w.heap.size w w' := by
  obtain ⟨m, rfl, _⟩ := w0
  obtain ⟨k, rfl, _⟩ := w1
  by_cases h : m < 0 ∨ 256 ≤ m ∨ k < 0 ∨ 8 ≤ k
  · go_enter Try.func7, Try.ntmps7
    go_wp2_with fail
    refine (defersDrop_no m k _ h).mono ?_
    rintro e w1 ⟨rfl, rfl⟩
    go_wp2_with fail
    refine (refDropBit_no m k _ h).mono ?_
    rintro e w1 ⟨rfl, rfl⟩
    go_wp2_with fail
    refine (defersDrop_bit 12 3 (by omega) (by omega) (by omega) (by omega) drop_124.1 drop_124.2.1 _).mono ?_
    rintro e w1 ⟨rfl, rfl⟩
    rw [drop_124.2.2]
    go_wp2_with fail
    go_ret
    exact ⟨by simp, Below.refl _ _⟩
  · obtain ⟨m, rfl⟩ := Int.eq_ofNat_of_zero_le (show 0 ≤ m by omega)
    obtain ⟨k, rfl⟩ := Int.eq_ofNat_of_zero_le (show 0 ≤ k by omega)
    have hm : m < 256 := by omega
    have hk : k < 8 := by omega
    clear h
    have tab := drop_tab m hm k hk
    cases hb : dropB m k
    · have Hb := Lib.hid hb
      have T1 := tab.1.trans hb
      have T2 := Lib.hid (tab.2 hb)
      clear hb tab
      go_enter Try.func7, Try.ntmps7
      go_wp2_with fail
      refine (defersDrop_bit m k (by omega) (by omega) (by omega) (by omega) T1 T2 _).mono ?_
      rintro e w1 ⟨rfl, rfl⟩
      go_wp2_with fail
      refine (refDropBit_bit m k (by omega) (by omega) (by omega) (by omega) Hb _).mono ?_
      rintro e w1 ⟨rfl, rfl⟩
      go_wp2_with fail
      refine (defersDrop_bit 12 3 (by omega) (by omega) (by omega) (by omega) drop_124.1 drop_124.2.1 _).mono ?_
      rintro e w1 ⟨rfl, rfl⟩
      rw [drop_124.2.2]
      go_wp2_with fail
      go_ret
      exact ⟨by simp, Below.refl _ _⟩
    · have Hb := Lib.hid hb
      have T1 := tab.1.trans hb
      clear hb tab
      go_enter Try.func7, Try.ntmps7
      go_wp2_with fail
      refine (defersDrop_none m k (by omega) (by omega) (by omega) (by omega) T1 _).mono ?_
      rintro e w1 ⟨rfl, rfl⟩
      go_wp2_with fail
      refine (refDropBit_none m k (by omega) (by omega) (by omega) (by omega) Hb _).mono ?_
      rintro e w1 ⟨rfl, rfl⟩
      go_wp2_with fail
      refine (defersDrop_bit 12 3 (by omega) (by omega) (by omega) (by omega) drop_124.1 drop_124.2.1 _).mono ?_
      rintro e w1 ⟨rfl, rfl⟩
      rw [drop_124.2.2]
      go_wp2_with fail
      go_ret
      exact ⟨by simp, Below.refl _ _⟩
end Go.Proofs.Ytniepfpjklccmad
