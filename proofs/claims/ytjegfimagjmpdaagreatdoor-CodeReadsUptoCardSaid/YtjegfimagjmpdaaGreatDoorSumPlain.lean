/- The sums of bytes: that the program's way and the document's come to one number. Plain arithmetic, no conditions. -/
import Derived.WalkKit
namespace Go.Proofs.YtjegfimagjmpdaaGreatDoor
/-- S: the sum of the first k bytes; T: the sum of the S; U: each byte as often as there are bytes from it on. -/
def sS (c : Nat → Nat) : Nat → Nat | 0 => 0 | k + 1 => sS c k + c k
def sT (c : Nat → Nat) : Nat → Nat | 0 => 0 | k + 1 => sT c k + sS c (k + 1)
def sU (c : Nat → Nat) (n : Nat) : Nat → Nat | 0 => 0 | k + 1 => sU c n k + (n - k) * c k
theorem sU_eq (c : Nat → Nat) (n k : Nat) (h : k ≤ n) : sU c n k = sT c k + (n - k) * sS c k := by
  induction k with
  | zero => simp [sU, sT, sS]
  | succ k ih =>
    have e := ih (by omega)
    obtain ⟨m, rfl⟩ : ∃ m, n = k + 1 + m := ⟨n - (k + 1), by omega⟩
    simp only [sU, sT, e, sS]
    have e1 : k + 1 + m - k = m + 1 := by omega
    have e2 : k + 1 + m - (k + 1) = m := by omega
    rw [e1, e2]
    simp only [Nat.add_mul, Nat.mul_add, Nat.one_mul]
    omega
theorem sU_full (c : Nat → Nat) (n : Nat) : sU c n n = sT c n := by rw [sU_eq c n n (Nat.le_refl _)]; simp
def xOf (c : Nat → Nat) (k : Nat) : Nat := (1 + sS c k) % 65521
def yP (c : Nat → Nat) (k : Nat) : Nat := (k + sT c k) % 65521
def yR (c : Nat → Nat) (n k : Nat) : Nat := (n + sU c n k) % 65521
theorem xOf_succ (c : Nat → Nat) (k : Nat) : xOf c (k + 1) = (xOf c k + c k) % 65521 := by unfold xOf; simp only [sS]; omega
theorem yP_succ (c : Nat → Nat) (k : Nat) : yP c (k + 1) = (yP c k + xOf c (k + 1)) % 65521 := by unfold yP xOf; simp only [sT]; omega
theorem yR_succ (c : Nat → Nat) (n k : Nat) : yR c n (k + 1) = (yR c n k + (n - k) % 65521 * c k) % 65521 := by
  unfold yR; simp only [sU]
  have : (n - k) % 65521 * c k % 65521 = (n - k) * c k % 65521 := by rw [Nat.mul_mod, Nat.mod_mod, ← Nat.mul_mod]
  omega
theorem y_full (c : Nat → Nat) (n : Nat) : yR c n n = yP c n := by unfold yR yP; rw [sU_full]
theorem or_low (y x : Nat) (h : x < 65536) : y * 65536 ||| x = y * 65536 + x := by
  have := Nat.two_pow_add_eq_or_of_lt (i := 16) (by simpa using h) y
  rw [show (2:Nat)^16 = 65536 from rfl] at this
  rw [Nat.mul_comm y, ← this]
theorem xOf_lt (c : Nat → Nat) (k : Nat) : xOf c k < 65521 := Nat.mod_lt _ (by omega)
theorem yP_lt (c : Nat → Nat) (k : Nat) : yP c k < 65521 := Nat.mod_lt _ (by omega)
theorem yR_lt (c : Nat → Nat) (n k : Nat) : yR c n k < 65521 := Nat.mod_lt _ (by omega)
end Go.Proofs.YtjegfimagjmpdaaGreatDoor
