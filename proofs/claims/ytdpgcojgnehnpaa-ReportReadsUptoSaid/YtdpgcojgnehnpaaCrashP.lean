/- Plain: what is told of panics. Conditions: none. -/
import Derived.Test.YtdpgcojgnehnpaaTextP
import Derived.Test.YtdpgcojgnehnpaaUp
import Derived.Test.YtdpgcojgnehnpaaCut
namespace Go.Proofs.Ytdpgcojgnehnpaa
open Go
/-- A panic's line; i: how many stand ahead of it. -/
def lineB (i : Nat) (p : PP) : List UInt8 := (if 0 < i then [9] else []) ++ ([112, 97, 110, 105, 99, 58, 32] ++ (textS p.v).data.toList) ++ (if p.rcv = true then [32, 91, 114, 101, 99, 111, 118, 101, 114, 101, 100, 93] else []) ++ [10]
def crashB : Nat → List PP → List UInt8
  | _, [] => []
  | i, p :: r => lineB i p ++ crashB (i + 1) r
theorem crashB_snoc (l : List PP) (p : PP) : ∀ i, crashB i (l ++ [p]) = crashB i l ++ lineB (i + l.length) p := by
  induction l with
  | nil => intro i; simp [crashB]
  | cons q r ih =>
    intro i
    simp only [List.cons_append, crashB, ih, List.append_assoc, List.length_cons]
    rw [show i + 1 + r.length = i + (r.length + 1) by omega]
theorem crashB_take {l : List PP} {k : Nat} {p : PP} (h : l[k]? = some p) : crashB 0 (l.take (k + 1)) = crashB 0 (l.take k) ++ lineB k p := by
  have hk : k < l.length := (List.getElem?_eq_some_iff.1 h).1
  rw [List.take_add_one, h]
  simp only [Option.toList]
  rw [crashB_snoc, List.length_take, Nat.min_eq_left (by omega), Nat.zero_add]
theorem line_len (i : Nat) (p : PP) (hn : -9223372036854775808 ≤ p.v.n ∧ p.v.n ≤ 9223372036854775807) : (lineB i p).length ≤ 43 * p.v.bulk := by
  have h1 := textS_len p.v hn
  have h2 : (textS p.v).data.toList.length = (textS p.v).size := by simp
  have h3 : 1 ≤ p.v.bulk := by unfold VV.bulk; omega
  unfold lineB
  split <;> split <;> simp only [List.length_append, List.length_cons, List.length_nil] <;> omega
theorem crash_len : ∀ (l : List PP) (i : Nat), (∀ p ∈ l, -9223372036854775808 ≤ p.v.n ∧ p.v.n ≤ 9223372036854775807) → (crashB i l).length ≤ 43 * (l.map PP.bulk).sum
  | [], _, _ => by simp [crashB]
  | p :: r, i, h => by
    have h1 := line_len i p (h p (by simp))
    have h2 := crash_len r (i + 1) (fun q hq => h q (List.mem_cons_of_mem _ hq))
    simp only [crashB, List.length_append, List.map_cons, List.sum_cons, PP.bulk] at *
    omega
theorem sum_take_le (l : List PP) (k : Nat) : ((l.take k).map PP.bulk).sum ≤ (l.map PP.bulk).sum := by
  induction l generalizing k with
  | nil => simp
  | cons p r ih =>
    cases k with
    | zero => simp
    | succ k =>
      have := ih k
      simp only [List.take_succ_cons, List.map_cons, List.sum_cons]
      omega
theorem bulk_le {l : List PP} {p : PP} (h : p ∈ l) : p.v.bulk ≤ (l.map PP.bulk).sum := by
  induction l with
  | nil => cases h
  | cons q r ih =>
    simp only [List.map_cons, List.sum_cons]
    rcases List.mem_cons.1 h with rfl | h
    · simp only [PP.bulk]; omega
    · have := ih h; omega
theorem len_le_sum (l : List PP) : l.length ≤ (l.map PP.bulk).sum := by
  induction l with
  | nil => simp
  | cons q r ih =>
    have : 1 ≤ PP.bulk q := by unfold PP.bulk VV.bulk; omega
    simp only [List.map_cons, List.sum_cons, List.length_cons]
    omega
end Go.Proofs.Ytdpgcojgnehnpaa
