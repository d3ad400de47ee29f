/- Plain: how a value is told as a text. Conditions: none. -/
import Derived.Test.YtdpgcojgnehnpaaText
import Derived.Test.YtdpgcojgnehnpaaVV
import Derived.Lib.Join
namespace Go.Proofs.Ytdpgcojgnehnpaa
open Go
theorem mk_app' (a b : List UInt8) : (ByteArray.mk a.toArray ++ ByteArray.mk b.toArray) = ⟨(a ++ b).toArray⟩ := by apply ByteArray.ext; simp
/-- A number's digits, as bytes. -/
def dB (z : Int) : List UInt8 := (decS z).data.toList
theorem dB_len (z : Int) (h : -9223372036854775808 ≤ z ∧ z ≤ 9223372036854775807) : (dB z).length ≤ 20 := by
  have : (decS z).size ≤ 20 := by
    unfold decS
    rw [strOf_len]
    exact decL_len h
  simpa [dB] using this
theorem dB_size (z : Int) (h : -9223372036854775808 ≤ z ∧ z ≤ 9223372036854775807) : (decS z).size ≤ 20 := by
  have := dB_len z h
  simpa [dB] using this
theorem join_snoc (xs : List (List UInt8)) (y : List UInt8) : Lib.join (xs ++ [y]) [32] = if xs = [] then y else Lib.join xs [32] ++ 32 :: y := by
  cases xs with
  | nil => simp [Lib.join_one]
  | cons x r =>
    rw [List.cons_append, Lib.join_cons, Lib.join_cons, if_neg (by simp)]
    simp [Lib.joinTail]
theorem join_len (xs : List (List UInt8)) (B : Nat) (h : ∀ x ∈ xs, x.length ≤ B) : (Lib.join xs [32]).length ≤ (B + 1) * xs.length := by
  cases xs with
  | nil => simp [Lib.join_nil]
  | cons x r =>
    rw [Lib.join_length]
    have key : ∀ l : List (List UInt8), (∀ x ∈ l, x.length ≤ B) → Lib.lens l ≤ B * l.length := by
      intro l
      induction l with
      | nil => intro _; simp [Lib.lens]
      | cons a t ih =>
        intro hl
        have h1 := ih fun x hx => hl x (List.mem_cons_of_mem _ hx)
        have h2 := hl a (by simp)
        simp only [Lib.lens, List.map_cons, List.sum_cons, List.length_cons, Nat.mul_add] at h1 ⊢
        omega
    have h1 := key _ h
    simp only [List.length_cons, List.length_nil, Nat.add_mul, Nat.one_mul, Nat.zero_add] at h1 ⊢
    omega
/-- The numbers of a list, with a space between. -/
def numsB (l : List Int) : List UInt8 := Lib.join (l.map dB) [32]
theorem numsB_len (l : List Int) (h : ∀ z ∈ l, -9223372036854775808 ≤ z ∧ z ≤ 9223372036854775807) : (numsB l).length ≤ 21 * l.length := by
  have := join_len (l.map dB) 20 (fun x hx => by
    obtain ⟨z, hz, rfl⟩ := List.mem_map.1 hx
    exact dB_len z (h z hz))
  simpa [numsB] using this
/-- A value's text. -/
def showS (x : VV) : ByteArray :=
  if x.k = 1 then decS x.n else if x.k = 2 then (if x.n = 0 then ⟨#[102, 97, 108, 115, 101]⟩ else ⟨#[116, 114, 117, 101]⟩) else if x.k = 3 ∨ x.k = 5 then x.s else if x.k = 4 then ⟨#[110, 105, 108]⟩ else
  if x.k = 6 then ⟨(91 :: numsB x.l ++ [93]).toArray⟩ else if x.k = 7 then ⟨#[112, 111, 105, 110, 116, 101, 114]⟩ else if x.k = 8 then ⟨#[102, 117, 110, 99]⟩ else ⟨#[]⟩
theorem showS_len (x : VV) (hn : -9223372036854775808 ≤ x.n ∧ x.n ≤ 9223372036854775807) (h : ∀ z ∈ x.l, -9223372036854775808 ≤ z ∧ z ≤ 9223372036854775807) : (showS x).size ≤ 22 * x.bulk := by
  unfold VV.bulk showS
  have h0 : (⟨#[]⟩ : ByteArray).size = 0 := rfl
  have h1 : (⟨#[102, 97, 108, 115, 101]⟩ : ByteArray).size = 5 := rfl
  have h2 : (⟨#[116, 114, 117, 101]⟩ : ByteArray).size = 4 := rfl
  have h3 : (⟨#[110, 105, 108]⟩ : ByteArray).size = 3 := rfl
  have h4 : (⟨#[112, 111, 105, 110, 116, 101, 114]⟩ : ByteArray).size = 7 := rfl
  have h5 : (⟨#[102, 117, 110, 99]⟩ : ByteArray).size = 4 := rfl
  have h6 : (⟨(91 :: numsB x.l ++ [93]).toArray⟩ : ByteArray).size = (numsB x.l).length + 2 := by show (91 :: numsB x.l ++ [93]).toArray.size = _; simp
  have h7 := numsB_len x.l h
  have h8 := dB_size x.n hn
  repeat' split
  all_goals omega
end Go.Proofs.Ytdpgcojgnehnpaa
