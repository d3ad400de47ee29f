/- Letters and digits, of the program and of the document. Conditions: none. -/
import Derived.Test.YtgjhjojbaieeaaaSc
import Derived.Handy
import Derived.Deep.RegionHeld3
import Derived.Deep.QuietTactic
import Derived.BigQuiet
import Derived.StillTailTactics
set_option maxRecDepth 20000
namespace Go.Proofs.Ytgjhjojbaieeaaa
open Go.ChangeShapes Go.WideShapes Go.ChangeAt Go.RowKit
theorem isL_iff (c : UInt8) : isL c = true ↔ (97 ≤ c.toNat ∧ c.toNat ≤ 122) ∨ (65 ≤ c.toNat ∧ c.toNat ≤ 90) ∨ c.toNat = 95 := by
  unfold isL; simp only [Bool.or_eq_true, Bool.and_eq_true, decide_eq_true_eq, or_assoc]
theorem isD_iff (c : UInt8) : isD c = true ↔ 48 ≤ c.toNat ∧ c.toNat ≤ 57 := by
  unfold isD; simp only [Bool.and_eq_true, decide_eq_true_eq]
theorem b_eq {a : Bool} {p : Prop} [Decidable p] (h : a = true ↔ p) : a = decide p := by
  by_cases hp : p
  · rw [decide_eq_true hp]; exact h.2 hp
  · rw [decide_eq_false hp]; cases a
    · rfl
    · exact absurd (h.1 rfl) hp
theorem letter_any (c : UInt8) (w : World) : Calls Try.prog 100 #[.int .u8 (c.toNat : Int)] w fun e w' => e = .returned (.bool (isL c)) ∧ w' = w := by
  have HL := Lib.hid (b_eq (isL_iff c))
  have hc : c.toNat < 256 := c.toNat_lt
  generalize isL c = r at *
  generalize c.toNat = n at *
  go_enter Try.func100, Try.ntmps100
  go_wp2
  all_goals
    go_ret
    refine ⟨?_, rfl⟩
    rw [HL.out]
    refine congrArg (fun b => Ending.returned (Value.bool b)) ?_
    rw [Bool.eq_iff_iff]
    simp
    omega
theorem digit_any (c : UInt8) (w : World) : Calls Try.prog 102 #[.int .u8 (c.toNat : Int)] w fun e w' => e = .returned (.bool (isD c)) ∧ w' = w := by
  have HL := Lib.hid (b_eq (isD_iff c))
  have hc : c.toNat < 256 := c.toNat_lt
  generalize isD c = r at *
  generalize c.toNat = n at *
  go_enter Try.func102, Try.ntmps102
  go_wp2
  all_goals
    go_ret
    refine ⟨?_, rfl⟩
    rw [HL.out]
    refine congrArg (fun b => Ending.returned (Value.bool b)) ?_
    rw [Bool.eq_iff_iff]
    simp
    omega
theorem refDigit_any (c : UInt8) (w : World) : Calls Try.prog 111 #[.int .u8 (c.toNat : Int)] w fun e w' => e = .returned (.bool (isD c)) ∧ w' = w := by
  have HL := Lib.hid (b_eq (isD_iff c))
  have hc : c.toNat < 256 := c.toNat_lt
  generalize isD c = r at *
  generalize c.toNat = n at *
  go_enter Try.func111, Try.ntmps111
  go_wp2
  all_goals
    go_ret
    refine ⟨?_, rfl⟩
    rw [HL.out]
    refine congrArg (fun b => Ending.returned (Value.bool b)) ?_
    rw [Bool.eq_iff_iff]
    simp
    omega
theorem or32_tab : ∀ n, n < 256 → n ||| 32 < 256 ∧ ((97 ≤ n ||| 32 ∧ n ||| 32 ≤ 122) ↔ ((97 ≤ n ∧ n ≤ 122) ∨ (65 ≤ n ∧ n ≤ 90))) := by decide +kernel
theorem or8u (a b : Nat) (ha : a < 256) (hb : b < 256) (h : a ||| b < 256) : bits .or .u8 (a : Int) (b : Int) = ((a ||| b : Nat) : Int) := by
  show IntKind.u8.wrap ((BitVec.ofInt 8 (a : Int) ||| BitVec.ofInt 8 (b : Int)).toNat : Int) = _
  have e : ∀ q : Nat, q < 256 → (BitVec.ofInt 8 (q : Int)).toNat = q := fun q hq => by
    rw [BitVec.ofInt_natCast, BitVec.toNat_ofNat]; exact Nat.mod_eq_of_lt (by omega)
  rw [BitVec.toNat_or, e a ha, e b hb, IntKind.wrap_u8]
  omega
theorem refLetter_any (c : UInt8) (w : World) : Calls Try.prog 110 #[.int .u8 (c.toNat : Int)] w fun e w' => e = .returned (.bool (isL c)) ∧ w' = w := by
  have hc : c.toNat < 256 := c.toNat_lt
  obtain ⟨h1, h2⟩ := or32_tab c.toNat hc
  have HL := Lib.hid (b_eq (isL_iff c))
  have ho : bits .or .u8 (c.toNat : Int) 32 = ((c.toNat ||| 32 : Nat) : Int) := or8u c.toNat 32 hc (by omega) h1
  have HT := Lib.hid h2
  generalize isL c = r at *
  generalize c.toNat ||| 32 = m at *
  generalize c.toNat = n at *
  clear h2
  go_enter Try.func110, Try.ntmps110
  go_wp2
  all_goals
    go_ret
    refine ⟨?_, rfl⟩
    rw [HL.out]
    have hT := HT.out
    refine congrArg (fun b => Ending.returned (Value.bool b)) ?_
    rw [Bool.eq_iff_iff]
    simp
    omega
/-- Tokens, as cells. -/
def tkC (T : List Tk) : List Value := T.flatMap fun t => [.int .i64 t.k, .string t.s, .int .i64 t.l, .int .i64 t.c]
theorem tkC_len (T : List Tk) : (tkC T).length = T.length * 4 := by
  unfold tkC
  induction T with
  | nil => rfl
  | cons t r ih => simp [List.flatMap_cons, ih]; omega
theorem tkC_one (T : List Tk) : ∀ u ∈ tkC T, u.oneCell' = true := by
  intro u hu
  unfold tkC at hu
  obtain ⟨t, _, hu⟩ := List.mem_flatMap.1 hu
  simp at hu
  rcases hu with rfl | rfl | rfl | rfl <;> rfl
/-- The cutter at block g: the source, the place, the tokens so far. -/
structure Cu (w : World) (g : Nat) (src : ByteArray) (p l c : Int) (v : Value) (T : List Tk) : Prop where
  c0 : w.cell? ⟨g, 0, none⟩ = some (.string src)
  c1 : w.cell? ⟨g, 1, none⟩ = some (.int .i64 p)
  c2 : w.cell? ⟨g, 2, none⟩ = some (.int .i64 l)
  c3 : w.cell? ⟨g, 3, none⟩ = some (.int .i64 c)
  c4 : w.cell? ⟨g, 4, none⟩ = some v
  fz : ∀ k, w.frozen? ⟨g, k, none⟩ = false
  row : w.ownsRow (g + 1) 78 4 v T.length (tkC T)
/-- The panic value. -/
def stopV (code l c : Int) : Value := .iface 125 (.agg #[.int .i64 code, .int .i64 l, .int .i64 c])
def stopE (code l c : Int) : Ending := .panicked [{ v := stopV code l c, recovered := false }]
theorem fail_any (g : Nat) (l c code : Int) (w : World) (h2 : w.cell? ⟨g, 2, none⟩ = some (.int .i64 l)) (h3 : w.cell? ⟨g, 3, none⟩ = some (.int .i64 c)) :
    Calls Try.prog 107 #[.pointer (some ⟨g, 0, none⟩), .int .i64 code] w fun e w' => e = stopE code l c ∧ ∃ n, w' = w.drewN n := by
  go_enter Try.func107, Try.ntmps107
  go_wp2_with fail
  go_still_tail 12, (by kernel_rfl)
  change wpList _ _ _ _ _ w.drew
  generalize hw3 : w.drew = w3 at *
  go_wp2_with fail
  exact ⟨rfl, rfl, 1, hw3.symm⟩
end Go.Proofs.Ytgjhjojbaieeaaa
