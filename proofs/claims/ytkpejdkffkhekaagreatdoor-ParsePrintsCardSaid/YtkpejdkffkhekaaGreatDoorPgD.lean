/- The document's word on a node's kids: counts, family, may. Conditions: none. -/
import Derived.Test.YtkpejdkffkhekaaGreatDoorPgT
import Derived.Test.YtkpejdkffkhekaaGreatDoorPgC
set_option maxRecDepth 100000
namespace Go.Proofs.YtkpejdkffkhekaaGreatDoor
open Go.ChangeShapes Go.WideShapes Go.ChangeAt Go.RowKit
def famU (k : Int) : UInt8 :=
  if k = 2 then 102 else if k = 3 then 112 else if k = 4 then 114 else if k = 5 then 98 else if k = 10 then 105
  else if 6 ≤ k ∧ k ≤ 15 then 115 else if k = 31 then 48 else if k = 28 then 99 else if 21 ≤ k ∧ k ≤ 33 then 101 else 63
def mayL (n : ND) (i : Nat) : List UInt8 :=
  if n.kind = 1 then [102]
  else if n.kind = 2 ∨ n.kind = 33 then (if (i : Int) = n.num then [114] else if (i : Int) = n.num + 1 then [98] else [112])
  else if n.kind = 5 then [98, 105, 115]
  else if n.kind = 9 ∨ n.kind = 15 then [99]
  else if n.kind = 10 then (if i = 0 then [101, 99] else if i = 1 then [98] else [98, 105])
  else if n.kind = 11 then (if i + 1 = n.kids.length then [98] else [101, 99])
  else if n.kind = 30 then (if i = 0 then [101, 99] else [101, 99, 48])
  else [101, 99]
theorem fam_iff (k : Int) : (famU k = 102 ↔ k = 2) ∧ (famU k = 112 ↔ k = 3) ∧ (famU k = 114 ↔ k = 4) ∧ (famU k = 98 ↔ k = 5) ∧ (famU k = 105 ↔ k = 10) ∧ (famU k = 115 ↔ 6 ≤ k ∧ k ≤ 15 ∧ k ≠ 10) ∧ (famU k = 48 ↔ k = 31) ∧ (famU k = 99 ↔ k = 28) ∧ (famU k = 101 ↔ 21 ≤ k ∧ k ≤ 33 ∧ k ≠ 31 ∧ k ≠ 28) := by
  unfold famU
  repeat' split
  all_goals (
    refine ⟨?_, ?_, ?_, ?_, ?_, ?_, ?_, ?_, ?_⟩
    all_goals (constructor <;> intro h <;> first | (exact absurd h (by decide)) | omega | rfl))
theorem may_fam (n : ND) (i : Nat) (k : Int) : (mayL n i).any (fun b => b == famU k) = kidN n i k := by
  obtain ⟨f1, f2, f3, f4, f5, f6, f7, f8, f9⟩ := fam_iff k
  rw [Bool.eq_iff_iff]
  unfold mayL kidN isE
  repeat' split
  all_goals simp only [List.any_cons, List.any_nil, Bool.or_false, Bool.or_eq_true, beq_iff_eq, decide_eq_true_eq, eq_comm (b := famU k), f1, f2, f3, f4, f5, f6, f7, f8, f9]
  all_goals omega
set_option maxHeartbeats 4000000 in
theorem family_any (k : Int) (w : World) : Calls Tryz.prog 30 #[.int .i64 k] w fun e w' => e = .returned (.int .u8 ((famU k).toNat : Int)) ∧ w' = w := by
  go_enter Tryz.func30, Tryz.ntmps30
  go_wp2_with fail
  all_goals (
    go_ret
    refine ⟨?_, rfl⟩
    unfold famU)
  all_goals (
    simp only [beq_iff_eq, beq_eq_false_iff_ne, ne_eq] at *
    repeat' (first | rw [if_pos (by omega)] | rw [if_neg (by omega)])
    rfl)
end Go.Proofs.YtkpejdkffkhekaaGreatDoor
