/- The types' reader: 'has'. Conditions: none. -/
import Derived.Test.YtkpejdkffkhekaaGreatDoorTx
import Derived.Test.YtkpejdkffkhekaaGreatDoorTy
import Derived.Deep.QuietTactic
import Derived.BigQuiet
import Derived.IntWalk
set_option maxRecDepth 20000
namespace Go.Proofs.YtkpejdkffkhekaaGreatDoor
open Go.ChangeShapes Go.WideShapes Go.ChangeAt Go.RowKit
/-- What a reader holds: its text and its place. -/
def Rdr (w : World) (g : Nat) (S : ByteArray) (k : Nat) : Prop :=
  w.cell? ⟨g, 0, none⟩ = some (.string S) ∧ w.cell? ⟨g, 1, none⟩ = some (.int .i64 (k : Int)) ∧ w.frozen? ⟨g, 0, none⟩ = false ∧ w.frozen? ⟨g, 1, none⟩ = false
def hasB (S : ByteArray) (k : Nat) (t : ByteArray) : Bool := t.data.toList.isPrefixOf (S.data.toList.drop k)
theorem hasB_no {S t : ByteArray} {k : Nat} (h : S.size < k + t.size) (hk : k ≤ S.size) : hasB S k t = false := by
  unfold hasB
  rw [Bool.eq_false_iff]
  intro hh
  have := pre_len hh
  rw [List.length_drop] at this
  have e1 : S.data.toList.length = S.size := rfl
  have e2 : t.data.toList.length = t.size := rfl
  omega
theorem hasB_eq {S t : ByteArray} {k : Nat} : hasB S k t = ((S.extract k (k + t.size)).toList == t.toList) := by
  unfold hasB
  rw [ByteArray.toList_eq, ByteArray.toList_eq, ext_list, Bool.eq_iff_iff, List.isPrefixOf_iff_prefix, beq_iff_eq, List.prefix_iff_eq_take]
  have e2 : t.data.toList.length = t.size := rfl
  rw [e2, List.drop_take, Nat.add_sub_cancel_left, eq_comm]
/-- What 'has' leaves. -/
def HasP (g k : Nat) (S t : ByteArray) (b : Bool) (w : World) (e : Ending) (w' : World) : Prop := e = .returned (.bool b) ∧ Rdr w' g S (if b then k + t.size else k) ∧ w.grownBy w' (some g)
theorem gb_drawn (w : World) (n : Nat) (r : Option Nat) : w.grownBy (w.drewN n) r := ⟨rfl, rfl, rfl, Nat.le_refl _, fun _ _ _ => rfl⟩
theorem gb_setc (w : World) (a : Addr) (u : Value) : w.grownBy (w.setCell a u) (some a.block) :=
  ⟨rfl, rfl, rfl, by simp [World.setCell], fun k _ hk => Below.heap_setCell _ _ _ _ (fun e => hk (by rw [e]))⟩
theorem HasP.no {g k nq : Nat} {S t : ByteArray} {b : Bool} {w : World} (hb : b = false) (hr : Rdr w g S k) : HasP g k S t b w (.returned (.bool false)) (w.drewN nq) := by
  subst hb
  exact ⟨rfl, hr, gb_drawn _ _ _⟩
theorem HasP.yes {g k nq : Nat} {S t : ByteArray} {b : Bool} {w : World} {z : Int} (hb : b = true) (hr : Rdr w g S k) (hz : z = (k : Int) + (t.size : Int)) : HasP g k S t b w (.returned (.bool true)) ((w.setCell ⟨g, 1, none⟩ (.int .i64 z)).drewN nq) := by
  subst hb hz
  obtain ⟨h0, h1, f0, f1⟩ := hr
  refine ⟨rfl, ⟨?_, ?_, by simpa using f0, by simpa using f1⟩, ⟨rfl, rfl, rfl, by simp [World.setCell], fun i _ hi => Below.heap_setCell _ _ _ _ (fun e => hi (by rw [e]))⟩⟩
  · rw [show ((w.setCell ⟨g, 1, none⟩ (.int .i64 ((k : Int) + (t.size : Int)))).drewN nq).cell? ⟨g, 0, none⟩ = (w.setCell ⟨g, 1, none⟩ (.int .i64 ((k : Int) + (t.size : Int)))).cell? ⟨g, 0, none⟩ from rfl, World.cell?_setCell_other _ _ _ _ (by simp)]
    exact h0
  · rw [show ((w.setCell ⟨g, 1, none⟩ (.int .i64 ((k : Int) + (t.size : Int)))).drewN nq).cell? ⟨g, 1, none⟩ = (w.setCell ⟨g, 1, none⟩ (.int .i64 ((k : Int) + (t.size : Int)))).cell? ⟨g, 1, none⟩ from rfl, World.cell?_setCell_same _ _ _ h1]
    simp
theorem has_any (g k : Nat) (S t : ByteArray) (b : Bool) (hB : b = hasB S k t) (w : World) (hr : Rdr w g S k) (hk : k ≤ S.size) (hS : S.size ≤ 1000) (ht : t.size ≤ 1000) :
    Calls Tryz.prog 76 #[.pointer (some ⟨g, 0, none⟩), .string t] w (HasP g k S t b w) := by
  have HR := Lib.hid hr
  obtain ⟨h0, h1, f0, f1⟩ := hr
  by_cases hlt : (S.size : Int) - (k : Int) < (t.size : Int)
  · have HB := Lib.hid (hB.trans (hasB_no (S := S) (t := t) (k := k) (by omega) hk))
    clear hB
    have hd : decide ((S.size : Int) - (k : Int) < (t.size : Int)) = true := by simpa using hlt
    have hb0 : (0 : Int) ≤ (k : Int) := by omega
    have hb1 : (k : Int) ≤ (S.size : Int) := by omega
    go_enter Tryz.func76, Tryz.ntmps76
    go_wp2_with fail
    go_quiet (fail)
    go_wp2_with fail
    go_ret
    exact HasP.no HB.out HR.out
  · have hd : decide ((S.size : Int) - (k : Int) < (t.size : Int)) = false := by simpa using hlt
    have hb0 : (0 : Int) ≤ (k : Int) := by omega
    have hb1 : (k : Int) ≤ (S.size : Int) := by omega
    have hb2 : (k : Int) + (t.size : Int) ≤ (S.size : Int) := by omega
    have hw : IntKind.i64.wrap ((k : Int) + (t.size : Int)) = (k : Int) + (t.size : Int) := IntWalk.i64_in _ (by omega)
    have hn : ((k : Int) + (t.size : Int)).toNat = k + t.size := by omega
    have hb3 : (k : Int) ≤ (k : Int) + (t.size : Int) := by omega
    have hb4 : (0 : Int) ≤ (k : Int) + (t.size : Int) := by omega
    cases hh : hasB S k t <;> rw [hh] at hB <;> have HB := Lib.hid hB <;> clear hB
    · have he : ((S.extract k (k + t.size)).toList == t.toList) = false := by rw [← hasB_eq]; exact hh
      clear hh
      go_enter Tryz.func76, Tryz.ntmps76
      go_wp2_with fail
      go_quiet (fail)
      clear hw
      go_wp2_with fail
      go_ret
      exact HasP.no HB.out HR.out
    · have he : ((S.extract k (k + t.size)).toList == t.toList) = true := by rw [← hasB_eq]; exact hh
      clear hh
      go_enter Tryz.func76, Tryz.ntmps76
      go_wp2_with fail
      go_quiet (fail)
      clear hw
      go_wp2_with fail
      go_ret
      exact HasP.yes HB.out HR.out rfl
end Go.Proofs.YtkpejdkffkhekaaGreatDoor