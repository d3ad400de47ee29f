/- The types' reader: a type, a function's type. Conditions: none. -/
import Derived.Test.YtkpejdkffkhekaaGreatDoorTyAt
import Derived.StillTailTactics
set_option maxRecDepth 20000
namespace Go.Proofs.YtkpejdkffkhekaaGreatDoor
open Go.ChangeShapes Go.WideShapes Go.ChangeAt Go.RowKit
/-- What a reader's method leaves, where the type ends at o. -/
def OneP (o : Option Nat) (g : Nat) (S : ByteArray) (w : World) (e : Ending) (w' : World) : Prop :=
  (∃ p, o = some p ∧ e = .returned (.bool true) ∧ Rdr w' g S p ∧ w.grownBy w' (some g)) ∨ (o = none ∧ e = .returned (.bool false) ∧ w.grownBy w' (some g))
theorem OneP.yes {o : Option Nat} {g p : Nat} {S : ByteArray} {w w' : World} (h : o = some p) (hr : Rdr w' g S p) (hg : w.grownBy w' (some g)) : OneP o g S w (.returned (.bool true)) w' := .inl ⟨p, h, rfl, hr, hg⟩
theorem OneP.no {o : Option Nat} {g : Nat} {S : ByteArray} {w w' : World} (h : o = none) (hg : w.grownBy w' (some g)) : OneP o g S w (.returned (.bool false)) w' := .inr ⟨h, rfl, hg⟩
theorem OneP.from {o : Option Nat} {g : Nat} {S : ByteArray} {w w1 w' : World} {e : Ending} (hg : w.grownBy w1 (some g)) (h : OneP o g S w1 e w') : OneP o g S w e w' := by
  rcases h with ⟨p, h1, h2, h3, h4⟩ | ⟨h1, h2, h4⟩
  · exact .inl ⟨p, h1, h2, h3, hg.trans h4⟩
  · exact .inr ⟨h1, h2, hg.trans h4⟩
/-- The word j of the types. -/
def tw (j : Nat) : ByteArray := ⟨(tyW.getD j []).toArray⟩
theorem tw_size : ∀ j, j < 6 → (tw j).size ≤ 6 := by decide
theorem tyW_len : tyW.length = 6 := rfl
theorem tw_list {j : Nat} (hj : j < tyW.length) : (tw j).data.toList = tyW[j] := by
  unfold tw; simp [List.getD, List.getElem?_eq_getElem hj]
theorem tw_hasB {S : ByteArray} {k j : Nat} (hj : j < tyW.length) : hasB S k (tw j) = tyW[j].isPrefixOf (S.data.toList.drop k) := by
  unfold hasB; rw [tw_list hj]
theorem tw_size' {j : Nat} (hj : j < tyW.length) : (tw j).size = tyW[j].length := by rw [← tw_list hj]; rfl
def noW (S : ByteArray) (k j : Nat) : Prop := (tyW.take j).find? (fun w => w.isPrefixOf (S.data.toList.drop k)) = none
theorem run_tw : ∀ (k : Nat), k < 6 → ∀ w : World, (Instr.index 98 (.agg #[.string ⟨#[105, 110, 116]⟩, .string ⟨#[98, 111, 111, 108]⟩, .string ⟨#[115, 116, 114, 105, 110, 103]⟩, .string ⟨#[97, 110, 121]⟩, .string ⟨#[91, 93, 105, 110, 116]⟩, .string ⟨#[42, 105, 110, 116]⟩]) (.int .i64 (k : Int))).run Tryz.prog w = .ok (.string (tw k)) w
  | 0, _ => fun w => by kernel_rfl
  | 1, _ => fun w => by kernel_rfl
  | 2, _ => fun w => by kernel_rfl
  | 3, _ => fun w => by kernel_rfl
  | 4, _ => fun w => by kernel_rfl
  | 5, _ => fun w => by kernel_rfl
  | k + 6, h => absurd h (by omega)
theorem tyOne_any (f g k : Nat) (S : ByteArray) (hS : S.size ≤ 1000) (hk : k ≤ S.size) (hfun : ∀ w, Rdr w g S k → Calls Tryz.prog 77 #[.pointer (some ⟨g, 0, none⟩), .nilFunc] w (OneP (fnAt f S k) g S w)) (w : World) (hr : Rdr w g S k) :
    Calls Tryz.prog 60 #[.pointer (some ⟨g, 0, none⟩)] w (OneP (tyAt (f + 1) S k) g S w) := by
  have HR := Lib.hid hr
  have HF := Lib.hid hfun
  clear hr hfun
  go_enter Tryz.func60, Tryz.ntmps60
  go_wp2_with fail
  go_loopw [6] (fun i wr => ∃ j : Nat, j ≤ 6 ∧ i = .int .i64 (j : Int) ∧ Hid (noW S k j) ∧ Rdr wr g S k ∧ w.grownBy wr (some g)) (fun i _ => 6 - (intOf i).toNat)
  case atStart => exact ⟨0, by omega, rfl, rfl, HR.out, World.grownBy.refl w _⟩
  case round =>
    obtain ⟨j, hj, rfl, hn, hr, hg⟩ := hrel
    have HR2 := Lib.hid hr
    have HG := Lib.hid hg
    clear hr hg
    by_cases hlt : j < 6
    · have hidx := run_tw j hlt
      have hsz := tw_size j hlt
      have hjl : j < tyW.length := hlt
      cases hb : hasB S k (tw j)
      · have HB := Lib.hid hb
        clear hb
        go_wp2_with fail
        refine (has_any g k S (tw j) false HB.out.symm _ HR2.out hk hS (by omega)).mono ?_
        rintro e w1 ⟨rfl, hr1, hg1⟩
        have HR3 := Lib.hid hr1
        have HG3 := Lib.hid hg1
        clear hr1 hg1
        go_wp2_with fail
        go_roundw
        case rel => exact ⟨j + 1, by omega, by go_num, tw_miss hjl hn.out ((tw_hasB hjl).symm.trans HB.out), HR3.out, HG.out.trans HG3.out⟩
        case measure => simp [intOf]; omega
      · have HB := Lib.hid hb
        clear hb
        go_wp2_with fail
        refine (has_any g k S (tw j) true HB.out.symm _ HR2.out hk hS (by omega)).mono ?_
        rintro e w1 ⟨rfl, hr1, hg1⟩
        have HR3 := Lib.hid hr1
        have HG3 := Lib.hid hg1
        clear hr1 hg1
        go_wp2_with fail
        go_ret
        refine OneP.yes (p := k + (tw j).size) ?_ HR3.out (HG.out.trans HG3.out)
        rw [tyAt_word (tw_hit hjl hn.out ((tw_hasB hjl).symm.trans HB.out)), tw_size' hjl]
    · obtain rfl : j = 6 := by omega
      have HE := Lib.hid (tyAt_fn (f := f) (tw_none hn.out))
      clear hn
      go_wp2_with fail
      refine (HF.out _ HR2.out).mono ?_
      rintro e w1 h1
      rcases h1 with ⟨p, h1, rfl, h3, h4⟩ | ⟨h1, rfl, h4⟩
      · have H1 := Lib.hid h1
        have H3 := Lib.hid h3
        clear h1 h3
        go_wp2_with fail
        go_ret
        exact OneP.yes (HE.out.trans H1.out) H3.out (HG.out.trans h4)
      · have H1 := Lib.hid h1
        clear h1
        go_wp2_with fail
        go_ret
        exact OneP.no (HE.out.trans H1.out) (HG.out.trans h4)
end Go.Proofs.YtkpejdkffkhekaaGreatDoor
