/- 'types.Valid', 'nilly' and the document's ValidType, mayNil. Conditions: none. -/
import Derived.Test.YtkpejdkffkhekaaGreatDoorTyRef
set_option maxRecDepth 20000
namespace Go.Proofs.YtkpejdkffkhekaaGreatDoor
open Go.ChangeShapes Go.WideShapes Go.ChangeAt Go.RowKit
theorem typeEnd_all : ∀ (f : Nat) (s : ByteArray) (w : World), s.size < f → s.size ≤ 1000 → typeEndC f s w
  | 0, _, _, h, _ => absurd h (by omega)
  | f + 1, s, w, h, hs => typeEnd_any f (fun s w h1 h2 => typeEnd_all f s w h1 h2) s w h hs
theorem size_list (s : ByteArray) : s.toList.length = s.size := by rw [ByteArray.toList_eq]; rfl
theorem empty_iff (s : ByteArray) : (s.toList == []) = decide (s.size = 0) := by
  rw [← size_list, Bool.eq_iff_iff]; simp
theorem tyOk_empty {s : ByteArray} (h : s.size = 0) : tyOk s = false := by
  cases ho : tyAt (s.size + 1) s 0 with
  | none => exact tyOk_none ho
  | some n => have := tyAt_le (by omega) ho; omega
theorem refValid_any (s : ByteArray) (w : World) (hs : s.size ≤ 140737488351232) : Calls Tryz.prog 34 #[.string s] w fun e w' => e = .returned (.bool (tyOk s)) ∧ Below w.heap.size w w' := by
  have he0 := empty_iff s
  by_cases h0 : s.size = 0
  · have HL := Lib.hid (tyOk_empty h0)
    rw [decide_eq_true h0] at he0
    have he1 : s.toList = [] := by simpa using he0
    have he2 : s.toList.isEmpty = true := by simp [he1]
    clear h0
    go_enter Tryz.func34, Tryz.ntmps34
    go_wp2_with fail
    go_ret
    exact ⟨by rw [HL.out]; rfl, Below.refl _ _⟩
  · rw [decide_eq_false h0] at he0
    have he2 : s.toList.isEmpty = false := by
      cases h : s.toList with
      | nil => rw [h] at he0; simp at he0
      | cons _ _ => rfl
    by_cases hl : 100 < s.size
    · have HL := Lib.hid (tyOk_long hl)
      have hd : decide ((s.size : Int) ≤ 100) = false := decide_eq_false (by omega)
      go_enter Tryz.func34, Tryz.ntmps34
      go_wp2_with fail
      go_ret
      exact ⟨by rw [HL.out]; rfl, Below.refl _ _⟩
    · have hd : decide ((s.size : Int) ≤ 100) = true := decide_eq_true (by omega)
      go_enter Tryz.func34, Tryz.ntmps34
      go_wp2_with fail
      refine (typeEnd_all (s.size + 1) s _ (by omega) (by omega)).mono ?_
      rintro e w1 ⟨rfl, hb⟩
      rw [← tyAt_zero]
      cases ho : tyAt (s.size + 1) s 0 with
      | none =>
        have HL := Lib.hid (tyOk_none ho)
        have h0' : ((0 : Int) == (s.size : Int)) = false := beq_eq_false_iff_ne.2 (by omega)
        rw [teV_none rfl]
        clear ho
        go_wp2_with fail
        go_ret
        exact ⟨by rw [HL.out]; rfl, hb⟩
      | some p =>
        have HL := Lib.hid (tyOk_some (by omega) ho)
        rw [teV_some rfl]
        clear ho
        by_cases hp : p = s.size
        · have hpe : ((p : Int) == (s.size : Int)) = true := by simp [hp]
          have HP := Lib.hid hp
          clear hp
          go_wp2_with fail
          go_ret
          exact ⟨by rw [HL.out, decide_eq_true HP.out]; rfl, hb⟩
        · have hpe : ((p : Int) == (s.size : Int)) = false := beq_eq_false_iff_ne.2 (by omega)
          have HP := Lib.hid hp
          clear hp
          go_wp2_with fail
          go_ret
          exact ⟨by rw [HL.out, decide_eq_false HP.out]; rfl, hb⟩
/-- A type is a word, or begins with an f. -/
theorem tyOk_cases {s : ByteArray} (h : tyOk s = true) : (∃ j, j < 6 ∧ s = tw j) ∨ ∃ h : 0 < s.size, s[0] = 102 := by
  unfold tyOk at h
  rw [Bool.and_eq_true, decide_eq_true_iff, decide_eq_true_iff] at h
  obtain ⟨h1, h2⟩ := h
  cases hw : tyWord (s.data.toList.drop 0) with
  | none =>
    rw [tyAt_fn hw] at h2
    unfold fnAt at h2
    cases hb : hasB s 0 ⟨#[102, 117, 110, 99, 40]⟩
    · rw [hb] at h2; cases h2
    · right
      unfold hasB at hb
      rw [List.isPrefixOf_iff_prefix] at hb
      obtain ⟨t, ht⟩ := hb
      have e1 : s.data.toList = 102 :: (117 :: 110 :: 99 :: 40 :: t) := ht.symm
      have hp : 0 < s.size := by show 0 < s.data.toList.length; rw [e1]; simp
      refine ⟨hp, ?_⟩
      have := byl_get s 0 hp
      rw [e1] at this
      simpa using this.symm
  | some n =>
    left
    rw [tyAt_word hw] at h2
    injection h2 with h2
    unfold tyWord at hw
    rw [Option.map_eq_some_iff] at hw
    obtain ⟨v, hv, hn⟩ := hw
    have hm := List.mem_of_find?_eq_some hv
    have hp := List.find?_some hv
    rw [List.drop_zero, List.isPrefixOf_iff_prefix] at hp
    have e1 : v = s.data.toList := hp.eq_of_length (by rw [hn]; show n = s.size; omega)
    obtain ⟨j, hj, hjv⟩ := List.getElem_of_mem hm
    refine ⟨j, hj, ?_⟩
    apply ByteArray.ext
    apply Array.ext'
    rw [tw_list hj, hjv, e1]
theorem tyOk_tw : ∀ j, j < 6 → tyOk (tw j) = true := by decide +kernel
/-- May a variable of the type be nil? -/
def nilB (s : ByteArray) : Bool := tyOk s && !(s.toList == [105, 110, 116]) && !(s.toList == [98, 111, 111, 108]) && !(s.toList == [115, 116, 114, 105, 110, 103])
end Go.Proofs.YtkpejdkffkhekaaGreatDoor
