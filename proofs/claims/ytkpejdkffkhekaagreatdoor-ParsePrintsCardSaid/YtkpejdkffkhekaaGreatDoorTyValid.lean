/- 'types.Valid' tells whether a text is a type. Conditions: none. -/
import Derived.Test.YtkpejdkffkhekaaGreatDoorTyFun
set_option maxRecDepth 20000
namespace Go.Proofs.YtkpejdkffkhekaaGreatDoor
open Go.ChangeShapes Go.WideShapes Go.ChangeAt Go.RowKit
theorem one_all (g : Nat) (S : ByteArray) (hS : S.size ≤ 1000) : ∀ (f k : Nat) (w : World), S.size - k < f → k ≤ S.size → Rdr w g S k → Calls Tryz.prog 60 #[.pointer (some ⟨g, 0, none⟩)] w (OneP (tyAt f S k) g S w)
  | 0, _, _, h, _, _ => absurd h (by omega)
  | f + 1, k, w, h, hk, hr => tyOne_any f g k S hS hk (fun w hr => fun_any f g S hS (fun k w h1 h2 h3 => one_all g S hS f k w h1 h2 h3) k hk (by omega) w hr) w hr
def tyOk (s : ByteArray) : Bool := decide (s.size ≤ 100) && decide (tyAt (s.size + 1) s 0 = some s.size)
theorem tyOk_long {s : ByteArray} (h : 100 < s.size) : tyOk s = false := by
  unfold tyOk
  rw [decide_eq_false (by omega)]; rfl
theorem tyOk_none {s : ByteArray} (h : tyAt (s.size + 1) s 0 = none) : tyOk s = false := by
  unfold tyOk
  rw [h]; simp
theorem tyOk_some {s : ByteArray} {p : Nat} (hl : s.size ≤ 100) (h : tyAt (s.size + 1) s 0 = some p) : tyOk s = decide (p = s.size) := by
  unfold tyOk
  rw [h, decide_eq_true hl]; simp
theorem rdr_new (w : World) (s : ByteArray) (t : TypeId) : Rdr (w.alloc (.cells #[.string s, .int .i64 0] t)) w.heap.size s 0 := by
  refine ⟨?_, ?_, ?_, ?_⟩ <;> simp
theorem typesValid_any (s : ByteArray) (w : World) (hs : s.size ≤ 140737488351232) : Calls Tryz.prog 40 #[.string s] w fun e w' => e = .returned (.bool (tyOk s)) ∧ Below w.heap.size w w' := by
  by_cases hl : 100 < s.size
  · have HL := Lib.hid (tyOk_long hl)
    go_enter Tryz.func40, Tryz.ntmps40
    go_wp2_with fail
    go_ret
    exact ⟨by rw [HL.out]; rfl, Below.refl _ _⟩
  · go_enter Tryz.func40, Tryz.ntmps40
    go_wp2_with fail
    refine (one_all w.heap.size s (by omega) (s.size + 1) 0 _ (by omega) (by omega) (rdr_new w s _)).mono ?_
    rintro e w1 h1
    rcases h1 with ⟨p, p1, rfl, p3, p4⟩ | ⟨p1, rfl, p4⟩
    · have P1 := Lib.hid (tyOk_some (by omega) p1)
      obtain ⟨q0, q1, _, _⟩ := p3
      have hB : Below w.heap.size w w1 := (al _).grown p4 (by simp) (by rintro k e; injection e with e; omega)
      have HB := Lib.hid hB
      clear p1 p4 hB
      by_cases hp : p = s.size
      · have hpe : ((p : Int) == (s.size : Int)) = true := by simp [hp]
        have HP := Lib.hid hp
        clear hp
        go_wp2_with fail
        go_ret
        exact ⟨by rw [P1.out, decide_eq_true HP.out]; rfl, HB.out⟩
      · have hpe : ((p : Int) == (s.size : Int)) = false := beq_eq_false_iff_ne.2 (by omega)
        have HP := Lib.hid hp
        clear hp
        go_wp2_with fail
        go_ret
        exact ⟨by rw [P1.out, decide_eq_false HP.out]; rfl, HB.out⟩
    · have P1 := Lib.hid (tyOk_none p1)
      have hB : Below w.heap.size w w1 := (al _).grown p4 (by simp) (by rintro k e; injection e with e; omega)
      have HB := Lib.hid hB
      clear p1 p4 hB
      go_wp2_with fail
      go_ret
      exact ⟨by rw [P1.out]; rfl, HB.out⟩
end Go.Proofs.YtkpejdkffkhekaaGreatDoor
