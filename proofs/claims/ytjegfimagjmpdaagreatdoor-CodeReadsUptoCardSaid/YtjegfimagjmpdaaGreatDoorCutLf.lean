/- strings.Cut at a line's end: what it answers. Conditions: none. -/
import Derived.Test.YtjegfimagjmpdaaGreatDoorPfx
import Derived.Test.YtjegfimagjmpdaaGreatDoorShelf
import Derived.Deep.QuietTactic
import Derived.BigQuiet
set_option maxRecDepth 20000
namespace Go.Proofs.YtjegfimagjmpdaaGreatDoor
open Go.ChangeShapes Go.WideShapes Go.ChangeAt Go.RowKit
theorem ixb_no : ∀ {l : List UInt8} {c : UInt8}, c ∉ l → Lib.indexByte l c = -1
  | [], _, _ => rfl
  | b :: l, c, h => by
    have h1 : (b == c) = false := by simp; rintro rfl; simp at h
    have h2 := ixb_no (l := l) (c := c) (fun hm => h (List.mem_cons_of_mem _ hm))
    simp [Lib.indexByte, h1, h2]
theorem ixb_yes : ∀ {A B : List UInt8} {c : UInt8}, c ∉ A → Lib.indexByte (A ++ c :: B) c = (A.length : Int)
  | [], _, _, _ => by simp [Lib.indexByte]
  | b :: l, B, c, h => by
    have h1 : (b == c) = false := by simp; rintro rfl; simp at h
    have h2 := ixb_yes (A := l) (B := B) (c := c) (fun hm => h (List.mem_cons_of_mem _ hm))
    have h3 : ((l.length : Int) == -1) = false := by rw [beq_eq_false_iff_ne]; omega
    simp [Lib.indexByte, h1, h2, h3]
theorem index_lf (s : ByteArray) (w : World) : Calls Tryz.prog 33 #[.string s, .string ⟨#[10]⟩] w fun e w' => e = .returned (.int .i64 (Lib.indexByte s.data.toList 10)) ∧ w' = w := by
  by_cases h : s = ⟨#[10]⟩
  · subst h
    go_enter Tryz.func33, Tryz.ntmps33
    go_wp2_with fail
    go_ret
    exact ⟨rfl, rfl⟩
  · have he : ([10] == s.toList) = false := by
      have := ba_eq ⟨#[10]⟩ s
      rw [decide_eq_false (fun e => h e.symm)] at this
      rw [← this, ByteArray.toList_eq ⟨#[10]⟩]
    clear h
    go_enter Tryz.func33, Tryz.ntmps33
    go_wp2_with (go_at_call 35; refine (Tryz.stringslite_IndexByte _ _ _).mono ?_; rintro e w1 ⟨rfl, rfl⟩)
    go_ret
    exact ⟨rfl, rfl⟩
/-- What Cut leaves at a line's end. -/
theorem cutLf_no (s : ByteArray) (h : (10 : UInt8) ∉ s.data.toList) (w : World) : Calls Tryz.prog 7 #[.string s, .string ⟨#[10]⟩] w fun e w' => e = .returned (.tuple #[.string s, .string ⟨#[]⟩, .bool false]) ∧ ∃ n, w' = w.drewN n := by
  have h1 := ixb_no h
  clear h
  have HL : Calls Tryz.prog 14 #[.string s, .string ⟨#[10]⟩] w fun e w' => e = .returned (.tuple #[.string s, .string ⟨#[]⟩, .bool false]) ∧ ∃ n, w' = w.drewN n := by
    go_enter Tryz.func14, Tryz.ntmps14
    go_wp2_with fail
    refine (index_lf s _).mono ?_
    rintro e w1 ⟨rfl, rfl⟩
    rw [h1]
    go_wp2_with fail
    go_returns
    exact ⟨rfl, 0, rfl⟩
  have HH := Lib.hid HL
  clear HL h1
  go_enter Tryz.func7, Tryz.ntmps7
  go_wp2_with fail
  refine HH.out.mono ?_
  rintro e w1 ⟨rfl, n, rfl⟩
  go_wp2_with fail
  go_returns
  exact ⟨rfl, n, rfl⟩
theorem cutLf_yes (s : ByteArray) (A B : List UInt8) (hs : s.data.toList = A ++ 10 :: B) (h : (10 : UInt8) ∉ A) (hl : s.size ≤ 140737488351232) (w : World) : Calls Tryz.prog 7 #[.string s, .string ⟨#[10]⟩] w fun e w' => e = .returned (.tuple #[.string ⟨A.toArray⟩, .string ⟨B.toArray⟩, .bool true]) ∧ ∃ n, w' = w.drewN n := by
  have h1 : Lib.indexByte s.data.toList 10 = (A.length : Int) := by rw [hs]; exact ixb_yes h
  have hsz : s.size = A.length + 1 + B.length := by
    have : s.data.toList.length = s.size := by simp
    rw [← this, hs]
    simp
    omega
  have hA : s.extract 0 A.length = ⟨A.toArray⟩ := by rw [extract_list, hs]; simp
  have hB : s.extract (A.length + 1) s.size = ⟨B.toArray⟩ := by
    rw [extract_list, hs, List.take_of_length_le (by simp; omega)]
    have : (A ++ 10 :: B).drop (A.length + 1) = B := by
      rw [List.drop_append, List.drop_of_length_le (by omega)]
      simp
    rw [this]
  generalize hk : A.length = k at *
  have hkl : k ≤ s.size := by omega
  have hkl1 : k + 1 ≤ s.size := by omega
  have HA := Lib.hid hA
  have HB := Lib.hid hB
  clear h hs hsz hk hA hB
  have HL : Calls Tryz.prog 14 #[.string s, .string ⟨#[10]⟩] w fun e w' => e = .returned (.tuple #[.string ⟨A.toArray⟩, .string ⟨B.toArray⟩, .bool true]) ∧ ∃ n, w' = w.drewN n := by
    go_enter Tryz.func14, Tryz.ntmps14
    go_wp2_with fail
    refine (index_lf s _).mono ?_
    rintro e w1 ⟨rfl, rfl⟩
    rw [h1]
    go_wp2_with fail
    go_quiet (fail)
    go_wp2
    go_returns
    exact ⟨by rw [HA.out, HB.out]; rfl, _, rfl⟩
  have HH := Lib.hid HL
  clear HL h1
  go_enter Tryz.func7, Tryz.ntmps7
  go_wp2_with fail
  refine HH.out.mono ?_
  rintro e w1 ⟨rfl, n, rfl⟩
  go_wp2_with fail
  go_returns
  exact ⟨rfl, n, rfl⟩
end Go.Proofs.YtjegfimagjmpdaaGreatDoor
