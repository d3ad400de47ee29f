/- strings.Cut at a blank: what it answers. Conditions: none. -/
import Derived.Test.YtjegfimagjmpdaaGreatDoorCutLf
set_option maxRecDepth 20000
namespace Go.Proofs.YtjegfimagjmpdaaGreatDoor
open Go.ChangeShapes Go.WideShapes Go.ChangeAt Go.RowKit
theorem index_sp (s : ByteArray) (w : World) : Calls Tryz.prog 33 #[.string s, .string ⟨#[32]⟩] w fun e w' => e = .returned (.int .i64 (Lib.indexByte s.data.toList 32)) ∧ w' = w := by
  by_cases h : s = ⟨#[32]⟩
  · subst h
    go_enter Tryz.func33, Tryz.ntmps33
    go_wp2_with fail
    go_ret
    exact ⟨rfl, rfl⟩
  · have he : ([32] == s.toList) = false := by
      have := ba_eq ⟨#[32]⟩ s
      rw [decide_eq_false (fun e => h e.symm)] at this
      rw [← this, ByteArray.toList_eq ⟨#[32]⟩]
    clear h
    go_enter Tryz.func33, Tryz.ntmps33
    go_wp2_with (go_at_call 35; refine (Tryz.stringslite_IndexByte _ _ _).mono ?_; rintro e w1 ⟨rfl, rfl⟩)
    go_ret
    exact ⟨rfl, rfl⟩
/-- What Cut leaves at a blank. -/
theorem cutSp_no (s : ByteArray) (h : (32 : UInt8) ∉ s.data.toList) (w : World) : Calls Tryz.prog 7 #[.string s, .string ⟨#[32]⟩] w fun e w' => e = .returned (.tuple #[.string s, .string ⟨#[]⟩, .bool false]) ∧ ∃ n, w' = w.drewN n := by
  have h1 := ixb_no h
  clear h
  have HL : Calls Tryz.prog 14 #[.string s, .string ⟨#[32]⟩] w fun e w' => e = .returned (.tuple #[.string s, .string ⟨#[]⟩, .bool false]) ∧ ∃ n, w' = w.drewN n := by
    go_enter Tryz.func14, Tryz.ntmps14
    go_wp2_with fail
    refine (index_sp s _).mono ?_
    rintro e w1 ⟨rfl, rfl⟩
    rw [h1]
    go_wp2_with fail
    go_returns
    exact ⟨rfl, 0, rfl⟩
  have HH := Lib.hid HL
  clear HL h1
  go_enter Tryz.func7, Tryz.ntmps7
  go_wp2_with fail
  refine HH.out.mono ?_
  rintro e w1 ⟨rfl, n, rfl⟩
  go_wp2_with fail
  go_returns
  exact ⟨rfl, n, rfl⟩
theorem cutSp_yes (s : ByteArray) (A B : List UInt8) (hs : s.data.toList = A ++ 32 :: B) (h : (32 : UInt8) ∉ A) (hl : s.size ≤ 140737488351232) (w : World) : Calls Tryz.prog 7 #[.string s, .string ⟨#[32]⟩] w fun e w' => e = .returned (.tuple #[.string ⟨A.toArray⟩, .string ⟨B.toArray⟩, .bool true]) ∧ ∃ n, w' = w.drewN n := by
  have h1 : Lib.indexByte s.data.toList 32 = (A.length : Int) := by rw [hs]; exact ixb_yes h
  have hsz : s.size = A.length + 1 + B.length := by
    have : s.data.toList.length = s.size := by simp
    rw [← this, hs]
    simp
    omega
  have hA : s.extract 0 A.length = ⟨A.toArray⟩ := by rw [extract_list, hs]; simp
  have hB : s.extract (A.length + 1) s.size = ⟨B.toArray⟩ := by
    rw [extract_list, hs, List.take_of_length_le (by simp; omega)]
    have : (A ++ 32 :: B).drop (A.length + 1) = B := by
      rw [List.drop_append, List.drop_of_length_le (by omega)]
      simp
    rw [this]
  generalize hk : A.length = k at *
  have hkl : k ≤ s.size := by omega
  have hkl1 : k + 1 ≤ s.size := by omega
  have HA := Lib.hid hA
  have HB := Lib.hid hB
  clear h hs hsz hk hA hB
  have HL : Calls Tryz.prog 14 #[.string s, .string ⟨#[32]⟩] w fun e w' => e = .returned (.tuple #[.string ⟨A.toArray⟩, .string ⟨B.toArray⟩, .bool true]) ∧ ∃ n, w' = w.drewN n := by
    go_enter Tryz.func14, Tryz.ntmps14
    go_wp2_with fail
    refine (index_sp s _).mono ?_
    rintro e w1 ⟨rfl, rfl⟩
    rw [h1]
    go_wp2_with fail
    go_quiet (fail)
    go_wp2
    go_returns
    exact ⟨by rw [HA.out, HB.out]; rfl, _, rfl⟩
  have HH := Lib.hid HL
  clear HL h1
  go_enter Tryz.func7, Tryz.ntmps7
  go_wp2_with fail
  refine HH.out.mono ?_
  rintro e w1 ⟨rfl, n, rfl⟩
  go_wp2_with fail
  go_returns
  exact ⟨rfl, n, rfl⟩
end Go.Proofs.YtjegfimagjmpdaaGreatDoor
