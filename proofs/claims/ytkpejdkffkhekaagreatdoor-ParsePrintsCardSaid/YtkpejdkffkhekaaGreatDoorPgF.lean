/- The document's word on how tightly a sign binds. Conditions: none. -/
import Derived.Test.YtkpejdkffkhekaaGreatDoorPgM
import Derived.Test.YtkpejdkffkhekaaGreatDoorTx
set_option maxRecDepth 100000
namespace Go.Proofs.YtkpejdkffkhekaaGreatDoor
open Go.ChangeShapes Go.WideShapes Go.ChangeAt Go.RowKit
def rowTxt : List (List UInt8) := [[124, 124], [38, 38], [61, 61, 32, 33, 61, 32, 60, 32, 60, 61, 32, 62, 32, 62, 61], [43, 32, 45, 32, 124, 32, 94], [42, 32, 47, 32, 37, 32, 60, 60, 32, 62, 62, 32, 38]]
def wss : List (List (List UInt8)) := [[[124, 124]], [[38, 38]], [[61, 61], [33, 61], [60], [60, 61], [62], [62, 61]], [[43], [45], [124], [94]], [[42], [47], [37], [60, 60], [62, 62], [38]]]
theorem rows_cut : cutG 59 (ByteArray.mk #[124, 124, 59, 38, 38, 59, 61, 61, 32, 33, 61, 32, 60, 32, 60, 61, 32, 62, 32, 62, 61, 59, 43, 32, 45, 32, 124, 32, 94, 59, 42, 32, 47, 32, 37, 32, 60, 60, 32, 62, 62, 32, 38]).data.toList [] = rowTxt := by decide +kernel
theorem row_cut (k : Nat) (h : k < 5) : cutG 32 (rowTxt.getD k []) [] = wss.getD k [] := by
  have hk : k = 0 ∨ k = 1 ∨ k = 2 ∨ k = 3 ∨ k = 4 := by omega
  rcases hk with rfl | rfl | rfl | rfl | rfl <;> decide +kernel
theorem row_size (k : Nat) : (rowTxt.getD k []).length ≤ 20 := by
  by_cases h : k < 5
  · have hk : k = 0 ∨ k = 1 ∨ k = 2 ∨ k = 3 ∨ k = 4 := by omega
    rcases hk with rfl | rfl | rfl | rfl | rfl <;> decide +kernel
  · rw [List.getD_eq_getElem?_getD, List.getElem?_eq_none (show rowTxt.length ≤ k by show 5 ≤ k; omega)]
    simp
theorem lvN_eq (L : List UInt8) : lvN L = if (wss.getD 0 []).any (fun x => L == x) then 1 else if (wss.getD 1 []).any (fun x => L == x) then 2 else if (wss.getD 2 []).any (fun x => L == x) then 3 else if (wss.getD 3 []).any (fun x => L == x) then 4 else if (wss.getD 4 []).any (fun x => L == x) then 5 else 0 := by
  unfold lvN wss
  simp only [List.getD_cons_zero, List.getD_cons_succ, List.any_cons, List.any_nil, Bool.or_false, Bool.or_assoc]
theorem lv_found {L : List UInt8} {k : Nat} (hk : k < 5) (h : ∀ j, j < k → (wss.getD j []).any (fun x => L == x) = false) (h2 : (wss.getD k []).any (fun x => L == x) = true) : lvN L = k + 1 := by
  rw [lvN_eq]
  have hk : k = 0 ∨ k = 1 ∨ k = 2 ∨ k = 3 ∨ k = 4 := by omega
  rcases hk with rfl | rfl | rfl | rfl | rfl
  · rw [h2]; rfl
  · rw [h 0 (by omega), h2]; rfl
  · rw [h 0 (by omega), h 1 (by omega), h2]; rfl
  · rw [h 0 (by omega), h 1 (by omega), h 2 (by omega), h2]; rfl
  · rw [h 0 (by omega), h 1 (by omega), h 2 (by omega), h 3 (by omega), h2]; rfl
theorem lv_none {L : List UInt8} (h : ∀ j, j < 5 → (wss.getD j []).any (fun x => L == x) = false) : lvN L = 0 := by
  rw [lvN_eq, h 0 (by omega), h 1 (by omega), h 2 (by omega), h 3 (by omega), h 4 (by omega)]
  rfl
theorem cutAt_rows (w : World) : Calls Tryz.prog 48 #[.string ⟨#[124, 124, 59, 38, 38, 59, 61, 61, 32, 33, 61, 32, 60, 32, 60, 61, 32, 62, 32, 62, 61, 59, 43, 32, 45, 32, 124, 32, 94, 59, 42, 32, 47, 32, 37, 32, 60, 60, 32, 62, 62, 32, 38]⟩, .int .u8 59] w fun e w' => ∃ g c, e = .returned (.slice (some ⟨g, 0, none⟩) 5 c) ∧ Rd w' w'.heap.size 1 (some ⟨g, 0, none⟩) 5 (strs rowTxt) ∧ Below w.heap.size w w' := by
  have h := cutAt_any ⟨#[124, 124, 59, 38, 38, 59, 61, 61, 32, 33, 61, 32, 60, 32, 60, 61, 32, 62, 32, 62, 61, 59, 43, 32, 45, 32, 124, 32, 94, 59, 42, 32, 47, 32, 37, 32, 60, 60, 32, 62, 62, 32, 38]⟩ 59 59 rfl (by decide +kernel) w
  rw [rows_cut] at h
  refine h.mono ?_
  rintro e w' ⟨A, c, rfl, hown, hb⟩
  obtain ⟨g, cap, hv, _⟩ := hown.form (by decide)
  injection hv with hA _ hc
  subst hA hc
  exact ⟨g, _, rfl, Rd.of_own hown, hb⟩
theorem cutAt_row (k : Nat) (hk : k < 5) (w : World) : Calls Tryz.prog 48 #[.string ⟨(rowTxt.getD k []).toArray⟩, .int .u8 32] w fun e w' => ∃ A c, e = .returned (.slice A (wss.getD k []).length c) ∧ Rd w' w'.heap.size 1 A (wss.getD k []).length (strs (wss.getD k [])) ∧ Below w.heap.size w w' := by
  have h := cutAt_any ⟨(rowTxt.getD k []).toArray⟩ 32 32 rfl (by have := row_size k; show (rowTxt.getD k []).toArray.size ≤ _; rw [List.size_toArray]; omega) w
  rw [show (ByteArray.mk (rowTxt.getD k []).toArray).data.toList = rowTxt.getD k [] by simp, row_cut k hk] at h
  refine h.mono ?_
  rintro e w' ⟨A, c, rfl, hown, hb⟩
  exact ⟨A, c, rfl, Rd.of_own hown, hb⟩
set_option maxHeartbeats 4000000 in
theorem binds_any (s : ByteArray) (w : World) : Calls Tryz.prog 33 #[.string s] w fun e w' => e = .returned (.int .i64 (lvN s.toList : Int)) ∧ Below w.heap.size w w' := by
  go_enter Tryz.func33, Tryz.ntmps33
  go_wp2_with fail
  refine (cutAt_rows _).mono ?_
  rintro e w1 ⟨g, c, rfl, hr, hb⟩
  have HR := Lib.hid hr
  have HB := Lib.hid hb
  have hw1 : w.heap.size ≤ w1.heap.size := hb.size
  clear hr hb
  go_wp2_with fail
  go_loopw [9] (fun i wr => ∃ k : Nat, k ≤ 5 ∧ i = .int .i64 (k : Int) ∧ Hid (∀ j, j < k → (wss.getD j []).any (fun x => s.toList == x) = false) ∧ Hid (Below w1.heap.size w1 wr)) (fun i _ => 5 - (intOf i).toNat)
  case atStart => exact ⟨0, by omega, rfl, Lib.hid (fun j hj => by omega), Lib.hid (Below.refl _ _)⟩
  case round =>
    obtain ⟨k, hk, rfl, HN, HBR⟩ := hrel
    have hwr : w1.heap.size ≤ wr.heap.size := HBR.out.size
    by_cases hlt : k < 5
    · obtain ⟨b, off, u, hA, hbl, hu, hc⟩ := HR.out.at1 hlt
      have hu' := strs_get (W := rowTxt) hlt hu
      injection hA with hA
      injection hA with hA1 hA2
      subst hA1 hA2 hu'
      rw [Nat.zero_add] at hc
      have hc2 := (HBR.out.cell (p := ⟨g, k, none⟩) hbl).trans hc
      clear hu hc
      go_wp2_with fail
      refine (cutAt_row k hlt _).mono ?_
      rintro e w2 ⟨A2, c2, rfl, hr2, hb2⟩
      have HR2 := Lib.hid hr2
      have HB2 := Lib.hid (HBR.out.trans (hb2.mono hwr))
      clear hr2 hb2 hc2
      obtain ⟨n, hn⟩ : ∃ n, n = (wss.getD k []).length := ⟨_, rfl⟩
      rw [← hn] at HR2 ⊢
      have HNN := Lib.hid hn
      have hn6 : n ≤ 6 := by
        rw [hn]
        have hk : k = 0 ∨ k = 1 ∨ k = 2 ∨ k = 3 ∨ k = 4 := by omega
        rcases hk with rfl | rfl | rfl | rfl | rfl <;> decide
      clear hn
      go_wp2_with fail
      go_loop [17] (fun i => ∃ j : Nat, j ≤ n ∧ i = .int .i64 (j : Int) ∧ Hid (((wss.getD k []).take j).any (fun x => s.toList == x) = false)) (fun i => n - (intOf i).toNat)
      case atStart => exact ⟨0, by omega, rfl, rfl⟩
      case round =>
        obtain ⟨j, hj, rfl, hno⟩ := hrel
        by_cases hjn : j < n
        · have hw : j < (wss.getD k []).length := by rw [← HNN.out]; exact hjn
          obtain ⟨b, off, u, hA, _, hu, hc⟩ := HR2.out.at1 hjn
          have hu' := strs_get hw hu
          subst hA hu'
          clear hu
          have hgd : (wss.getD k []).getD j [] = (wss.getD k [])[j] := by rw [List.getD_eq_getElem?_getD, List.getElem?_eq_getElem hw]; rfl
          by_cases ht : (s.toList == (wss.getD k [])[j]) = true
          · have HT : ((ByteArray.mk ((wss.getD k []).getD j []).toArray).toList == s.toList) = true := by rw [toList_mk, hgd, beq_iff_eq]; exact (beq_iff_eq.1 ht).symm
            have HY := Lib.hid (lv_found hlt HN.out (any_yes (wss.getD k []) hw ht))
            clear ht hgd hw
            generalize (ByteArray.mk ((wss.getD k []).getD j []).toArray) = sb at *
            go_wp2_with fail
            go_ret
            exact ⟨by rw [HY.out]; rfl, HB.out.trans (HB2.out.mono hw1)⟩
          · have ht' : (s.toList == (wss.getD k [])[j]) = false := by simpa using ht
            have HT : ((ByteArray.mk ((wss.getD k []).getD j []).toArray).toList == s.toList) = false := by
              rw [toList_mk, hgd]
              rw [beq_eq_false_iff_ne] at ht' ⊢; exact fun e => ht' e.symm
            have HY := Lib.hid (any_take (wss.getD k []) hw hno.out ht')
            clear ht ht' hgd hw
            generalize (ByteArray.mk ((wss.getD k []).getD j []).toArray) = sb at *
            go_wp2_with fail
            go_round
            case rel => exact ⟨j + 1, by omega, by go_num, HY⟩
            case measure => simp [intOf]; omega
        · have HNK := Lib.hid (show ∀ j', j' < k + 1 → (wss.getD j' []).any (fun x => s.toList == x) = false from fun j' hj' => by
            by_cases h : j' < k
            · exact HN.out j' h
            · obtain rfl : j' = k := by omega
              have := hno.out
              rw [List.take_of_length_le (by have := HNN.out; omega)] at this
              exact this)
          go_wp2_with fail
          go_roundw
          case rel => exact ⟨k + 1, by omega, by go_num, HNK, HB2⟩
          case measure => simp [intOf]; omega
    · have hk5 : k = 5 := by omega
      subst hk5
      have HZ := Lib.hid (lv_none HN.out)
      clear hk hlt
      go_wp2_with fail
      go_ret
      exact ⟨by rw [HZ.out]; rfl, HB.out.trans (HBR.out.mono hw1)⟩
end Go.Proofs.YtkpejdkffkhekaaGreatDoor
