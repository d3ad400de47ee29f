/- 'fault.Text' and the document's FaultText answer alike. Conditions: none. -/
import Derived.Test.YtgjhjojbaieeaaaDoorDecimal
import Derived.Test.YtgjhjojbaieeaaaDoorFault0
import Derived.Deep.RegionHeld3
import Derived.Deep.QuietTactic
import Derived.BigQuiet
set_option maxRecDepth 20000
namespace Go.Proofs.YtgjhjojbaieeaaaDoor
open Go.ChangeShapes Go.WideShapes Go.ChangeAt Go.RowKit
theorem decS_size (n : Int) (h : -9223372036854775808 ≤ n ∧ n ≤ 9223372036854775807) : (decS n).size ≤ 20 := by
  unfold decS
  rw [strOf_len]
  exact decL_len h
def In64 (n : Int) : Prop := -9223372036854775808 ≤ n ∧ n ≤ 9223372036854775807
theorem wordText_in (n : Int) (h : In64 n) (w : World) : Calls Tryd.prog 12 #[.int .i64 n] w fun e w' => e = .returned (.string (decS n)) ∧ Below w.heap.size w w' := wordText_any n h w
theorem refDecimal_in (n : Int) (h : In64 n) (w : World) : Calls Tryd.prog 16 #[.int .i64 n] w fun e w' => e = .returned (.string (decS n)) ∧ Below w.heap.size w w' := refDecimal_any n h w
def boundsS (lo hi n : Int) : ByteArray := if hi < 0 ∨ n < hi then (⟨#[114, 117, 110, 116, 105, 109, 101, 32, 101, 114, 114, 111, 114, 58, 32, 115, 108, 105, 99, 101, 32, 98, 111, 117, 110, 100, 115, 32, 111, 117, 116, 32, 111, 102, 32, 114, 97, 110, 103, 101, 32, 91]⟩ : ByteArray) ++ (⟨#[58]⟩ : ByteArray) ++ decS hi ++ (⟨#[93, 32, 119, 105, 116, 104, 32, 108, 101, 110, 103, 116, 104, 32]⟩ : ByteArray) ++ decS n else if hi < lo then (⟨#[114, 117, 110, 116, 105, 109, 101, 32, 101, 114, 114, 111, 114, 58, 32, 115, 108, 105, 99, 101, 32, 98, 111, 117, 110, 100, 115, 32, 111, 117, 116, 32, 111, 102, 32, 114, 97, 110, 103, 101, 32, 91]⟩ : ByteArray) ++ decS lo ++ (⟨#[58]⟩ : ByteArray) ++ decS hi ++ (⟨#[93]⟩ : ByteArray) else if lo < 0 then (⟨#[114, 117, 110, 116, 105, 109, 101, 32, 101, 114, 114, 111, 114, 58, 32, 115, 108, 105, 99, 101, 32, 98, 111, 117, 110, 100, 115, 32, 111, 117, 116, 32, 111, 102, 32, 114, 97, 110, 103, 101, 32, 91]⟩ : ByteArray) ++ decS lo ++ (⟨#[58, 93]⟩ : ByteArray) else ⟨#[]⟩
def fixedS (k : Int) : ByteArray := if k = 2 then (⟨#[114, 117, 110, 116, 105, 109, 101, 32, 101, 114, 114, 111, 114, 58, 32, 105, 110, 116, 101, 103, 101, 114, 32, 100, 105, 118, 105, 100, 101, 32, 98, 121, 32, 122, 101, 114, 111]⟩ : ByteArray) else if k = 3 then (⟨#[114, 117, 110, 116, 105, 109, 101, 32, 101, 114, 114, 111, 114, 58, 32, 110, 101, 103, 97, 116, 105, 118, 101, 32, 115, 104, 105, 102, 116, 32, 97, 109, 111, 117, 110, 116]⟩ : ByteArray) else if k = 4 then (⟨#[114, 117, 110, 116, 105, 109, 101, 32, 101, 114, 114, 111, 114, 58, 32, 105, 110, 118, 97, 108, 105, 100, 32, 109, 101, 109, 111, 114, 121, 32, 97, 100, 100, 114, 101, 115, 115, 32, 111, 114, 32, 110, 105, 108, 32, 112, 111, 105, 110, 116, 101, 114, 32, 100, 101, 114, 101, 102, 101, 114, 101, 110, 99, 101]⟩ : ByteArray) else if k = 6 then (⟨#[114, 117, 110, 116, 105, 109, 101, 32, 101, 114, 114, 111, 114, 58, 32, 110, 111, 32, 105, 110, 116, 32, 105, 110, 32, 97, 110, 121]⟩ : ByteArray) else if k = 8 then (⟨#[114, 117, 110, 116, 105, 109, 101, 32, 101, 114, 114, 111, 114, 58, 32, 112, 97, 110, 105, 99, 32, 99, 97, 108, 108, 101, 100, 32, 119, 105, 116, 104, 32, 110, 105, 108]⟩ : ByteArray) else ⟨#[]⟩
def faultS (k a b c : Int) : ByteArray := if k = 1 then (⟨#[114, 117, 110, 116, 105, 109, 101, 32, 101, 114, 114, 111, 114, 58, 32, 105, 110, 100, 101, 120, 32, 111, 117, 116, 32, 111, 102, 32, 114, 97, 110, 103, 101, 32, 91]⟩ : ByteArray) ++ decS a ++ (⟨#[93, 32, 119, 105, 116, 104, 32, 108, 101, 110, 103, 116, 104, 32]⟩ : ByteArray) ++ decS b else if k = 5 then boundsS a b c else if k = 7 then (⟨#[114, 117, 110, 116, 105, 109, 101, 32, 101, 114, 114, 111, 114, 58, 32, 108, 101, 110, 103, 116, 104, 32]⟩ : ByteArray) ++ decS a ++ (⟨#[32, 105, 115, 32, 97, 98, 111, 118, 101, 32]⟩ : ByteArray) ++ decS b else fixedS k
set_option maxHeartbeats 1000000 in
theorem faultBounds_text (lo hi n : Int) (hlo : In64 lo) (hhi : In64 hi) (hn : In64 n) (w : World) : Calls Tryd.prog 13 #[.int .i64 lo, .int .i64 hi, .int .i64 n] w fun e w' => e = .returned (.string (boundsS lo hi n)) ∧ Below w.heap.size w w' := by
  have zlo := decS_size lo hlo
  have zhi := decS_size hi hhi
  have zn := decS_size n hn
  by_cases h1 : hi < 0 ∨ n < hi
  · have HV := Lib.hid (show boundsS lo hi n = _ by unfold boundsS; rw [if_pos h1])
    rcases h1 with h1 | h1
    · go_enter Tryd.func13, Tryd.ntmps13
      go_wp2_with fail
      refine (wordText_any hi hhi _).mono ?_
      rintro e w0 ⟨rfl, b0⟩
      go_wp2_with fail
      refine (wordText_any n hn _).mono ?_
      rintro e w1 ⟨rfl, b1⟩
      go_wp2_with fail
      go_ret
      exact ⟨by rw [HV.out]; rfl, sq b0 b1⟩
    · by_cases h0 : hi < 0
      · go_enter Tryd.func13, Tryd.ntmps13
        go_wp2_with fail
        refine (wordText_any hi hhi _).mono ?_
        rintro e w0 ⟨rfl, b0⟩
        go_wp2_with fail
        refine (wordText_any n hn _).mono ?_
        rintro e w1 ⟨rfl, b1⟩
        go_wp2_with fail
        go_ret
        exact ⟨by rw [HV.out]; rfl, sq b0 b1⟩
      · go_enter Tryd.func13, Tryd.ntmps13
        go_wp2_with fail
        refine (wordText_any hi hhi _).mono ?_
        rintro e w0 ⟨rfl, b0⟩
        go_wp2_with fail
        refine (wordText_any n hn _).mono ?_
        rintro e w1 ⟨rfl, b1⟩
        go_wp2_with fail
        go_ret
        exact ⟨by rw [HV.out]; rfl, sq b0 b1⟩
  · by_cases h2 : hi < lo
    · have HV := Lib.hid (show boundsS lo hi n = _ by unfold boundsS; rw [if_neg h1, if_pos h2])
      go_enter Tryd.func13, Tryd.ntmps13
      go_wp2_with fail
      refine (wordText_any lo hlo _).mono ?_
      rintro e w0 ⟨rfl, b0⟩
      go_wp2_with fail
      refine (wordText_any hi hhi _).mono ?_
      rintro e w1 ⟨rfl, b1⟩
      go_wp2_with fail
      go_ret
      exact ⟨by rw [HV.out]; rfl, sq b0 b1⟩
    · by_cases h3 : lo < 0
      · have HV := Lib.hid (show boundsS lo hi n = _ by unfold boundsS; rw [if_neg h1, if_neg h2, if_pos h3])
        go_enter Tryd.func13, Tryd.ntmps13
        go_wp2_with fail
        refine (wordText_any lo hlo _).mono ?_
        rintro e w0 ⟨rfl, b0⟩
        go_wp2_with fail
        go_ret
        exact ⟨by rw [HV.out]; rfl, b0⟩
      · have HV := Lib.hid (show boundsS lo hi n = _ by unfold boundsS; rw [if_neg h1, if_neg h2, if_neg h3])
        go_enter Tryd.func13, Tryd.ntmps13
        go_wp2_with fail
        go_ret
        exact ⟨by rw [HV.out]; rfl, Below.refl _ _⟩
theorem faultFixed_any (k : Int) (w : World) : Calls Tryd.prog 11 #[.int .i64 k] w fun e w' => e = .returned (.string (fixedS k)) ∧ w = w' := by
  by_cases h2 : k = 2
  · subst h2
    have HV := Lib.hid (show fixedS 2 = _ by unfold fixedS; simp only [if_pos, reduceIte, Int.reduceEq]; rfl)
    go_enter Tryd.func11, Tryd.ntmps11
    go_wp2
    go_ret
    exact ⟨by rw [HV.out]; rfl, rfl⟩
  · skip
    by_cases h3 : k = 3
    · subst h3
      have HV := Lib.hid (show fixedS 3 = _ by unfold fixedS; simp only [if_pos, reduceIte, Int.reduceEq]; rfl)
      go_enter Tryd.func11, Tryd.ntmps11
      go_wp2
      go_ret
      exact ⟨by rw [HV.out]; rfl, rfl⟩
    · skip
      by_cases h4 : k = 4
      · subst h4
        have HV := Lib.hid (show fixedS 4 = _ by unfold fixedS; simp only [if_pos, reduceIte, Int.reduceEq]; rfl)
        go_enter Tryd.func11, Tryd.ntmps11
        go_wp2
        go_ret
        exact ⟨by rw [HV.out]; rfl, rfl⟩
      · skip
        by_cases h6 : k = 6
        · subst h6
          have HV := Lib.hid (show fixedS 6 = _ by unfold fixedS; simp only [if_pos, reduceIte, Int.reduceEq]; rfl)
          go_enter Tryd.func11, Tryd.ntmps11
          go_wp2
          go_ret
          exact ⟨by rw [HV.out]; rfl, rfl⟩
        · skip
          by_cases h8 : k = 8
          · subst h8
            have HV := Lib.hid (show fixedS 8 = _ by unfold fixedS; simp only [if_pos, reduceIte, Int.reduceEq]; rfl)
            go_enter Tryd.func11, Tryd.ntmps11
            go_wp2
            go_ret
            exact ⟨by rw [HV.out]; rfl, rfl⟩
          · have HV := Lib.hid (show fixedS k = ⟨#[]⟩ by unfold fixedS; simp only [h2, h3, h4, h6, h8, if_false])
            have e2 : (k == 2) = false := by simp [h2]
            have e3 : (k == 3) = false := by simp [h3]
            have e4 : (k == 4) = false := by simp [h4]
            have e6 : (k == 6) = false := by simp [h6]
            have e8 : (k == 8) = false := by simp [h8]
            go_enter Tryd.func11, Tryd.ntmps11
            go_wp2
            go_ret
            exact ⟨by rw [HV.out]; rfl, rfl⟩
set_option maxHeartbeats 2000000 in
theorem faultText_any (k a b c : Int) (ha : In64 a) (hb : In64 b) (hc : In64 c) (w : World) : Calls Tryd.prog 7 #[f4 k a b c] w fun e w' => e = .returned (.string (faultS k a b c)) ∧ Below w.heap.size w w' := by
  have za := decS_size a ha
  have zb := decS_size b hb
  unfold f4
  by_cases h1 : k = 1
  · subst h1
    have HV := Lib.hid (show faultS 1 a b c = _ by unfold faultS; simp only [if_pos, reduceIte, Int.reduceEq]; rfl)
    have n1 : ¬ 9223372036854775807 < 35 + (decS a).size := by omega
    have n2 : ¬ 9223372036854775807 < 35 + (decS a).size + 14 := by omega
    have n3 : ¬ 9223372036854775807 < 35 + (decS a).size + 14 + (decS b).size := by omega
    go_enter Tryd.func7, Tryd.ntmps7
    go_wp2_with fail
    generalize hW : w.alloc (Obj.cells #[Value.int .i64 1, Value.int .i64 a, Value.int .i64 b, Value.int .i64 c] 23) = W
    have hWb : Below w.heap.size w W := by rw [← hW]; exact al _
    have hWs : W.heap.size = w.heap.size + 1 := by rw [← hW]; simp
    have hg : w.heap.size < W.heap.size := by omega
    have hI : W.cell? ⟨w.heap.size, 0, none⟩ = some (.int .i64 1) ∧ W.cell? ⟨w.heap.size, 1, none⟩ = some (.int .i64 a) ∧ W.cell? ⟨w.heap.size, 2, none⟩ = some (.int .i64 b) ∧ W.cell? ⟨w.heap.size, 3, none⟩ = some (.int .i64 c) ∧ Below W.heap.size W W := by
      rw [← hW]; simp; exact Below.refl _ _
    clear hW hWs
    have hId : W.drew.cell? ⟨w.heap.size, 0, none⟩ = some (.int .i64 1) ∧ W.drew.cell? ⟨w.heap.size, 1, none⟩ = some (.int .i64 a) ∧ W.drew.cell? ⟨w.heap.size, 2, none⟩ = some (.int .i64 b) ∧ W.drew.cell? ⟨w.heap.size, 3, none⟩ = some (.int .i64 c) ∧ Below W.heap.size W W.drew :=
      ⟨hI.1, hI.2.1, hI.2.2.1, hI.2.2.2.1, hI.2.2.2.2.drew⟩
    go_region_held3 (fun w' => w'.cell? ⟨w.heap.size, 0, none⟩ = some (.int .i64 1) ∧ w'.cell? ⟨w.heap.size, 1, none⟩ = some (.int .i64 a) ∧ w'.cell? ⟨w.heap.size, 2, none⟩ = some (.int .i64 b) ∧ w'.cell? ⟨w.heap.size, 3, none⟩ = some (.int .i64 c) ∧ Below W.heap.size W w')
      (first | exact hId | exact held_stay hg (by assumption) (by assumption))
      (first
        | (go_at_call 12; refine (wordText_in _ (by with_reducible assumption) _).mono ?_; rintro e w1 ⟨rfl, b1⟩))
    go_wp2
    go_ret
    exact ⟨by rw [HV.out]; rfl, sq hWb (last5 (by assumption))⟩
  by_cases h5 : k = 5
  · subst h5
    have HV := Lib.hid (show faultS 5 a b c = _ by unfold faultS; simp only [if_pos, reduceIte, Int.reduceEq]; rfl)
    go_enter Tryd.func7, Tryd.ntmps7
    go_wp2_with fail
    refine (faultBounds_text a b c ha hb hc _).mono ?_
    rintro e w1 ⟨rfl, b1⟩
    go_wp2_with fail
    go_ret
    exact ⟨by rw [HV.out]; rfl, sq (al _) b1⟩
  by_cases h7 : k = 7
  · subst h7
    have HV := Lib.hid (show faultS 7 a b c = _ by unfold faultS; simp only [if_pos, reduceIte, Int.reduceEq]; rfl)
    have n1 : ¬ 9223372036854775807 < 22 + (decS a).size := by omega
    have n2 : ¬ 9223372036854775807 < 22 + (decS a).size + 10 := by omega
    have n3 : ¬ 9223372036854775807 < 22 + (decS a).size + 10 + (decS b).size := by omega
    go_enter Tryd.func7, Tryd.ntmps7
    go_wp2_with fail
    generalize hW : w.alloc (Obj.cells #[Value.int .i64 7, Value.int .i64 a, Value.int .i64 b, Value.int .i64 c] 23) = W
    have hWb : Below w.heap.size w W := by rw [← hW]; exact al _
    have hWs : W.heap.size = w.heap.size + 1 := by rw [← hW]; simp
    have hg : w.heap.size < W.heap.size := by omega
    have hI : W.cell? ⟨w.heap.size, 0, none⟩ = some (.int .i64 7) ∧ W.cell? ⟨w.heap.size, 1, none⟩ = some (.int .i64 a) ∧ W.cell? ⟨w.heap.size, 2, none⟩ = some (.int .i64 b) ∧ W.cell? ⟨w.heap.size, 3, none⟩ = some (.int .i64 c) ∧ Below W.heap.size W W := by
      rw [← hW]; simp; exact Below.refl _ _
    clear hW hWs
    have hId : W.drew.cell? ⟨w.heap.size, 0, none⟩ = some (.int .i64 7) ∧ W.drew.cell? ⟨w.heap.size, 1, none⟩ = some (.int .i64 a) ∧ W.drew.cell? ⟨w.heap.size, 2, none⟩ = some (.int .i64 b) ∧ W.drew.cell? ⟨w.heap.size, 3, none⟩ = some (.int .i64 c) ∧ Below W.heap.size W W.drew :=
      ⟨hI.1, hI.2.1, hI.2.2.1, hI.2.2.2.1, hI.2.2.2.2.drew⟩
    go_region_held3 (fun w' => w'.cell? ⟨w.heap.size, 0, none⟩ = some (.int .i64 7) ∧ w'.cell? ⟨w.heap.size, 1, none⟩ = some (.int .i64 a) ∧ w'.cell? ⟨w.heap.size, 2, none⟩ = some (.int .i64 b) ∧ w'.cell? ⟨w.heap.size, 3, none⟩ = some (.int .i64 c) ∧ Below W.heap.size W w')
      (first | exact hId | exact held_stay hg (by assumption) (by assumption))
      (first
        | (go_at_call 12; refine (wordText_in _ (by with_reducible assumption) _).mono ?_; rintro e w1 ⟨rfl, b1⟩))
    go_wp2
    go_ret
    exact ⟨by rw [HV.out]; rfl, sq hWb (last5 (by assumption))⟩
  · have HV := Lib.hid (show faultS k a b c = fixedS k by unfold faultS; simp only [h1, h5, h7, if_false])
    have e1 : (k == 1) = false := by simp [h1]
    have e5 : (k == 5) = false := by simp [h5]
    have e7 : (k == 7) = false := by simp [h7]
    go_enter Tryd.func7, Tryd.ntmps7
    go_wp2_with fail
    refine (faultFixed_any k _).mono ?_
    rintro e w1 ⟨rfl, rfl⟩
    go_wp2_with fail
    go_ret
    exact ⟨by rw [HV.out]; rfl, al _⟩
theorem app4 (h x y a b : ByteArray) : h ++ (x ++ a ++ y ++ b) = (h ++ x) ++ a ++ y ++ b := by simp only [ByteArray.append_assoc]
set_option maxHeartbeats 4000000 in
theorem refFaultText_any (k a b c : Int) (ha : In64 a) (hb : In64 b) (hc : In64 c) (w : World) : Calls Tryd.prog 9 #[f4 k a b c] w fun e w' => e = .returned (.string (faultS k a b c)) ∧ Below w.heap.size w w' := by
  have za := decS_size a ha
  have zb := decS_size b hb
  have zc := decS_size c hc
  unfold f4
  by_cases h1 : k = 1
  · subst h1
    have HV := Lib.hid (show (⟨#[114, 117, 110, 116, 105, 109, 101, 32, 101, 114, 114, 111, 114, 58, 32]⟩ : ByteArray) ++ ((⟨#[105, 110, 100, 101, 120, 32, 111, 117, 116, 32, 111, 102, 32, 114, 97, 110, 103, 101, 32, 91]⟩ : ByteArray) ++ decS a ++ (⟨#[93, 32, 119, 105, 116, 104, 32, 108, 101, 110, 103, 116, 104, 32]⟩ : ByteArray) ++ decS b) = faultS 1 a b c by unfold faultS; simp only [if_pos, reduceIte, Int.reduceEq]; rw [app4]; rfl)
    have n1 : ¬ 9223372036854775807 < 20 + (decS a).size := by omega
    have n2 : ¬ 9223372036854775807 < 20 + (decS a).size + 14 := by omega
    have n3 : ¬ 9223372036854775807 < 20 + (decS a).size + 14 + (decS b).size := by omega
    go_enter Tryd.func9, Tryd.ntmps9
    go_wp2_with fail
    generalize hW : w.alloc (Obj.cells #[Value.int .i64 1, Value.int .i64 a, Value.int .i64 b, Value.int .i64 c] 23) = W
    have hWb : Below w.heap.size w W := by rw [← hW]; exact al _
    have hWs : W.heap.size = w.heap.size + 1 := by rw [← hW]; simp
    have hg : w.heap.size < W.heap.size := by omega
    have hI : W.cell? ⟨w.heap.size, 0, none⟩ = some (.int .i64 1) ∧ W.cell? ⟨w.heap.size, 1, none⟩ = some (.int .i64 a) ∧ W.cell? ⟨w.heap.size, 2, none⟩ = some (.int .i64 b) ∧ W.cell? ⟨w.heap.size, 3, none⟩ = some (.int .i64 c) ∧ Below W.heap.size W W := by
      rw [← hW]; simp; exact Below.refl _ _
    clear hW hWs
    have hId : W.drew.cell? ⟨w.heap.size, 0, none⟩ = some (.int .i64 1) ∧ W.drew.cell? ⟨w.heap.size, 1, none⟩ = some (.int .i64 a) ∧ W.drew.cell? ⟨w.heap.size, 2, none⟩ = some (.int .i64 b) ∧ W.drew.cell? ⟨w.heap.size, 3, none⟩ = some (.int .i64 c) ∧ Below W.heap.size W W.drew :=
      ⟨hI.1, hI.2.1, hI.2.2.1, hI.2.2.2.1, hI.2.2.2.2.drew⟩
    go_region_held3 (fun w' => w'.cell? ⟨w.heap.size, 0, none⟩ = some (.int .i64 1) ∧ w'.cell? ⟨w.heap.size, 1, none⟩ = some (.int .i64 a) ∧ w'.cell? ⟨w.heap.size, 2, none⟩ = some (.int .i64 b) ∧ w'.cell? ⟨w.heap.size, 3, none⟩ = some (.int .i64 c) ∧ Below W.heap.size W w')
      (first | exact hId | exact held_stay hg (by assumption) (by assumption))
      (first
        | (go_at_call 16; refine (refDecimal_in _ (by with_reducible assumption) _).mono ?_; rintro e w1 ⟨rfl, b1⟩))
    go_wp2
    go_ret
    exact ⟨by rw [← HV.out]; rfl, sq hWb (last5 (by assumption))⟩
  by_cases h7 : k = 7
  · subst h7
    have HV := Lib.hid (show (⟨#[114, 117, 110, 116, 105, 109, 101, 32, 101, 114, 114, 111, 114, 58, 32]⟩ : ByteArray) ++ ((⟨#[108, 101, 110, 103, 116, 104, 32]⟩ : ByteArray) ++ decS a ++ (⟨#[32, 105, 115, 32, 97, 98, 111, 118, 101, 32]⟩ : ByteArray) ++ decS b) = faultS 7 a b c by unfold faultS; simp only [if_pos, reduceIte, Int.reduceEq]; rw [app4]; rfl)
    have n1 : ¬ 9223372036854775807 < 7 + (decS a).size := by omega
    have n2 : ¬ 9223372036854775807 < 7 + (decS a).size + 10 := by omega
    have n3 : ¬ 9223372036854775807 < 7 + (decS a).size + 10 + (decS b).size := by omega
    go_enter Tryd.func9, Tryd.ntmps9
    go_wp2_with fail
    generalize hW : w.alloc (Obj.cells #[Value.int .i64 7, Value.int .i64 a, Value.int .i64 b, Value.int .i64 c] 23) = W
    have hWb : Below w.heap.size w W := by rw [← hW]; exact al _
    have hWs : W.heap.size = w.heap.size + 1 := by rw [← hW]; simp
    have hg : w.heap.size < W.heap.size := by omega
    have hI : W.cell? ⟨w.heap.size, 0, none⟩ = some (.int .i64 7) ∧ W.cell? ⟨w.heap.size, 1, none⟩ = some (.int .i64 a) ∧ W.cell? ⟨w.heap.size, 2, none⟩ = some (.int .i64 b) ∧ W.cell? ⟨w.heap.size, 3, none⟩ = some (.int .i64 c) ∧ Below W.heap.size W W := by
      rw [← hW]; simp; exact Below.refl _ _
    clear hW hWs
    have hId : W.drew.cell? ⟨w.heap.size, 0, none⟩ = some (.int .i64 7) ∧ W.drew.cell? ⟨w.heap.size, 1, none⟩ = some (.int .i64 a) ∧ W.drew.cell? ⟨w.heap.size, 2, none⟩ = some (.int .i64 b) ∧ W.drew.cell? ⟨w.heap.size, 3, none⟩ = some (.int .i64 c) ∧ Below W.heap.size W W.drew :=
      ⟨hI.1, hI.2.1, hI.2.2.1, hI.2.2.2.1, hI.2.2.2.2.drew⟩
    go_region_held3 (fun w' => w'.cell? ⟨w.heap.size, 0, none⟩ = some (.int .i64 7) ∧ w'.cell? ⟨w.heap.size, 1, none⟩ = some (.int .i64 a) ∧ w'.cell? ⟨w.heap.size, 2, none⟩ = some (.int .i64 b) ∧ w'.cell? ⟨w.heap.size, 3, none⟩ = some (.int .i64 c) ∧ Below W.heap.size W w')
      (first | exact hId | exact held_stay hg (by assumption) (by assumption))
      (first
        | (go_at_call 16; refine (refDecimal_in _ (by with_reducible assumption) _).mono ?_; rintro e w1 ⟨rfl, b1⟩))
    go_wp2
    go_ret
    exact ⟨by rw [← HV.out]; rfl, sq hWb (last5 (by assumption))⟩
  by_cases h2 : k = 2
  · subst h2
    have HV := Lib.hid (show (⟨#[114, 117, 110, 116, 105, 109, 101, 32, 101, 114, 114, 111, 114, 58, 32]⟩ : ByteArray) ++ (⟨#[105, 110, 116, 101, 103, 101, 114, 32, 100, 105, 118, 105, 100, 101, 32, 98, 121, 32, 122, 101, 114, 111]⟩ : ByteArray) = faultS 2 a b c by unfold faultS fixedS; simp only [if_pos, reduceIte, Int.reduceEq]; rfl)
    go_enter Tryd.func9, Tryd.ntmps9
    go_wp2
    go_ret
    exact ⟨by rw [← HV.out]; rfl, al _⟩
  by_cases h3 : k = 3
  · subst h3
    have HV := Lib.hid (show (⟨#[114, 117, 110, 116, 105, 109, 101, 32, 101, 114, 114, 111, 114, 58, 32]⟩ : ByteArray) ++ (⟨#[110, 101, 103, 97, 116, 105, 118, 101, 32, 115, 104, 105, 102, 116, 32, 97, 109, 111, 117, 110, 116]⟩ : ByteArray) = faultS 3 a b c by unfold faultS fixedS; simp only [if_pos, reduceIte, Int.reduceEq]; rfl)
    go_enter Tryd.func9, Tryd.ntmps9
    go_wp2
    go_ret
    exact ⟨by rw [← HV.out]; rfl, al _⟩
  by_cases h4 : k = 4
  · subst h4
    have HV := Lib.hid (show (⟨#[114, 117, 110, 116, 105, 109, 101, 32, 101, 114, 114, 111, 114, 58, 32]⟩ : ByteArray) ++ (⟨#[105, 110, 118, 97, 108, 105, 100, 32, 109, 101, 109, 111, 114, 121, 32, 97, 100, 100, 114, 101, 115, 115, 32, 111, 114, 32, 110, 105, 108, 32, 112, 111, 105, 110, 116, 101, 114, 32, 100, 101, 114, 101, 102, 101, 114, 101, 110, 99, 101]⟩ : ByteArray) = faultS 4 a b c by unfold faultS fixedS; simp only [if_pos, reduceIte, Int.reduceEq]; rfl)
    go_enter Tryd.func9, Tryd.ntmps9
    go_wp2
    go_ret
    exact ⟨by rw [← HV.out]; rfl, al _⟩
  by_cases h6 : k = 6
  · subst h6
    have HV := Lib.hid (show (⟨#[114, 117, 110, 116, 105, 109, 101, 32, 101, 114, 114, 111, 114, 58, 32]⟩ : ByteArray) ++ (⟨#[110, 111, 32, 105, 110, 116, 32, 105, 110, 32, 97, 110, 121]⟩ : ByteArray) = faultS 6 a b c by unfold faultS fixedS; simp only [if_pos, reduceIte, Int.reduceEq]; rfl)
    go_enter Tryd.func9, Tryd.ntmps9
    go_wp2
    go_ret
    exact ⟨by rw [← HV.out]; rfl, al _⟩
  by_cases h8 : k = 8
  · subst h8
    have HV := Lib.hid (show (⟨#[114, 117, 110, 116, 105, 109, 101, 32, 101, 114, 114, 111, 114, 58, 32]⟩ : ByteArray) ++ (⟨#[112, 97, 110, 105, 99, 32, 99, 97, 108, 108, 101, 100, 32, 119, 105, 116, 104, 32, 110, 105, 108]⟩ : ByteArray) = faultS 8 a b c by unfold faultS fixedS; simp only [if_pos, reduceIte, Int.reduceEq]; rfl)
    go_enter Tryd.func9, Tryd.ntmps9
    go_wp2
    go_ret
    exact ⟨by rw [← HV.out]; rfl, al _⟩
  by_cases h5 : k = 5
  · subst h5
    have E5 := Lib.hid (show faultS 5 a b c = boundsS a b c by unfold faultS; simp only [if_pos, reduceIte, Int.reduceEq])
    clear h1 h7 h2 h3 h4 h6 h8

    by_cases c1 : b < 0
    · have c9 : b < 0 ∨ c < b := .inl c1
      have HV := Lib.hid (show (⟨#[114, 117, 110, 116, 105, 109, 101, 32, 101, 114, 114, 111, 114, 58, 32]⟩ : ByteArray) ++ ((⟨#[115, 108, 105, 99, 101, 32, 98, 111, 117, 110, 100, 115, 32, 111, 117, 116, 32, 111, 102, 32, 114, 97, 110, 103, 101, 32, 91]⟩ : ByteArray) ++ ((⟨#[58]⟩ : ByteArray) ++ decS b ++ (⟨#[93, 32, 119, 105, 116, 104, 32, 108, 101, 110, 103, 116, 104, 32]⟩ : ByteArray) ++ decS c)) = faultS 5 a b c by rw [E5.out]; unfold boundsS; rw [if_pos c9]; rw [show (⟨#[114, 117, 110, 116, 105, 109, 101, 32, 101, 114, 114, 111, 114, 58, 32, 115, 108, 105, 99, 101, 32, 98, 111, 117, 110, 100, 115, 32, 111, 117, 116, 32, 111, 102, 32, 114, 97, 110, 103, 101, 32, 91]⟩ : ByteArray) = (⟨#[114, 117, 110, 116, 105, 109, 101, 32, 101, 114, 114, 111, 114, 58, 32]⟩ : ByteArray) ++ (⟨#[115, 108, 105, 99, 101, 32, 98, 111, 117, 110, 100, 115, 32, 111, 117, 116, 32, 111, 102, 32, 114, 97, 110, 103, 101, 32, 91]⟩ : ByteArray) from rfl]; simp only [ByteArray.append_assoc])
      have n1 : ¬ 9223372036854775807 < 1 + (decS b).size := by omega
      have n2 : ¬ 9223372036854775807 < 1 + (decS b).size + 14 := by omega
      have n3 : ¬ 9223372036854775807 < 1 + (decS b).size + 14 + (decS c).size := by omega
      have m0 : ¬ 9223372036854775807 < 27 + (1 + (decS b).size + 14 + (decS c).size) := by omega
      go_enter Tryd.func9, Tryd.ntmps9
      go_wp2_with fail
      generalize hW : w.alloc (Obj.cells #[Value.int .i64 5, Value.int .i64 a, Value.int .i64 b, Value.int .i64 c] 23) = W
      have hWb : Below w.heap.size w W := by rw [← hW]; exact al _
      have hWs : W.heap.size = w.heap.size + 1 := by rw [← hW]; simp
      have hg : w.heap.size < W.heap.size := by omega
      have hI : W.cell? ⟨w.heap.size, 0, none⟩ = some (.int .i64 5) ∧ W.cell? ⟨w.heap.size, 1, none⟩ = some (.int .i64 a) ∧ W.cell? ⟨w.heap.size, 2, none⟩ = some (.int .i64 b) ∧ W.cell? ⟨w.heap.size, 3, none⟩ = some (.int .i64 c) ∧ Below W.heap.size W W := by
        rw [← hW]; simp; exact Below.refl _ _
      clear hW hWs
      have hId : W.drew.cell? ⟨w.heap.size, 0, none⟩ = some (.int .i64 5) ∧ W.drew.cell? ⟨w.heap.size, 1, none⟩ = some (.int .i64 a) ∧ W.drew.cell? ⟨w.heap.size, 2, none⟩ = some (.int .i64 b) ∧ W.drew.cell? ⟨w.heap.size, 3, none⟩ = some (.int .i64 c) ∧ Below W.heap.size W W.drew :=
        ⟨hI.1, hI.2.1, hI.2.2.1, hI.2.2.2.1, hI.2.2.2.2.drew⟩
      go_region_held3 (fun w' => w'.cell? ⟨w.heap.size, 0, none⟩ = some (.int .i64 5) ∧ w'.cell? ⟨w.heap.size, 1, none⟩ = some (.int .i64 a) ∧ w'.cell? ⟨w.heap.size, 2, none⟩ = some (.int .i64 b) ∧ w'.cell? ⟨w.heap.size, 3, none⟩ = some (.int .i64 c) ∧ Below W.heap.size W w')
        (first | exact hId | exact held_stay hg (by assumption) (by assumption))
        (first
          | (go_at_call 16; refine (refDecimal_in _ (by with_reducible assumption) _).mono ?_; rintro e w1 ⟨rfl, b1⟩))
      go_wp2
      go_ret
      exact ⟨by rw [← HV.out]; rfl, sq hWb (last5 (by assumption))⟩
    · by_cases c2 : c < b
      · have c9 : b < 0 ∨ c < b := .inr c2
        have HV := Lib.hid (show (⟨#[114, 117, 110, 116, 105, 109, 101, 32, 101, 114, 114, 111, 114, 58, 32]⟩ : ByteArray) ++ ((⟨#[115, 108, 105, 99, 101, 32, 98, 111, 117, 110, 100, 115, 32, 111, 117, 116, 32, 111, 102, 32, 114, 97, 110, 103, 101, 32, 91]⟩ : ByteArray) ++ ((⟨#[58]⟩ : ByteArray) ++ decS b ++ (⟨#[93, 32, 119, 105, 116, 104, 32, 108, 101, 110, 103, 116, 104, 32]⟩ : ByteArray) ++ decS c)) = faultS 5 a b c by rw [E5.out]; unfold boundsS; rw [if_pos c9]; rw [show (⟨#[114, 117, 110, 116, 105, 109, 101, 32, 101, 114, 114, 111, 114, 58, 32, 115, 108, 105, 99, 101, 32, 98, 111, 117, 110, 100, 115, 32, 111, 117, 116, 32, 111, 102, 32, 114, 97, 110, 103, 101, 32, 91]⟩ : ByteArray) = (⟨#[114, 117, 110, 116, 105, 109, 101, 32, 101, 114, 114, 111, 114, 58, 32]⟩ : ByteArray) ++ (⟨#[115, 108, 105, 99, 101, 32, 98, 111, 117, 110, 100, 115, 32, 111, 117, 116, 32, 111, 102, 32, 114, 97, 110, 103, 101, 32, 91]⟩ : ByteArray) from rfl]; simp only [ByteArray.append_assoc])
        have n1 : ¬ 9223372036854775807 < 1 + (decS b).size := by omega
        have n2 : ¬ 9223372036854775807 < 1 + (decS b).size + 14 := by omega
        have n3 : ¬ 9223372036854775807 < 1 + (decS b).size + 14 + (decS c).size := by omega
        have m0 : ¬ 9223372036854775807 < 27 + (1 + (decS b).size + 14 + (decS c).size) := by omega
        go_enter Tryd.func9, Tryd.ntmps9
        go_wp2_with fail
        generalize hW : w.alloc (Obj.cells #[Value.int .i64 5, Value.int .i64 a, Value.int .i64 b, Value.int .i64 c] 23) = W
        have hWb : Below w.heap.size w W := by rw [← hW]; exact al _
        have hWs : W.heap.size = w.heap.size + 1 := by rw [← hW]; simp
        have hg : w.heap.size < W.heap.size := by omega
        have hI : W.cell? ⟨w.heap.size, 0, none⟩ = some (.int .i64 5) ∧ W.cell? ⟨w.heap.size, 1, none⟩ = some (.int .i64 a) ∧ W.cell? ⟨w.heap.size, 2, none⟩ = some (.int .i64 b) ∧ W.cell? ⟨w.heap.size, 3, none⟩ = some (.int .i64 c) ∧ Below W.heap.size W W := by
          rw [← hW]; simp; exact Below.refl _ _
        clear hW hWs
        have hId : W.drew.cell? ⟨w.heap.size, 0, none⟩ = some (.int .i64 5) ∧ W.drew.cell? ⟨w.heap.size, 1, none⟩ = some (.int .i64 a) ∧ W.drew.cell? ⟨w.heap.size, 2, none⟩ = some (.int .i64 b) ∧ W.drew.cell? ⟨w.heap.size, 3, none⟩ = some (.int .i64 c) ∧ Below W.heap.size W W.drew :=
          ⟨hI.1, hI.2.1, hI.2.2.1, hI.2.2.2.1, hI.2.2.2.2.drew⟩
        go_region_held3 (fun w' => w'.cell? ⟨w.heap.size, 0, none⟩ = some (.int .i64 5) ∧ w'.cell? ⟨w.heap.size, 1, none⟩ = some (.int .i64 a) ∧ w'.cell? ⟨w.heap.size, 2, none⟩ = some (.int .i64 b) ∧ w'.cell? ⟨w.heap.size, 3, none⟩ = some (.int .i64 c) ∧ Below W.heap.size W w')
          (first | exact hId | exact held_stay hg (by assumption) (by assumption))
          (first
            | (go_at_call 16; refine (refDecimal_in _ (by with_reducible assumption) _).mono ?_; rintro e w1 ⟨rfl, b1⟩))
        go_wp2
        go_ret
        exact ⟨by rw [← HV.out]; rfl, sq hWb (last5 (by assumption))⟩
      · have c9 : ¬ (b < 0 ∨ c < b) := by omega
        by_cases c3 : b < a
        · skip
          have HV := Lib.hid (show (⟨#[114, 117, 110, 116, 105, 109, 101, 32, 101, 114, 114, 111, 114, 58, 32]⟩ : ByteArray) ++ ((⟨#[115, 108, 105, 99, 101, 32, 98, 111, 117, 110, 100, 115, 32, 111, 117, 116, 32, 111, 102, 32, 114, 97, 110, 103, 101, 32, 91]⟩ : ByteArray) ++ (decS a ++ (⟨#[58]⟩ : ByteArray) ++ decS b ++ (⟨#[93]⟩ : ByteArray))) = faultS 5 a b c by rw [E5.out]; unfold boundsS; rw [if_neg c9, if_pos c3]; rw [show (⟨#[114, 117, 110, 116, 105, 109, 101, 32, 101, 114, 114, 111, 114, 58, 32, 115, 108, 105, 99, 101, 32, 98, 111, 117, 110, 100, 115, 32, 111, 117, 116, 32, 111, 102, 32, 114, 97, 110, 103, 101, 32, 91]⟩ : ByteArray) = (⟨#[114, 117, 110, 116, 105, 109, 101, 32, 101, 114, 114, 111, 114, 58, 32]⟩ : ByteArray) ++ (⟨#[115, 108, 105, 99, 101, 32, 98, 111, 117, 110, 100, 115, 32, 111, 117, 116, 32, 111, 102, 32, 114, 97, 110, 103, 101, 32, 91]⟩ : ByteArray) from rfl]; simp only [ByteArray.append_assoc])
          have n1 : ¬ 9223372036854775807 < (decS a).size + 1 := by omega
          have n2 : ¬ 9223372036854775807 < (decS a).size + 1 + (decS b).size := by omega
          have n3 : ¬ 9223372036854775807 < (decS a).size + 1 + (decS b).size + 1 := by omega
          have m0 : ¬ 9223372036854775807 < 27 + ((decS a).size + 1 + (decS b).size + 1) := by omega
          go_enter Tryd.func9, Tryd.ntmps9
          go_wp2_with fail
          generalize hW : w.alloc (Obj.cells #[Value.int .i64 5, Value.int .i64 a, Value.int .i64 b, Value.int .i64 c] 23) = W
          have hWb : Below w.heap.size w W := by rw [← hW]; exact al _
          have hWs : W.heap.size = w.heap.size + 1 := by rw [← hW]; simp
          have hg : w.heap.size < W.heap.size := by omega
          have hI : W.cell? ⟨w.heap.size, 0, none⟩ = some (.int .i64 5) ∧ W.cell? ⟨w.heap.size, 1, none⟩ = some (.int .i64 a) ∧ W.cell? ⟨w.heap.size, 2, none⟩ = some (.int .i64 b) ∧ W.cell? ⟨w.heap.size, 3, none⟩ = some (.int .i64 c) ∧ Below W.heap.size W W := by
            rw [← hW]; simp; exact Below.refl _ _
          clear hW hWs
          have hId : W.drew.cell? ⟨w.heap.size, 0, none⟩ = some (.int .i64 5) ∧ W.drew.cell? ⟨w.heap.size, 1, none⟩ = some (.int .i64 a) ∧ W.drew.cell? ⟨w.heap.size, 2, none⟩ = some (.int .i64 b) ∧ W.drew.cell? ⟨w.heap.size, 3, none⟩ = some (.int .i64 c) ∧ Below W.heap.size W W.drew :=
            ⟨hI.1, hI.2.1, hI.2.2.1, hI.2.2.2.1, hI.2.2.2.2.drew⟩
          go_region_held3 (fun w' => w'.cell? ⟨w.heap.size, 0, none⟩ = some (.int .i64 5) ∧ w'.cell? ⟨w.heap.size, 1, none⟩ = some (.int .i64 a) ∧ w'.cell? ⟨w.heap.size, 2, none⟩ = some (.int .i64 b) ∧ w'.cell? ⟨w.heap.size, 3, none⟩ = some (.int .i64 c) ∧ Below W.heap.size W w')
            (first | exact hId | exact held_stay hg (by assumption) (by assumption))
            (first
              | (go_at_call 16; refine (refDecimal_in _ (by with_reducible assumption) _).mono ?_; rintro e w1 ⟨rfl, b1⟩))
          go_wp2
          go_ret
          exact ⟨by rw [← HV.out]; rfl, sq hWb (last5 (by assumption))⟩
        · by_cases c4 : a < 0
          · skip
            have HV := Lib.hid (show (⟨#[114, 117, 110, 116, 105, 109, 101, 32, 101, 114, 114, 111, 114, 58, 32]⟩ : ByteArray) ++ ((⟨#[115, 108, 105, 99, 101, 32, 98, 111, 117, 110, 100, 115, 32, 111, 117, 116, 32, 111, 102, 32, 114, 97, 110, 103, 101, 32, 91]⟩ : ByteArray) ++ (decS a ++ (⟨#[58, 93]⟩ : ByteArray))) = faultS 5 a b c by rw [E5.out]; unfold boundsS; rw [if_neg c9, if_neg c3, if_pos c4]; rw [show (⟨#[114, 117, 110, 116, 105, 109, 101, 32, 101, 114, 114, 111, 114, 58, 32, 115, 108, 105, 99, 101, 32, 98, 111, 117, 110, 100, 115, 32, 111, 117, 116, 32, 111, 102, 32, 114, 97, 110, 103, 101, 32, 91]⟩ : ByteArray) = (⟨#[114, 117, 110, 116, 105, 109, 101, 32, 101, 114, 114, 111, 114, 58, 32]⟩ : ByteArray) ++ (⟨#[115, 108, 105, 99, 101, 32, 98, 111, 117, 110, 100, 115, 32, 111, 117, 116, 32, 111, 102, 32, 114, 97, 110, 103, 101, 32, 91]⟩ : ByteArray) from rfl]; simp only [ByteArray.append_assoc])
            have n1 : ¬ 9223372036854775807 < (decS a).size + 2 := by omega
            have m0 : ¬ 9223372036854775807 < 27 + ((decS a).size + 2) := by omega
            go_enter Tryd.func9, Tryd.ntmps9
            go_wp2_with fail
            refine (refDecimal_in a ha _).mono ?_
            rintro e w1 ⟨rfl, b1⟩
            go_wp2_with fail
            go_ret
            exact ⟨by rw [← HV.out]; rfl, sq (al _) b1⟩
          · have HV := Lib.hid (show faultS 5 a b c = ⟨#[]⟩ by rw [E5.out]; unfold boundsS; rw [if_neg c9, if_neg c3, if_neg c4])
            go_enter Tryd.func9, Tryd.ntmps9
            go_wp2_with fail
            go_ret
            exact ⟨by rw [HV.out]; rfl, al _⟩
  · have HV := Lib.hid (show faultS k a b c = ⟨#[]⟩ by unfold faultS fixedS; simp only [h1, h5, h7, h2, h3, h4, h6, h8, if_false])
    have e1 : (k == 1) = false := by simp [h1]
    have e2 : (k == 2) = false := by simp [h2]
    have e3 : (k == 3) = false := by simp [h3]
    have e4 : (k == 4) = false := by simp [h4]
    have e5 : (k == 5) = false := by simp [h5]
    have e6 : (k == 6) = false := by simp [h6]
    have e7 : (k == 7) = false := by simp [h7]
    have e8 : (k == 8) = false := by simp [h8]
    go_enter Tryd.func9, Tryd.ntmps9
    go_wp2
    go_ret
    exact ⟨by rw [HV.out]; rfl, al _⟩
end Go.Proofs.YtgjhjojbaieeaaaDoor
