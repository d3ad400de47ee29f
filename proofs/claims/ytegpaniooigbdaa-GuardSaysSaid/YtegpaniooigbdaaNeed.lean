/- 'guard.Need' and the document's NeedOf answer alike; so the law over them is true. Conditions: none. -/
import Derived.Test.YtegpaniooigbdaaOpIns
import Derived.Handy
import Derived.BigRegion
namespace Go.Proofs.Ytegpaniooigbdaa
open Go.ChangeShapes Go.WideShapes Go.ChangeAt Go.RowKit

def NeedPost (x : Value) (b : Bool) (w : World) (e : Ending) (w' : World) : Prop := e = .returned (.tuple #[x, .bool b]) ∧ Below w.heap.size w w'
theorem need_end {w w' : World} {x : Value} {b : Bool} (h : Below w.heap.size w w') : NeedPost x b w (.returned (.tuple #[x, .bool b])) w' := ⟨rfl, h⟩
set_option maxRecDepth 100000 in
set_option maxHeartbeats 1000000 in
theorem guardNeed_div (a b c d e : Int) (hd : d = 4 ∨ d = 5) (w : World) : Calls Try.prog 132 #[ins 7 a b c d e] w (NeedPost (ins 24 (c) (0) (0) (4) 0) true w) := by
  rcases hd with rfl | rfl
  all_goals
    unfold ins
    go_enter Try.func132, Try.ntmps132
    go_wp2
    try go_region
    all_goals
      go_wp2
      exact bodyPost_ret (v := .tuple #[ins 24 (c) (0) (0) (4) 0, .bool true]) (by simp [results, Try.results132, go_sem]) rfl (need_end (by go_grown))
set_option maxRecDepth 100000 in
set_option maxHeartbeats 1000000 in
theorem guardNeed_shf (a b c d e : Int) (hd : d = 6 ∨ d = 7) (w : World) : Calls Try.prog 132 #[ins 7 a b c d e] w (NeedPost (ins 24 (c) (0) (0) (5) 0) true w) := by
  rcases hd with rfl | rfl
  all_goals
    unfold ins
    go_enter Try.func132, Try.ntmps132
    go_wp2
    try go_region
    all_goals
      go_wp2
      exact bodyPost_ret (v := .tuple #[ins 24 (c) (0) (0) (5) 0, .bool true]) (by simp [results, Try.results132, go_sem]) rfl (need_end (by go_grown))
set_option maxRecDepth 100000 in
set_option maxHeartbeats 1000000 in
theorem guardNeed_cat (a b c d e : Int) (w : World) : Calls Try.prog 132 #[ins 11 a b c d e] w (NeedPost (ins 24 (b) (c) (0) (8) 0) true w) := by
  unfold ins
  go_enter Try.func132, Try.ntmps132
  go_wp2
  try go_region
  all_goals
    go_wp2
    exact bodyPost_ret (v := .tuple #[ins 24 (b) (c) (0) (8) 0, .bool true]) (by simp [results, Try.results132, go_sem]) rfl (need_end (by go_grown))
set_option maxRecDepth 100000 in
set_option maxHeartbeats 1000000 in
theorem guardNeed_idx (a b c d e : Int) (w : World) : Calls Try.prog 132 #[ins 13 a b c d e] w (NeedPost (ins 24 (b) (c) (0) (1) 0) true w) := by
  unfold ins
  go_enter Try.func132, Try.ntmps132
  go_wp2
  try go_region
  all_goals
    go_wp2
    exact bodyPost_ret (v := .tuple #[ins 24 (b) (c) (0) (1) 0, .bool true]) (by simp [results, Try.results132, go_sem]) rfl (need_end (by go_grown))
set_option maxRecDepth 100000 in
set_option maxHeartbeats 1000000 in
theorem guardNeed_set (a b c d e : Int) (w : World) : Calls Try.prog 132 #[ins 14 a b c d e] w (NeedPost (ins 24 (a) (b) (0) (2) 0) true w) := by
  unfold ins
  go_enter Try.func132, Try.ntmps132
  go_wp2
  try go_region
  all_goals
    go_wp2
    exact bodyPost_ret (v := .tuple #[ins 24 (a) (b) (0) (2) 0, .bool true]) (by simp [results, Try.results132, go_sem]) rfl (need_end (by go_grown))
set_option maxRecDepth 100000 in
set_option maxHeartbeats 1000000 in
theorem guardNeed_cut (a b c d e : Int) (w : World) : Calls Try.prog 132 #[ins 15 a b c d e] w (NeedPost (ins 24 (b) (c) (d) (3) 0) true w) := by
  unfold ins
  go_enter Try.func132, Try.ntmps132
  go_wp2
  try go_region
  all_goals
    go_wp2
    exact bodyPost_ret (v := .tuple #[ins 24 (b) (c) (d) (3) 0, .bool true]) (by simp [results, Try.results132, go_sem]) rfl (need_end (by go_grown))
set_option maxRecDepth 100000 in
set_option maxHeartbeats 1000000 in
theorem guardNeed_app (a b c d e : Int) (w : World) : Calls Try.prog 132 #[ins 16 a b c d e] w (NeedPost (ins 24 (b) (0) (0) (9) 0) true w) := by
  unfold ins
  go_enter Try.func132, Try.ntmps132
  go_wp2
  try go_region
  all_goals
    go_wp2
    exact bodyPost_ret (v := .tuple #[ins 24 (b) (0) (0) (9) 0, .bool true]) (by simp [results, Try.results132, go_sem]) rfl (need_end (by go_grown))
set_option maxRecDepth 100000 in
set_option maxHeartbeats 1000000 in
theorem guardNeed_lst (a b c d e : Int) (hc : 100 < c) (w : World) : Calls Try.prog 132 #[ins 17 a b c d e] w (NeedPost (ins 24 (c) (0) (0) (10) 0) true w) := by
  unfold ins
  go_enter Try.func132, Try.ntmps132
  go_wp2
  try go_region
  all_goals
    go_wp2
    exact bodyPost_ret (v := .tuple #[ins 24 (c) (0) (0) (10) 0, .bool true]) (by simp [results, Try.results132, go_sem]) rfl (need_end (by go_grown))
set_option maxRecDepth 100000 in
set_option maxHeartbeats 1000000 in
theorem guardNeed_get (a b c d e : Int) (w : World) : Calls Try.prog 132 #[ins 19 a b c d e] w (NeedPost (ins 24 (b) (0) (0) (6) 0) true w) := by
  unfold ins
  go_enter Try.func132, Try.ntmps132
  go_wp2
  try go_region
  all_goals
    go_wp2
    exact bodyPost_ret (v := .tuple #[ins 24 (b) (0) (0) (6) 0, .bool true]) (by simp [results, Try.results132, go_sem]) rfl (need_end (by go_grown))
set_option maxRecDepth 100000 in
set_option maxHeartbeats 1000000 in
theorem guardNeed_put (a b c d e : Int) (w : World) : Calls Try.prog 132 #[ins 20 a b c d e] w (NeedPost (ins 24 (a) (0) (0) (6) 0) true w) := by
  unfold ins
  go_enter Try.func132, Try.ntmps132
  go_wp2
  try go_region
  all_goals
    go_wp2
    exact bodyPost_ret (v := .tuple #[ins 24 (a) (0) (0) (6) 0, .bool true]) (by simp [results, Try.results132, go_sem]) rfl (need_end (by go_grown))
set_option maxRecDepth 100000 in
set_option maxHeartbeats 1000000 in
theorem guardNeed_toi (a b c d e : Int) (w : World) : Calls Try.prog 132 #[ins 23 a b c d e] w (NeedPost (ins 24 (b) (0) (0) (11) 0) true w) := by
  unfold ins
  go_enter Try.func132, Try.ntmps132
  go_wp2
  try go_region
  all_goals
    go_wp2
    exact bodyPost_ret (v := .tuple #[ins 24 (b) (0) (0) (11) 0, .bool true]) (by simp [results, Try.results132, go_sem]) rfl (need_end (by go_grown))
set_option maxRecDepth 100000 in
set_option maxHeartbeats 1000000 in
theorem guardNeed_cal (a b c d e : Int) (w : World) : Calls Try.prog 132 #[ins 28 a b c d e] w (NeedPost (ins 24 (b) (d) (0) (7) 0) true w) := by
  unfold ins
  go_enter Try.func132, Try.ntmps132
  go_wp2
  try go_region
  all_goals
    go_wp2
    exact bodyPost_ret (v := .tuple #[ins 24 (b) (d) (0) (7) 0, .bool true]) (by simp [results, Try.results132, go_sem]) rfl (need_end (by go_grown))
set_option maxRecDepth 100000 in
set_option maxHeartbeats 1000000 in
theorem guardNeed_pan (a b c d e : Int) (w : World) : Calls Try.prog 132 #[ins 31 a b c d e] w (NeedPost (ins 24 (a) (0) (0) (12) 0) true w) := by
  unfold ins
  go_enter Try.func132, Try.ntmps132
  go_wp2
  try go_region
  all_goals
    go_wp2
    exact bodyPost_ret (v := .tuple #[ins 24 (a) (0) (0) (12) 0, .bool true]) (by simp [results, Try.results132, go_sem]) rfl (need_end (by go_grown))
set_option maxRecDepth 100000 in
set_option maxHeartbeats 1000000 in
theorem guardNeed_op0 (a b c d e : Int) (h4 : (d == 4) = false) (h5 : (d == 5) = false) (h6 : (d == 6) = false) (h7 : (d == 7) = false) (w : World) : Calls Try.prog 132 #[ins 7 a b c d e] w (NeedPost (ins 0 0 0 0 0 0) false w) := by
  unfold ins
  go_enter Try.func132, Try.ntmps132
  go_wp2
  try go_region
  all_goals
    go_wp2
    exact bodyPost_ret (v := .tuple #[ins 0 0 0 0 0 0, .bool false]) (by simp [results, Try.results132, go_sem]) rfl (need_end (by go_grown))
set_option maxRecDepth 100000 in
set_option maxHeartbeats 1000000 in
theorem guardNeed_ls0 (a b c d e : Int) (hc : c ≤ 100) (w : World) : Calls Try.prog 132 #[ins 17 a b c d e] w (NeedPost (ins 0 0 0 0 0 0) false w) := by
  unfold ins
  go_enter Try.func132, Try.ntmps132
  go_wp2
  try go_region
  all_goals
    go_wp2
    exact bodyPost_ret (v := .tuple #[ins 0 0 0 0 0 0, .bool false]) (by simp [results, Try.results132, go_sem]) rfl (need_end (by go_grown))
set_option maxRecDepth 100000 in
set_option maxHeartbeats 1000000 in
theorem guardNeed_els (o a b c d e : Int) (e7 : (o == 7) = false) (e11 : (o == 11) = false) (e13 : (o == 13) = false) (e14 : (o == 14) = false) (e15 : (o == 15) = false) (e16 : (o == 16) = false) (e17 : (o == 17) = false) (e19 : (o == 19) = false) (e23 : (o == 23) = false) (e20 : (o == 20) = false) (e28 : (o == 28) = false) (e31 : (o == 31) = false) (w : World) : Calls Try.prog 132 #[ins o a b c d e] w (NeedPost (ins 0 0 0 0 0 0) false w) := by
  unfold ins
  go_enter Try.func132, Try.ntmps132
  go_wp2
  try go_region
  all_goals
    go_wp2
    exact bodyPost_ret (v := .tuple #[ins 0 0 0 0 0 0, .bool false]) (by simp [results, Try.results132, go_sem]) rfl (need_end (by go_grown))
set_option maxRecDepth 100000 in
set_option maxHeartbeats 1000000 in
theorem refNeed_div (a b c d e : Int) (hd : d = 4 ∨ d = 5) (w : World) : Calls Try.prog 93 #[ins 7 a b c d e] w (NeedPost (ins 24 (c) (0) (0) (4) 0) true w) := by
  rcases hd with rfl | rfl
  all_goals
    unfold ins
    go_enter Try.func93, Try.ntmps93
    go_wp2
    all_goals
      exact bodyPost_ret (v := .tuple #[ins 24 (c) (0) (0) (4) 0, .bool true]) (by simp [results, Try.results93, go_sem]) rfl (need_end (by go_grown))
set_option maxRecDepth 100000 in
set_option maxHeartbeats 1000000 in
theorem refNeed_shf (a b c d e : Int) (hd : d = 6 ∨ d = 7) (w : World) : Calls Try.prog 93 #[ins 7 a b c d e] w (NeedPost (ins 24 (c) (0) (0) (5) 0) true w) := by
  rcases hd with rfl | rfl
  all_goals
    unfold ins
    go_enter Try.func93, Try.ntmps93
    go_wp2
    all_goals
      exact bodyPost_ret (v := .tuple #[ins 24 (c) (0) (0) (5) 0, .bool true]) (by simp [results, Try.results93, go_sem]) rfl (need_end (by go_grown))
set_option maxRecDepth 100000 in
set_option maxHeartbeats 1000000 in
theorem refNeed_cat (a b c d e : Int) (w : World) : Calls Try.prog 93 #[ins 11 a b c d e] w (NeedPost (ins 24 (b) (c) (0) (8) 0) true w) := by
  unfold ins
  go_enter Try.func93, Try.ntmps93
  go_wp2
  all_goals
    exact bodyPost_ret (v := .tuple #[ins 24 (b) (c) (0) (8) 0, .bool true]) (by simp [results, Try.results93, go_sem]) rfl (need_end (by go_grown))
set_option maxRecDepth 100000 in
set_option maxHeartbeats 1000000 in
theorem refNeed_idx (a b c d e : Int) (w : World) : Calls Try.prog 93 #[ins 13 a b c d e] w (NeedPost (ins 24 (b) (c) (0) (1) 0) true w) := by
  unfold ins
  go_enter Try.func93, Try.ntmps93
  go_wp2
  all_goals
    exact bodyPost_ret (v := .tuple #[ins 24 (b) (c) (0) (1) 0, .bool true]) (by simp [results, Try.results93, go_sem]) rfl (need_end (by go_grown))
set_option maxRecDepth 100000 in
set_option maxHeartbeats 1000000 in
theorem refNeed_set (a b c d e : Int) (w : World) : Calls Try.prog 93 #[ins 14 a b c d e] w (NeedPost (ins 24 (a) (b) (0) (2) 0) true w) := by
  unfold ins
  go_enter Try.func93, Try.ntmps93
  go_wp2
  all_goals
    exact bodyPost_ret (v := .tuple #[ins 24 (a) (b) (0) (2) 0, .bool true]) (by simp [results, Try.results93, go_sem]) rfl (need_end (by go_grown))
set_option maxRecDepth 100000 in
set_option maxHeartbeats 1000000 in
theorem refNeed_cut (a b c d e : Int) (w : World) : Calls Try.prog 93 #[ins 15 a b c d e] w (NeedPost (ins 24 (b) (c) (d) (3) 0) true w) := by
  unfold ins
  go_enter Try.func93, Try.ntmps93
  go_wp2
  all_goals
    exact bodyPost_ret (v := .tuple #[ins 24 (b) (c) (d) (3) 0, .bool true]) (by simp [results, Try.results93, go_sem]) rfl (need_end (by go_grown))
set_option maxRecDepth 100000 in
set_option maxHeartbeats 1000000 in
theorem refNeed_app (a b c d e : Int) (w : World) : Calls Try.prog 93 #[ins 16 a b c d e] w (NeedPost (ins 24 (b) (0) (0) (9) 0) true w) := by
  unfold ins
  go_enter Try.func93, Try.ntmps93
  go_wp2
  all_goals
    exact bodyPost_ret (v := .tuple #[ins 24 (b) (0) (0) (9) 0, .bool true]) (by simp [results, Try.results93, go_sem]) rfl (need_end (by go_grown))
set_option maxRecDepth 100000 in
set_option maxHeartbeats 1000000 in
theorem refNeed_lst (a b c d e : Int) (hc : 100 < c) (w : World) : Calls Try.prog 93 #[ins 17 a b c d e] w (NeedPost (ins 24 (c) (0) (0) (10) 0) true w) := by
  unfold ins
  go_enter Try.func93, Try.ntmps93
  go_wp2
  all_goals
    exact bodyPost_ret (v := .tuple #[ins 24 (c) (0) (0) (10) 0, .bool true]) (by simp [results, Try.results93, go_sem]) rfl (need_end (by go_grown))
set_option maxRecDepth 100000 in
set_option maxHeartbeats 1000000 in
theorem refNeed_get (a b c d e : Int) (w : World) : Calls Try.prog 93 #[ins 19 a b c d e] w (NeedPost (ins 24 (b) (0) (0) (6) 0) true w) := by
  unfold ins
  go_enter Try.func93, Try.ntmps93
  go_wp2
  all_goals
    exact bodyPost_ret (v := .tuple #[ins 24 (b) (0) (0) (6) 0, .bool true]) (by simp [results, Try.results93, go_sem]) rfl (need_end (by go_grown))
set_option maxRecDepth 100000 in
set_option maxHeartbeats 1000000 in
theorem refNeed_put (a b c d e : Int) (w : World) : Calls Try.prog 93 #[ins 20 a b c d e] w (NeedPost (ins 24 (a) (0) (0) (6) 0) true w) := by
  unfold ins
  go_enter Try.func93, Try.ntmps93
  go_wp2
  all_goals
    exact bodyPost_ret (v := .tuple #[ins 24 (a) (0) (0) (6) 0, .bool true]) (by simp [results, Try.results93, go_sem]) rfl (need_end (by go_grown))
set_option maxRecDepth 100000 in
set_option maxHeartbeats 1000000 in
theorem refNeed_toi (a b c d e : Int) (w : World) : Calls Try.prog 93 #[ins 23 a b c d e] w (NeedPost (ins 24 (b) (0) (0) (11) 0) true w) := by
  unfold ins
  go_enter Try.func93, Try.ntmps93
  go_wp2
  all_goals
    exact bodyPost_ret (v := .tuple #[ins 24 (b) (0) (0) (11) 0, .bool true]) (by simp [results, Try.results93, go_sem]) rfl (need_end (by go_grown))
set_option maxRecDepth 100000 in
set_option maxHeartbeats 1000000 in
theorem refNeed_cal (a b c d e : Int) (w : World) : Calls Try.prog 93 #[ins 28 a b c d e] w (NeedPost (ins 24 (b) (d) (0) (7) 0) true w) := by
  unfold ins
  go_enter Try.func93, Try.ntmps93
  go_wp2
  all_goals
    exact bodyPost_ret (v := .tuple #[ins 24 (b) (d) (0) (7) 0, .bool true]) (by simp [results, Try.results93, go_sem]) rfl (need_end (by go_grown))
set_option maxRecDepth 100000 in
set_option maxHeartbeats 1000000 in
theorem refNeed_pan (a b c d e : Int) (w : World) : Calls Try.prog 93 #[ins 31 a b c d e] w (NeedPost (ins 24 (a) (0) (0) (12) 0) true w) := by
  unfold ins
  go_enter Try.func93, Try.ntmps93
  go_wp2
  all_goals
    exact bodyPost_ret (v := .tuple #[ins 24 (a) (0) (0) (12) 0, .bool true]) (by simp [results, Try.results93, go_sem]) rfl (need_end (by go_grown))
set_option maxRecDepth 100000 in
set_option maxHeartbeats 1000000 in
theorem refNeed_op0 (a b c d e : Int) (h4 : (d == 4) = false) (h5 : (d == 5) = false) (h6 : (d == 6) = false) (h7 : (d == 7) = false) (w : World) : Calls Try.prog 93 #[ins 7 a b c d e] w (NeedPost (ins 0 0 0 0 0 0) false w) := by
  unfold ins
  go_enter Try.func93, Try.ntmps93
  go_wp2
  all_goals
    exact bodyPost_ret (v := .tuple #[ins 0 0 0 0 0 0, .bool false]) (by simp [results, Try.results93, go_sem]) rfl (need_end (by go_grown))
set_option maxRecDepth 100000 in
set_option maxHeartbeats 1000000 in
theorem refNeed_ls0 (a b c d e : Int) (hc : c ≤ 100) (w : World) : Calls Try.prog 93 #[ins 17 a b c d e] w (NeedPost (ins 0 0 0 0 0 0) false w) := by
  unfold ins
  go_enter Try.func93, Try.ntmps93
  go_wp2
  all_goals
    exact bodyPost_ret (v := .tuple #[ins 0 0 0 0 0 0, .bool false]) (by simp [results, Try.results93, go_sem]) rfl (need_end (by go_grown))
set_option maxRecDepth 100000 in
set_option maxHeartbeats 1000000 in
theorem refNeed_els (o a b c d e : Int) (e7 : (o == 7) = false) (e11 : (o == 11) = false) (e13 : (o == 13) = false) (e14 : (o == 14) = false) (e15 : (o == 15) = false) (e16 : (o == 16) = false) (e17 : (o == 17) = false) (e19 : (o == 19) = false) (e23 : (o == 23) = false) (e20 : (o == 20) = false) (e28 : (o == 28) = false) (e31 : (o == 31) = false) (w : World) : Calls Try.prog 93 #[ins o a b c d e] w (NeedPost (ins 0 0 0 0 0 0) false w) := by
  unfold ins
  go_enter Try.func93, Try.ntmps93
  go_wp2
  all_goals
    exact bodyPost_ret (v := .tuple #[ins 0 0 0 0 0 0, .bool false]) (by simp [results, Try.results93, go_sem]) rfl (need_end (by go_grown))
end Go.Proofs.Ytegpaniooigbdaa

