/- What a node's kids must be: the program's 'wants', the kinds with a call. Conditions: none. -/
import Derived.Test.YtkpejdkffkhekaaGreatDoorPgW
import Derived.Deep.RegionHeld3
set_option maxRecDepth 100000
namespace Go.Proofs.YtkpejdkffkhekaaGreatDoor
open Go.ChangeShapes Go.WideShapes Go.ChangeAt Go.RowKit
theorem Wl.near {E0 base g : Nat} {v : Value} {T : List FV} {wr W : World} (h : Wl E0 base g v T wr) (hb : Below wr.heap.size wr W) : W.cell? ⟨g, 0, none⟩ = some v ∧ W.frozen? ⟨g, 0, none⟩ = false := by
  have hlt : g < wr.heap.size := Nat.lt_of_lt_of_le h.lt (Nat.le_trans h.el h.le)
  exact ⟨(hb.cell (p := ⟨g, 0, none⟩) hlt).trans h.ce, (hb.frozen (p := ⟨g, 0, none⟩) hlt).trans h.fr⟩
theorem step_only {ops : Array Oper} {o : Oper} {a : Act} {w : World} {K : Act → World → Prop} {Q : Exit → Act → World → Prop} {E : Prop} (hgd : o.guard = none) (k : Int) (ho : o.op = .call { callee := .value (.func 55), args := #[.const (.int .i64 k)], argTypes := #[3] })
    (h : K (a.put o.dst (.func (.func 72) #[] #[.pointer (some ⟨w.heap.size, 0, none⟩)])) (w.alloc (.cells #[.int .i64 k] 3))) : if Region.wanted o (yielded ops a.tmps) = true then Oper.wp Tryz.prog o a w K Q else E := by
  have hw : Region.wanted o (yielded ops a.tmps) = true := by simp [Region.wanted, hgd]
  rw [if_pos hw]
  unfold Oper.wp
  simp [execOp, ho, resolve, invoke, Act.eval, go_sem]
  refine (only_any k w).mono ?_
  rintro e w' ⟨rfl, rfl⟩
  exact h
set_option maxHeartbeats 4000000 in
theorem wants_callst (x : ND) (A : Option Addr) (c : Nat) (w : World) (hk : x.kind = 9 ∨ x.kind = 15) : Calls Tryz.prog 37 #[ndV x A c] w (WantP x w) := by
  have hmf : ∀ (fn : Fn) (first cap : Array Value) (w : World), (Instr.makeFunc fn first cap).run Tryz.prog w = .ok (.func fn first cap) w := fun _ _ _ _ => rfl
  obtain ⟨j0, hj, jz0, jz1, jz2⟩ := info_parts info_fv
  obtain ⟨kd, tx, ty, nm, ks⟩ := x
  unfold ndV
  simp only at hk ⊢
  have HW := Lib.hid (wl_start w (.cells #[.int .i64 kd, .string tx, .string ty, .int .i64 nm, .slice A ks.length c] 31))
  have HX := Lib.hid (kx_start w (.cells #[.int .i64 kd, .string tx, .string ty, .int .i64 nm, .slice A ks.length c] 31) (.cells #[.slice none 0 0] 64) (w.heap.size + 1))
  have HN := Lib.hid (show ((w.alloc (.cells #[.int .i64 kd, .string tx, .string ty, .int .i64 nm, .slice A ks.length c] 31)).alloc (.cells #[.slice none 0 0] 64)).cell? ⟨w.heap.size, 4, none⟩ = some (.slice A ks.length c) by simp [go_sem])
  rcases hk with rfl | rfl
  all_goals (
    go_enter Tryz.func37, Tryz.ntmps37
    go_wp2_with fail
    have g0 := HW.out.ce
    have z0 := HW.out.fr
    have n0 := HN.out
    generalize World.alloc _ (.cells #[.slice none 0 0] _) = W at *
    have hW := HW.out.le
    have hW1 : w.heap.size + 1 < W.heap.size := hW
    have hW0 : w.heap.size < W.heap.size := by omega
    go_region_law (first | (refine step_only (by rfl) 28 (by rfl) ?_) | (refine step_append_Own (S := FV.sh) (by rfl) _ _ 64 (by rfl) (w.heap.size + 2) 51 j0 _ 8 Tryz.underlying64 hj jz0 jz1 jz2 rfl (by show 0 < 1; omega) (· < w.heap.size + 2) _ _ (by rfl) (HW.out.ow.below (by first | exact (Below.refl _ _).drew | exact al2 ((Below.refl _ _).drew) _ | exact al2 (al2 ((Below.refl _ _).drew) _) _ | exact al2 (al2 (al2 ((Below.refl _ _).drew) _) _) _ | exact al2 (al2 (al2 (al2 ((Below.refl _ _).drew) _) _) _) _ | exact Below.drew (al _) | exact Below.drew (al2 (al _) _) | exact Below.drew (al2 (al2 (al _) _) _) | exact Below.drew (al2 (al2 (al2 (al _) _) _) _))) _ _ 1 1 _ [[.func (.func 72) #[] #[.pointer (some ⟨W.heap.size, 0, none⟩)]]] [.only 28] (by rfl) (by first | exact (Rd.lits _ #[.func (.func 72) #[] #[.pointer (some ⟨W.heap.size, 0, none⟩)]] _ 1 1 rfl _ (by simp)).drew | exact Rd.lits _ #[.func (.func 72) #[] #[.pointer (some ⟨W.heap.size, 0, none⟩)]] _ 1 1 rfl _ (by simp)) rfl rfl (Shp.all1 ⟨_, rfl, _, rfl, ⟨by simp <;> omega, fun e => by have := (HW.out.ow.ownlt e.symm).2; omega, by omega⟩, by simp [go_sem]⟩) (by simp <;> unfold maxLen <;> omega) (by simp <;> omega) (by simp <;> omega) ?_; intro A5 c5 w5 hown5 hgrow5 _; obtain ⟨g5, z5⟩ := HW.out.far (by first | exact (Below.refl _ _).drew | exact al2 ((Below.refl _ _).drew) _ | exact al2 (al2 ((Below.refl _ _).drew) _) _ | exact al2 (al2 (al2 ((Below.refl _ _).drew) _) _) _ | exact al2 (al2 (al2 (al2 ((Below.refl _ _).drew) _) _) _) _ | exact Below.drew (al _) | exact Below.drew (al2 (al _) _) | exact Below.drew (al2 (al2 (al _) _) _) | exact Below.drew (al2 (al2 (al2 (al _) _) _) _)) hgrow5; have n5 := far_c (i := 4) HW.out HX.out hgrow5 (by first | exact (Below.refl _ _).drew | exact al2 ((Below.refl _ _).drew) _ | exact al2 (al2 ((Below.refl _ _).drew) _) _ | exact al2 (al2 (al2 ((Below.refl _ _).drew) _) _) _ | exact al2 (al2 (al2 (al2 ((Below.refl _ _).drew) _) _) _) _ | exact Below.drew (al _) | exact Below.drew (al2 (al _) _) | exact Below.drew (al2 (al2 (al _) _) _) | exact Below.drew (al2 (al2 (al2 (al _) _) _) _)) HN.out))
    all_goals (
      try simp only [List.length_replicate] at hown5
      have ⟨a1, a2, a3⟩ := HW.out.nextC HX.out (by first | exact (Below.refl _ _).drew | exact al2 ((Below.refl _ _).drew) _ | exact al2 (al2 ((Below.refl _ _).drew) _) _ | exact al2 (al2 (al2 ((Below.refl _ _).drew) _) _) _ | exact al2 (al2 (al2 (al2 ((Below.refl _ _).drew) _) _) _) _ | exact Below.drew (al _) | exact Below.drew (al2 (al _) _) | exact Below.drew (al2 (al2 (al _) _) _) | exact Below.drew (al2 (al2 (al2 (al _) _) _) _)) hgrow5 hown5 HN.out
      have HW := Lib.hid a1
      have HX := Lib.hid (HX.out.trans (a2.down (by omega)))
      have HN := Lib.hid a3
      have hW5 : w.heap.size + 2 ≤ w5.heap.size := by have := HW.out.le; simpa using this
      clear a1 a2 a3 hown5 hgrow5
      go_wp2_with fail
      go_quiet (fail)
      go_wp2_with fail
      go_returns
      exact want_end HW.out HX.out (by omega) rfl rfl (by rw [Bool.eq_iff_iff]; simp)))
set_option maxHeartbeats 4000000 in
theorem wants_ret1 (x : ND) (A : Option Addr) (c : Nat) (w : World) (hk : x.kind = 14) (h1 : (x.kids.length : Int) = 1) : Calls Tryz.prog 37 #[ndV x A c] w (WantP x w) := by
  have hmf : ∀ (fn : Fn) (first cap : Array Value) (w : World), (Instr.makeFunc fn first cap).run Tryz.prog w = .ok (.func fn first cap) w := fun _ _ _ _ => rfl
  obtain ⟨j0, hj, jz0, jz1, jz2⟩ := info_parts info_fv
  obtain ⟨kd, tx, ty, nm, ks⟩ := x
  unfold ndV
  simp only at hk ⊢
  have HW := Lib.hid (wl_start w (.cells #[.int .i64 kd, .string tx, .string ty, .int .i64 nm, .slice A ks.length c] 31))
  have HX := Lib.hid (kx_start w (.cells #[.int .i64 kd, .string tx, .string ty, .int .i64 nm, .slice A ks.length c] 31) (.cells #[.slice none 0 0] 64) (w.heap.size + 1))
  have HN := Lib.hid (show ((w.alloc (.cells #[.int .i64 kd, .string tx, .string ty, .int .i64 nm, .slice A ks.length c] 31)).alloc (.cells #[.slice none 0 0] 64)).cell? ⟨w.heap.size, 4, none⟩ = some (.slice A ks.length c) by simp [go_sem])
  rcases hk with rfl
  all_goals (
    simp only at h1
    have HN1 := Lib.hid (show ks.length = 1 by omega)
    go_enter Tryz.func37, Tryz.ntmps37
    go_wp2_with (first | (at_builtin; refine wpList_append_Own (S := FV.sh) rfl _ _ 64 rfl (w.heap.size + 2) 51 j0 _ 8 Tryz.underlying64 hj jz0 jz1 jz2 rfl (by show 0 < 1; omega) (· < w.heap.size + 2) _ _ rfl (HW.out.ow.below (al _)) _ _ 1 1 _ [[.func (.func 53) #[] #[]]] [.expr] rfl (Rd.lits _ #[.func (.func 53) #[] #[]] _ 1 1 rfl _ (by simp)) rfl rfl (Shp.all1 ⟨_, rfl, rfl⟩) (by simp <;> unfold maxLen <;> omega) (by simp <;> omega) (by simp <;> omega) ?_; intro A5 c5 w5 hown5 hgrow5 _; obtain ⟨g5, z5⟩ := HW.out.far (al _) hgrow5; have n5 := far_c (i := 4) HW.out HX.out hgrow5 (al _) HN.out; have ⟨a1, a2, a3⟩ := HW.out.nextC HX.out (al _) hgrow5 hown5 HN.out; have HW := Lib.hid a1; have HX := Lib.hid (HX.out.trans (a2.down (by omega))); have HN := Lib.hid a3; clear a1 a2 a3 hown5 hgrow5) | fail "no")
    go_quiet (fail)
    go_wp2_with fail
    go_returns
    exact want_end HW.out HX.out (by omega) (by unfold wnL; simp only [Int.reduceEq, if_true, if_false, or_self]; rw [if_pos HN1.out]; try rfl) rfl (by rw [Bool.eq_iff_iff]; simp <;> omega))
set_option maxHeartbeats 4000000 in
theorem wants_ret0 (x : ND) (A : Option Addr) (c : Nat) (w : World) (hk : x.kind = 14) (h1 : ¬ (x.kids.length : Int) = 1) : Calls Tryz.prog 37 #[ndV x A c] w (WantP x w) := by
  have hmf : ∀ (fn : Fn) (first cap : Array Value) (w : World), (Instr.makeFunc fn first cap).run Tryz.prog w = .ok (.func fn first cap) w := fun _ _ _ _ => rfl
  obtain ⟨j0, hj, jz0, jz1, jz2⟩ := info_parts info_fv
  obtain ⟨kd, tx, ty, nm, ks⟩ := x
  unfold ndV
  simp only at hk ⊢
  have HW := Lib.hid (wl_start w (.cells #[.int .i64 kd, .string tx, .string ty, .int .i64 nm, .slice A ks.length c] 31))
  have HX := Lib.hid (kx_start w (.cells #[.int .i64 kd, .string tx, .string ty, .int .i64 nm, .slice A ks.length c] 31) (.cells #[.slice none 0 0] 64) (w.heap.size + 1))
  have HN := Lib.hid (show ((w.alloc (.cells #[.int .i64 kd, .string tx, .string ty, .int .i64 nm, .slice A ks.length c] 31)).alloc (.cells #[.slice none 0 0] 64)).cell? ⟨w.heap.size, 4, none⟩ = some (.slice A ks.length c) by simp [go_sem])
  rcases hk with rfl
  all_goals (
    simp only at h1
    have HN1 := Lib.hid (show ¬ ks.length = 1 by omega)
    go_enter Tryz.func37, Tryz.ntmps37
    go_wp2_with fail
    go_quiet (fail)
    go_wp2_with fail
    go_returns
    exact want_end HW.out HX.out (by omega) (by unfold wnL; simp only [Int.reduceEq, if_true, if_false, or_self]; rw [if_neg HN1.out]; try rfl) rfl (by rw [Bool.eq_iff_iff]; simp <;> omega))
set_option maxHeartbeats 4000000 in
theorem wants_for2 (x : ND) (A : Option Addr) (c : Nat) (w : World) (hk : x.kind = 11) (h1 : (x.kids.length : Int) = 2) : Calls Tryz.prog 37 #[ndV x A c] w (WantP x w) := by
  have hmf : ∀ (fn : Fn) (first cap : Array Value) (w : World), (Instr.makeFunc fn first cap).run Tryz.prog w = .ok (.func fn first cap) w := fun _ _ _ _ => rfl
  obtain ⟨j0, hj, jz0, jz1, jz2⟩ := info_parts info_fv
  obtain ⟨kd, tx, ty, nm, ks⟩ := x
  unfold ndV
  simp only at hk ⊢
  have HW := Lib.hid (wl_start w (.cells #[.int .i64 kd, .string tx, .string ty, .int .i64 nm, .slice A ks.length c] 31))
  have HX := Lib.hid (kx_start w (.cells #[.int .i64 kd, .string tx, .string ty, .int .i64 nm, .slice A ks.length c] 31) (.cells #[.slice none 0 0] 64) (w.heap.size + 1))
  have HN := Lib.hid (show ((w.alloc (.cells #[.int .i64 kd, .string tx, .string ty, .int .i64 nm, .slice A ks.length c] 31)).alloc (.cells #[.slice none 0 0] 64)).cell? ⟨w.heap.size, 4, none⟩ = some (.slice A ks.length c) by simp [go_sem])
  rcases hk with rfl
  all_goals (
    simp only at h1
    have HN1 := Lib.hid (show ks.length = 2 by omega)
    go_enter Tryz.func37, Tryz.ntmps37
    go_wp2_with (first | (at_builtin; refine wpList_append_Own (S := FV.sh) rfl _ _ 64 rfl (w.heap.size + 2) 51 j0 _ 8 Tryz.underlying64 hj jz0 jz1 jz2 rfl (by show 0 < 1; omega) (· < w.heap.size + 2) _ _ rfl (HW.out.ow.below (al _)) _ _ 1 1 _ [[.func (.func 53) #[] #[]]] [.expr] rfl (Rd.lits _ #[.func (.func 53) #[] #[]] _ 1 1 rfl _ (by simp)) rfl rfl (Shp.all1 ⟨_, rfl, rfl⟩) (by simp <;> unfold maxLen <;> omega) (by simp <;> omega) (by simp <;> omega) ?_; intro A5 c5 w5 hown5 hgrow5 _; obtain ⟨g5, z5⟩ := HW.out.far (al _) hgrow5; have n5 := far_c (i := 4) HW.out HX.out hgrow5 (al _) HN.out; have ⟨a1, a2, a3⟩ := HW.out.nextC HX.out (al _) hgrow5 hown5 HN.out; have HW := Lib.hid a1; have HX := Lib.hid (HX.out.trans (a2.down (by omega))); have HN := Lib.hid a3; clear a1 a2 a3 hown5 hgrow5) | fail "no")
    go_wp2_with fail
    have g0 := HW.out.ce
    have z0 := HW.out.fr
    have n0 := HN.out
    generalize World.setCell w5 _ _ = W at *
    have hW := HW.out.le
    have hW1 : w.heap.size + 1 < W.heap.size := hW
    have hW0 : w.heap.size < W.heap.size := by omega
    go_region_law (first | (refine step_only (by rfl) 5 (by rfl) ?_) | (refine step_append_Own (S := FV.sh) (by rfl) _ _ 64 (by rfl) (w.heap.size + 2) 51 j0 _ 8 Tryz.underlying64 hj jz0 jz1 jz2 rfl (by show 0 < 1; omega) (· < w.heap.size + 2) _ _ (by rfl) (HW.out.ow.below (by first | exact (Below.refl _ _).drew | exact al2 ((Below.refl _ _).drew) _ | exact al2 (al2 ((Below.refl _ _).drew) _) _ | exact al2 (al2 (al2 ((Below.refl _ _).drew) _) _) _ | exact al2 (al2 (al2 (al2 ((Below.refl _ _).drew) _) _) _) _ | exact Below.drew (al _) | exact Below.drew (al2 (al _) _) | exact Below.drew (al2 (al2 (al _) _) _) | exact Below.drew (al2 (al2 (al2 (al _) _) _) _))) _ _ 1 1 _ [[.func (.func 72) #[] #[.pointer (some ⟨W.heap.size, 0, none⟩)]]] [.only 5] (by rfl) (by first | exact (Rd.lits _ #[.func (.func 72) #[] #[.pointer (some ⟨W.heap.size, 0, none⟩)]] _ 1 1 rfl _ (by simp)).drew | exact Rd.lits _ #[.func (.func 72) #[] #[.pointer (some ⟨W.heap.size, 0, none⟩)]] _ 1 1 rfl _ (by simp)) rfl rfl (Shp.all1 ⟨_, rfl, _, rfl, ⟨by simp <;> omega, fun e => by have := (HW.out.ow.ownlt e.symm).2; omega, by omega⟩, by simp [go_sem]⟩) (by simp <;> unfold maxLen <;> omega) (by simp <;> omega) (by simp <;> omega) ?_; intro A5 c5 w5 hown5 hgrow5 _; obtain ⟨g5, z5⟩ := HW.out.far (by first | exact (Below.refl _ _).drew | exact al2 ((Below.refl _ _).drew) _ | exact al2 (al2 ((Below.refl _ _).drew) _) _ | exact al2 (al2 (al2 ((Below.refl _ _).drew) _) _) _ | exact al2 (al2 (al2 (al2 ((Below.refl _ _).drew) _) _) _) _ | exact Below.drew (al _) | exact Below.drew (al2 (al _) _) | exact Below.drew (al2 (al2 (al _) _) _) | exact Below.drew (al2 (al2 (al2 (al _) _) _) _)) hgrow5; have n5 := far_c (i := 4) HW.out HX.out hgrow5 (by first | exact (Below.refl _ _).drew | exact al2 ((Below.refl _ _).drew) _ | exact al2 (al2 ((Below.refl _ _).drew) _) _ | exact al2 (al2 (al2 ((Below.refl _ _).drew) _) _) _ | exact al2 (al2 (al2 (al2 ((Below.refl _ _).drew) _) _) _) _ | exact Below.drew (al _) | exact Below.drew (al2 (al _) _) | exact Below.drew (al2 (al2 (al _) _) _) | exact Below.drew (al2 (al2 (al2 (al _) _) _) _)) HN.out))
    all_goals (
      try simp only [List.length_replicate] at hown5
      have ⟨a1, a2, a3⟩ := HW.out.nextC HX.out (by first | exact (Below.refl _ _).drew | exact al2 ((Below.refl _ _).drew) _ | exact al2 (al2 ((Below.refl _ _).drew) _) _ | exact al2 (al2 (al2 ((Below.refl _ _).drew) _) _) _ | exact al2 (al2 (al2 (al2 ((Below.refl _ _).drew) _) _) _) _ | exact Below.drew (al _) | exact Below.drew (al2 (al _) _) | exact Below.drew (al2 (al2 (al _) _) _) | exact Below.drew (al2 (al2 (al2 (al _) _) _) _)) hgrow5 hown5 HN.out
      have HW := Lib.hid a1
      have HX := Lib.hid (HX.out.trans (a2.down (by omega)))
      have HN := Lib.hid a3
      have hW5 : w.heap.size + 2 ≤ w5.heap.size := by have := HW.out.le; simpa using this
      clear a1 a2 a3 hown5 hgrow5
      go_wp2_with fail
      go_quiet (fail)
      go_wp2_with fail
      go_returns
      exact want_end HW.out HX.out (by omega) (by unfold wnL; simp only [Int.reduceEq, if_true, if_false, or_self]; rw [if_pos HN1.out]; try rfl) rfl (by rw [Bool.eq_iff_iff]; simp <;> omega)))
set_option maxHeartbeats 4000000 in
theorem wants_for1 (x : ND) (A : Option Addr) (c : Nat) (w : World) (hk : x.kind = 11) (h1 : ¬ (x.kids.length : Int) = 2) : Calls Tryz.prog 37 #[ndV x A c] w (WantP x w) := by
  have hmf : ∀ (fn : Fn) (first cap : Array Value) (w : World), (Instr.makeFunc fn first cap).run Tryz.prog w = .ok (.func fn first cap) w := fun _ _ _ _ => rfl
  obtain ⟨j0, hj, jz0, jz1, jz2⟩ := info_parts info_fv
  obtain ⟨kd, tx, ty, nm, ks⟩ := x
  unfold ndV
  simp only at hk ⊢
  have HW := Lib.hid (wl_start w (.cells #[.int .i64 kd, .string tx, .string ty, .int .i64 nm, .slice A ks.length c] 31))
  have HX := Lib.hid (kx_start w (.cells #[.int .i64 kd, .string tx, .string ty, .int .i64 nm, .slice A ks.length c] 31) (.cells #[.slice none 0 0] 64) (w.heap.size + 1))
  have HN := Lib.hid (show ((w.alloc (.cells #[.int .i64 kd, .string tx, .string ty, .int .i64 nm, .slice A ks.length c] 31)).alloc (.cells #[.slice none 0 0] 64)).cell? ⟨w.heap.size, 4, none⟩ = some (.slice A ks.length c) by simp [go_sem])
  rcases hk with rfl
  all_goals (
    simp only at h1
    have HN1 := Lib.hid (show ¬ ks.length = 2 by omega)
    go_enter Tryz.func37, Tryz.ntmps37
    go_wp2_with fail
    have g0 := HW.out.ce
    have z0 := HW.out.fr
    have n0 := HN.out
    generalize World.alloc _ (.cells #[.slice none 0 0] _) = W at *
    have hW := HW.out.le
    have hW1 : w.heap.size + 1 < W.heap.size := hW
    have hW0 : w.heap.size < W.heap.size := by omega
    go_region_law (first | (refine step_only (by rfl) 5 (by rfl) ?_) | (refine step_append_Own (S := FV.sh) (by rfl) _ _ 64 (by rfl) (w.heap.size + 2) 51 j0 _ 8 Tryz.underlying64 hj jz0 jz1 jz2 rfl (by show 0 < 1; omega) (· < w.heap.size + 2) _ _ (by rfl) (HW.out.ow.below (by first | exact (Below.refl _ _).drew | exact al2 ((Below.refl _ _).drew) _ | exact al2 (al2 ((Below.refl _ _).drew) _) _ | exact al2 (al2 (al2 ((Below.refl _ _).drew) _) _) _ | exact al2 (al2 (al2 (al2 ((Below.refl _ _).drew) _) _) _) _ | exact Below.drew (al _) | exact Below.drew (al2 (al _) _) | exact Below.drew (al2 (al2 (al _) _) _) | exact Below.drew (al2 (al2 (al2 (al _) _) _) _))) _ _ 1 1 _ [[.func (.func 72) #[] #[.pointer (some ⟨W.heap.size, 0, none⟩)]]] [.only 5] (by rfl) (by first | exact (Rd.lits _ #[.func (.func 72) #[] #[.pointer (some ⟨W.heap.size, 0, none⟩)]] _ 1 1 rfl _ (by simp)).drew | exact Rd.lits _ #[.func (.func 72) #[] #[.pointer (some ⟨W.heap.size, 0, none⟩)]] _ 1 1 rfl _ (by simp)) rfl rfl (Shp.all1 ⟨_, rfl, _, rfl, ⟨by simp <;> omega, fun e => by have := (HW.out.ow.ownlt e.symm).2; omega, by omega⟩, by simp [go_sem]⟩) (by simp <;> unfold maxLen <;> omega) (by simp <;> omega) (by simp <;> omega) ?_; intro A5 c5 w5 hown5 hgrow5 _; obtain ⟨g5, z5⟩ := HW.out.far (by first | exact (Below.refl _ _).drew | exact al2 ((Below.refl _ _).drew) _ | exact al2 (al2 ((Below.refl _ _).drew) _) _ | exact al2 (al2 (al2 ((Below.refl _ _).drew) _) _) _ | exact al2 (al2 (al2 (al2 ((Below.refl _ _).drew) _) _) _) _ | exact Below.drew (al _) | exact Below.drew (al2 (al _) _) | exact Below.drew (al2 (al2 (al _) _) _) | exact Below.drew (al2 (al2 (al2 (al _) _) _) _)) hgrow5; have n5 := far_c (i := 4) HW.out HX.out hgrow5 (by first | exact (Below.refl _ _).drew | exact al2 ((Below.refl _ _).drew) _ | exact al2 (al2 ((Below.refl _ _).drew) _) _ | exact al2 (al2 (al2 ((Below.refl _ _).drew) _) _) _ | exact al2 (al2 (al2 (al2 ((Below.refl _ _).drew) _) _) _) _ | exact Below.drew (al _) | exact Below.drew (al2 (al _) _) | exact Below.drew (al2 (al2 (al _) _) _) | exact Below.drew (al2 (al2 (al2 (al _) _) _) _)) HN.out))
    all_goals (
      try simp only [List.length_replicate] at hown5
      have ⟨a1, a2, a3⟩ := HW.out.nextC HX.out (by first | exact (Below.refl _ _).drew | exact al2 ((Below.refl _ _).drew) _ | exact al2 (al2 ((Below.refl _ _).drew) _) _ | exact al2 (al2 (al2 ((Below.refl _ _).drew) _) _) _ | exact al2 (al2 (al2 (al2 ((Below.refl _ _).drew) _) _) _) _ | exact Below.drew (al _) | exact Below.drew (al2 (al _) _) | exact Below.drew (al2 (al2 (al _) _) _) | exact Below.drew (al2 (al2 (al2 (al _) _) _) _)) hgrow5 hown5 HN.out
      have HW := Lib.hid a1
      have HX := Lib.hid (HX.out.trans (a2.down (by omega)))
      have HN := Lib.hid a3
      have hW5 : w.heap.size + 2 ≤ w5.heap.size := by have := HW.out.le; simpa using this
      clear a1 a2 a3 hown5 hgrow5
      go_wp2_with fail
      go_quiet (fail)
      go_wp2_with fail
      go_returns
      exact want_end HW.out HX.out (by omega) (by unfold wnL; simp only [Int.reduceEq, if_true, if_false, or_self]; rw [if_neg HN1.out]; try rfl) rfl (by rw [Bool.eq_iff_iff]; simp <;> omega)))
set_option maxHeartbeats 4000000 in
theorem wants_if3 (x : ND) (A : Option Addr) (c : Nat) (w : World) (hk : x.kind = 10) (h1 : (x.kids.length : Int) = 3) : Calls Tryz.prog 37 #[ndV x A c] w (WantP x w) := by
  have hmf : ∀ (fn : Fn) (first cap : Array Value) (w : World), (Instr.makeFunc fn first cap).run Tryz.prog w = .ok (.func fn first cap) w := fun _ _ _ _ => rfl
  obtain ⟨j0, hj, jz0, jz1, jz2⟩ := info_parts info_fv
  obtain ⟨kd, tx, ty, nm, ks⟩ := x
  unfold ndV
  simp only at hk ⊢
  have HW := Lib.hid (wl_start w (.cells #[.int .i64 kd, .string tx, .string ty, .int .i64 nm, .slice A ks.length c] 31))
  have HX := Lib.hid (kx_start w (.cells #[.int .i64 kd, .string tx, .string ty, .int .i64 nm, .slice A ks.length c] 31) (.cells #[.slice none 0 0] 64) (w.heap.size + 1))
  have HN := Lib.hid (show ((w.alloc (.cells #[.int .i64 kd, .string tx, .string ty, .int .i64 nm, .slice A ks.length c] 31)).alloc (.cells #[.slice none 0 0] 64)).cell? ⟨w.heap.size, 4, none⟩ = some (.slice A ks.length c) by simp [go_sem])
  rcases hk with rfl
  all_goals (
    simp only at h1
    have HN1 := Lib.hid (show ks.length = 3 by omega)
    go_enter Tryz.func37, Tryz.ntmps37
    go_wp2_with fail
    have g0 := HW.out.ce
    have z0 := HW.out.fr
    have n0 := HN.out
    generalize World.alloc _ (.cells #[.slice none 0 0] _) = W at *
    have hW := HW.out.le
    have hW1 : w.heap.size + 1 < W.heap.size := hW
    have hW0 : w.heap.size < W.heap.size := by omega
    go_region_law (first | (refine step_only (by rfl) 5 (by rfl) ?_) | (refine step_append_Own (S := FV.sh) (by rfl) _ _ 64 (by rfl) (w.heap.size + 2) 51 j0 _ 8 Tryz.underlying64 hj jz0 jz1 jz2 rfl (by show 0 < 1; omega) (· < w.heap.size + 2) _ _ (by rfl) (HW.out.ow.below (by first | exact (Below.refl _ _).drew | exact al2 ((Below.refl _ _).drew) _ | exact al2 (al2 ((Below.refl _ _).drew) _) _ | exact al2 (al2 (al2 ((Below.refl _ _).drew) _) _) _ | exact al2 (al2 (al2 (al2 ((Below.refl _ _).drew) _) _) _) _ | exact Below.drew (al _) | exact Below.drew (al2 (al _) _) | exact Below.drew (al2 (al2 (al _) _) _) | exact Below.drew (al2 (al2 (al2 (al _) _) _) _))) _ _ 2 2 _ [[.func (.func 53) #[] #[]], [.func (.func 72) #[] #[.pointer (some ⟨W.heap.size, 0, none⟩)]]] [.expr, .only 5] (by rfl) (by first | exact (Rd.lits _ #[.func (.func 53) #[] #[], .func (.func 72) #[] #[.pointer (some ⟨W.heap.size, 0, none⟩)]] _ 2 1 rfl _ (by simp)).drew | exact Rd.lits _ #[.func (.func 53) #[] #[], .func (.func 72) #[] #[.pointer (some ⟨W.heap.size, 0, none⟩)]] _ 2 1 rfl _ (by simp)) rfl rfl (Shp.all2 ⟨_, rfl, rfl⟩ ⟨_, rfl, _, rfl, ⟨by simp <;> omega, fun e => by have := (HW.out.ow.ownlt e.symm).2; omega, by omega⟩, by simp [go_sem]⟩) (by simp <;> unfold maxLen <;> omega) (by simp <;> omega) (by simp <;> omega) ?_; intro A5 c5 w5 hown5 hgrow5 _; obtain ⟨g5, z5⟩ := HW.out.far (by first | exact (Below.refl _ _).drew | exact al2 ((Below.refl _ _).drew) _ | exact al2 (al2 ((Below.refl _ _).drew) _) _ | exact al2 (al2 (al2 ((Below.refl _ _).drew) _) _) _ | exact al2 (al2 (al2 (al2 ((Below.refl _ _).drew) _) _) _) _ | exact Below.drew (al _) | exact Below.drew (al2 (al _) _) | exact Below.drew (al2 (al2 (al _) _) _) | exact Below.drew (al2 (al2 (al2 (al _) _) _) _)) hgrow5; have n5 := far_c (i := 4) HW.out HX.out hgrow5 (by first | exact (Below.refl _ _).drew | exact al2 ((Below.refl _ _).drew) _ | exact al2 (al2 ((Below.refl _ _).drew) _) _ | exact al2 (al2 (al2 ((Below.refl _ _).drew) _) _) _ | exact al2 (al2 (al2 (al2 ((Below.refl _ _).drew) _) _) _) _ | exact Below.drew (al _) | exact Below.drew (al2 (al _) _) | exact Below.drew (al2 (al2 (al _) _) _) | exact Below.drew (al2 (al2 (al2 (al _) _) _) _)) HN.out))
    all_goals (
      try simp only [List.length_replicate] at hown5
      have ⟨a1, a2, a3⟩ := HW.out.nextC HX.out (by first | exact (Below.refl _ _).drew | exact al2 ((Below.refl _ _).drew) _ | exact al2 (al2 ((Below.refl _ _).drew) _) _ | exact al2 (al2 (al2 ((Below.refl _ _).drew) _) _) _ | exact al2 (al2 (al2 (al2 ((Below.refl _ _).drew) _) _) _) _ | exact Below.drew (al _) | exact Below.drew (al2 (al _) _) | exact Below.drew (al2 (al2 (al _) _) _) | exact Below.drew (al2 (al2 (al2 (al _) _) _) _)) hgrow5 hown5 HN.out
      have HW := Lib.hid a1
      have HX := Lib.hid (HX.out.trans (a2.down (by omega)))
      have HN := Lib.hid a3
      have hW5 : w.heap.size + 2 ≤ w5.heap.size := by have := HW.out.le; simpa using this
      clear a1 a2 a3 hown5 hgrow5
      go_wp2_with (first | (at_builtin; refine wpList_append_Own (S := FV.sh) rfl _ _ 64 rfl (w.heap.size + 2) 51 j0 _ 8 Tryz.underlying64 hj jz0 jz1 jz2 rfl (by show 0 < 1; omega) (· < w.heap.size + 2) _ _ rfl (HW.out.ow.below (al _)) _ _ 1 1 _ [[.func (.func 57) #[] #[]]] [.blIf] rfl (Rd.lits _ #[.func (.func 57) #[] #[]] _ 1 1 rfl _ (by simp)) rfl rfl (Shp.all1 ⟨_, rfl, rfl⟩) (by simp <;> unfold maxLen <;> omega) (by simp <;> omega) (by simp <;> omega) ?_; intro A5 c5 w5 hown5 hgrow5 _; obtain ⟨g5, z5⟩ := HW.out.far (al _) hgrow5; have n5 := far_c (i := 4) HW.out HX.out hgrow5 (al _) HN.out; have ⟨a1, a2, a3⟩ := HW.out.nextC HX.out (al _) hgrow5 hown5 HN.out; have HW := Lib.hid a1; have HX := Lib.hid (HX.out.trans (a2.down (by omega))); have HN := Lib.hid a3; clear a1 a2 a3 hown5 hgrow5) | fail "no")
      go_wp2_with fail
      go_quiet (fail)
      go_wp2_with fail
      go_returns
      exact want_end HW.out HX.out (by omega) (by unfold wnL; simp only [Int.reduceEq, if_true, if_false, or_self]; rw [if_pos HN1.out]; try rfl) rfl (by rw [Bool.eq_iff_iff]; simp <;> omega)))
set_option maxHeartbeats 4000000 in
theorem wants_if2 (x : ND) (A : Option Addr) (c : Nat) (w : World) (hk : x.kind = 10) (h1 : ¬ (x.kids.length : Int) = 3) : Calls Tryz.prog 37 #[ndV x A c] w (WantP x w) := by
  have hmf : ∀ (fn : Fn) (first cap : Array Value) (w : World), (Instr.makeFunc fn first cap).run Tryz.prog w = .ok (.func fn first cap) w := fun _ _ _ _ => rfl
  obtain ⟨j0, hj, jz0, jz1, jz2⟩ := info_parts info_fv
  obtain ⟨kd, tx, ty, nm, ks⟩ := x
  unfold ndV
  simp only at hk ⊢
  have HW := Lib.hid (wl_start w (.cells #[.int .i64 kd, .string tx, .string ty, .int .i64 nm, .slice A ks.length c] 31))
  have HX := Lib.hid (kx_start w (.cells #[.int .i64 kd, .string tx, .string ty, .int .i64 nm, .slice A ks.length c] 31) (.cells #[.slice none 0 0] 64) (w.heap.size + 1))
  have HN := Lib.hid (show ((w.alloc (.cells #[.int .i64 kd, .string tx, .string ty, .int .i64 nm, .slice A ks.length c] 31)).alloc (.cells #[.slice none 0 0] 64)).cell? ⟨w.heap.size, 4, none⟩ = some (.slice A ks.length c) by simp [go_sem])
  rcases hk with rfl
  all_goals (
    simp only at h1
    have HN1 := Lib.hid (show ¬ ks.length = 3 by omega)
    go_enter Tryz.func37, Tryz.ntmps37
    go_wp2_with fail
    have g0 := HW.out.ce
    have z0 := HW.out.fr
    have n0 := HN.out
    generalize World.alloc _ (.cells #[.slice none 0 0] _) = W at *
    have hW := HW.out.le
    have hW1 : w.heap.size + 1 < W.heap.size := hW
    have hW0 : w.heap.size < W.heap.size := by omega
    go_region_law (first | (refine step_only (by rfl) 5 (by rfl) ?_) | (refine step_append_Own (S := FV.sh) (by rfl) _ _ 64 (by rfl) (w.heap.size + 2) 51 j0 _ 8 Tryz.underlying64 hj jz0 jz1 jz2 rfl (by show 0 < 1; omega) (· < w.heap.size + 2) _ _ (by rfl) (HW.out.ow.below (by first | exact (Below.refl _ _).drew | exact al2 ((Below.refl _ _).drew) _ | exact al2 (al2 ((Below.refl _ _).drew) _) _ | exact al2 (al2 (al2 ((Below.refl _ _).drew) _) _) _ | exact al2 (al2 (al2 (al2 ((Below.refl _ _).drew) _) _) _) _ | exact Below.drew (al _) | exact Below.drew (al2 (al _) _) | exact Below.drew (al2 (al2 (al _) _) _) | exact Below.drew (al2 (al2 (al2 (al _) _) _) _))) _ _ 2 2 _ [[.func (.func 53) #[] #[]], [.func (.func 72) #[] #[.pointer (some ⟨W.heap.size, 0, none⟩)]]] [.expr, .only 5] (by rfl) (by first | exact (Rd.lits _ #[.func (.func 53) #[] #[], .func (.func 72) #[] #[.pointer (some ⟨W.heap.size, 0, none⟩)]] _ 2 1 rfl _ (by simp)).drew | exact Rd.lits _ #[.func (.func 53) #[] #[], .func (.func 72) #[] #[.pointer (some ⟨W.heap.size, 0, none⟩)]] _ 2 1 rfl _ (by simp)) rfl rfl (Shp.all2 ⟨_, rfl, rfl⟩ ⟨_, rfl, _, rfl, ⟨by simp <;> omega, fun e => by have := (HW.out.ow.ownlt e.symm).2; omega, by omega⟩, by simp [go_sem]⟩) (by simp <;> unfold maxLen <;> omega) (by simp <;> omega) (by simp <;> omega) ?_; intro A5 c5 w5 hown5 hgrow5 _; obtain ⟨g5, z5⟩ := HW.out.far (by first | exact (Below.refl _ _).drew | exact al2 ((Below.refl _ _).drew) _ | exact al2 (al2 ((Below.refl _ _).drew) _) _ | exact al2 (al2 (al2 ((Below.refl _ _).drew) _) _) _ | exact al2 (al2 (al2 (al2 ((Below.refl _ _).drew) _) _) _) _ | exact Below.drew (al _) | exact Below.drew (al2 (al _) _) | exact Below.drew (al2 (al2 (al _) _) _) | exact Below.drew (al2 (al2 (al2 (al _) _) _) _)) hgrow5; have n5 := far_c (i := 4) HW.out HX.out hgrow5 (by first | exact (Below.refl _ _).drew | exact al2 ((Below.refl _ _).drew) _ | exact al2 (al2 ((Below.refl _ _).drew) _) _ | exact al2 (al2 (al2 ((Below.refl _ _).drew) _) _) _ | exact al2 (al2 (al2 (al2 ((Below.refl _ _).drew) _) _) _) _ | exact Below.drew (al _) | exact Below.drew (al2 (al _) _) | exact Below.drew (al2 (al2 (al _) _) _) | exact Below.drew (al2 (al2 (al2 (al _) _) _) _)) HN.out))
    all_goals (
      try simp only [List.length_replicate] at hown5
      have ⟨a1, a2, a3⟩ := HW.out.nextC HX.out (by first | exact (Below.refl _ _).drew | exact al2 ((Below.refl _ _).drew) _ | exact al2 (al2 ((Below.refl _ _).drew) _) _ | exact al2 (al2 (al2 ((Below.refl _ _).drew) _) _) _ | exact al2 (al2 (al2 (al2 ((Below.refl _ _).drew) _) _) _) _ | exact Below.drew (al _) | exact Below.drew (al2 (al _) _) | exact Below.drew (al2 (al2 (al _) _) _) | exact Below.drew (al2 (al2 (al2 (al _) _) _) _)) hgrow5 hown5 HN.out
      have HW := Lib.hid a1
      have HX := Lib.hid (HX.out.trans (a2.down (by omega)))
      have HN := Lib.hid a3
      have hW5 : w.heap.size + 2 ≤ w5.heap.size := by have := HW.out.le; simpa using this
      clear a1 a2 a3 hown5 hgrow5
      go_wp2_with fail
      go_quiet (fail)
      go_wp2_with fail
      go_returns
      exact want_end HW.out HX.out (by omega) (by unfold wnL; simp only [Int.reduceEq, if_true, if_false, or_self]; rw [if_neg HN1.out]; try rfl) rfl (by rw [Bool.eq_iff_iff]; simp <;> omega)))
set_option maxHeartbeats 4000000 in
theorem wants_file (x : ND) (A : Option Addr) (c : Nat) (w : World) (hk : x.kind = 1) (hl : x.kids.length * 8 ≤ 140737488351232) : Calls Tryz.prog 37 #[ndV x A c] w (WantP x w) := by
  have hmf : ∀ (fn : Fn) (first cap : Array Value) (w : World), (Instr.makeFunc fn first cap).run Tryz.prog w = .ok (.func fn first cap) w := fun _ _ _ _ => rfl
  obtain ⟨j0, hj, jz0, jz1, jz2⟩ := info_parts info_fv
  obtain ⟨kd, tx, ty, nm, ks⟩ := x
  unfold ndV
  simp only at hk ⊢
  have HW := Lib.hid (wl_start w (.cells #[.int .i64 kd, .string tx, .string ty, .int .i64 nm, .slice A ks.length c] 31))
  have HX := Lib.hid (kx_start w (.cells #[.int .i64 kd, .string tx, .string ty, .int .i64 nm, .slice A ks.length c] 31) (.cells #[.slice none 0 0] 64) (w.heap.size + 1))
  have HN := Lib.hid (show ((w.alloc (.cells #[.int .i64 kd, .string tx, .string ty, .int .i64 nm, .slice A ks.length c] 31)).alloc (.cells #[.slice none 0 0] 64)).cell? ⟨w.heap.size, 4, none⟩ = some (.slice A ks.length c) by simp [go_sem])
  rcases hk with rfl
  all_goals (
    go_enter Tryz.func37, Tryz.ntmps37
    go_wp2_with fail
    refine Calls.mono (only_any 2 _) ?_
    rintro e w1 ⟨rfl, rfl⟩
    go_wp2_with fail
    refine Calls.mono (all_any (E0 := w.heap.size + 2) (base := w.heap.size + 3) (g := w.heap.size + 1) (T := []) (fv := .only 2) (n := ks.length) (c := c) (A := A) ⟨HW.out.near (al _) |>.1, Own.nil, HW.out.near (al _) |>.2, by omega, by omega, by simp⟩ ⟨_, rfl, ⟨by omega, by omega⟩, by simp [go_sem]⟩ (by omega) (by omega) (((al _).cell (p := ⟨w.heap.size, 4, none⟩) (by simp <;> omega)).trans HN.out) hl) ?_
    rintro e w5 ⟨rfl, ⟨v5, hw5⟩, hk5⟩
    have g5 := hw5.ce
    have z5 := hw5.fr
    have n5 := (World.cell?_of_block (a := ⟨w.heap.size, 4, none⟩) (hk5.block w.heap.size (by omega) (by omega))).trans (((al _).cell (p := ⟨w.heap.size, 4, none⟩) (by simp <;> omega)).trans HN.out)
    have HX := Lib.hid (HX.out.trans ((Kx.below ((al _).mono (by simp <;> omega))).trans (hk5.down (by omega))))
    obtain ⟨A9, c9, e9⟩ := hw5.ow.form
    rw [show (([] : List FV) ++ List.replicate (ks.length - ([] : List FV).length) (FV.only 2)).length = ks.length from by simp <;> omega] at e9
    subst e9
    have HW := Lib.hid hw5.down
    clear hw5 hk5
    go_wp2_with fail
    go_quiet (fail)
    go_wp2_with fail
    go_returns
    refine want_end (T := ([] : List FV) ++ List.replicate (ks.length - ([] : List FV).length) (FV.only 2)) HW.out HX.out (by omega) rfl rfl (by rw [Bool.eq_iff_iff]; simp <;> omega))
set_option maxHeartbeats 4000000 in
theorem wants_func0 (x : ND) (A : Option Addr) (c : Nat) (w : World) (hk : x.kind = 2 ∨ x.kind = 33) (h1 : x.num < 0) : Calls Tryz.prog 37 #[ndV x A c] w (WantP x w) := by
  have hmf : ∀ (fn : Fn) (first cap : Array Value) (w : World), (Instr.makeFunc fn first cap).run Tryz.prog w = .ok (.func fn first cap) w := fun _ _ _ _ => rfl
  obtain ⟨j0, hj, jz0, jz1, jz2⟩ := info_parts info_fv
  obtain ⟨kd, tx, ty, nm, ks⟩ := x
  unfold ndV
  simp only at hk ⊢
  have HW := Lib.hid (wl_start w (.cells #[.int .i64 kd, .string tx, .string ty, .int .i64 nm, .slice A ks.length c] 31))
  have HX := Lib.hid (kx_start w (.cells #[.int .i64 kd, .string tx, .string ty, .int .i64 nm, .slice A ks.length c] 31) (.cells #[.slice none 0 0] 64) (w.heap.size + 1))
  have HN := Lib.hid (show ((w.alloc (.cells #[.int .i64 kd, .string tx, .string ty, .int .i64 nm, .slice A ks.length c] 31)).alloc (.cells #[.slice none 0 0] 64)).cell? ⟨w.heap.size, 4, none⟩ = some (.slice A ks.length c) by simp [go_sem])
  rcases hk with rfl | rfl
  all_goals (
    simp only at h1
    have HN1 := Lib.hid h1
    go_enter Tryz.func37, Tryz.ntmps37
    go_wp2_with fail
    go_loopw [22] (fun i wr => ∃ (k : Nat) (v : Value), k ≤ 0 ∧ i = .int .i64 (k : Int) ∧ Wl (w.heap.size + 2) (w.heap.size + 2) (w.heap.size + 1) v (List.replicate k (.only 3)) wr ∧ Kx w.heap.size (w.heap.size + 1) w wr ∧ wr.cell? ⟨w.heap.size, 4, none⟩ = some (.slice A ks.length c)) (fun i _ => 0 - (intOf i).toNat)
    case atStart => exact ⟨0, _, Nat.zero_le _, rfl, HW.out, HX.out, HN.out⟩
    case round =>
      obtain ⟨k, v, hk, rfl, hw, hx, hn⟩ := hrel
      have HW := Lib.hid hw
      have HX := Lib.hid hx
      have HN := Lib.hid hn
      obtain ⟨A8, c8, e8⟩ := hw.ow.form
      rw [List.length_replicate] at e8
      subst e8
      clear hw hx hn
      by_cases hlt : k < 0
      · have hlti : (k : Int) < 0 := by omega
        go_wp2_with fail
        have g0 := HW.out.ce
        have z0 := HW.out.fr
        have n0 := HN.out
        generalize wr = W at *
        have hW := HW.out.le
        have hW1 : w.heap.size + 1 < W.heap.size := hW
        have hW0 : w.heap.size < W.heap.size := by omega
        go_region_law (first | (refine step_only (by rfl) 3 (by rfl) ?_) | (refine step_append_Own (S := FV.sh) (by rfl) _ _ 64 (by rfl) (w.heap.size + 2) 51 j0 _ 8 Tryz.underlying64 hj jz0 jz1 jz2 rfl (by show 0 < 1; omega) (· < w.heap.size + 2) _ _ (by rfl) (HW.out.ow.below (by first | exact (Below.refl _ _).drew | exact al2 ((Below.refl _ _).drew) _ | exact al2 (al2 ((Below.refl _ _).drew) _) _ | exact al2 (al2 (al2 ((Below.refl _ _).drew) _) _) _ | exact al2 (al2 (al2 (al2 ((Below.refl _ _).drew) _) _) _) _ | exact Below.drew (al _) | exact Below.drew (al2 (al _) _) | exact Below.drew (al2 (al2 (al _) _) _) | exact Below.drew (al2 (al2 (al2 (al _) _) _) _))) _ _ 1 1 _ [[.func (.func 72) #[] #[.pointer (some ⟨W.heap.size, 0, none⟩)]]] [.only 3] (by rfl) (by first | exact (Rd.lits _ #[.func (.func 72) #[] #[.pointer (some ⟨W.heap.size, 0, none⟩)]] _ 1 1 rfl _ (by simp)).drew | exact Rd.lits _ #[.func (.func 72) #[] #[.pointer (some ⟨W.heap.size, 0, none⟩)]] _ 1 1 rfl _ (by simp)) rfl rfl (Shp.all1 ⟨_, rfl, _, rfl, ⟨by simp <;> omega, fun e => by have := (HW.out.ow.ownlt e.symm).2; omega, by omega⟩, by simp [go_sem]⟩) (by simp <;> unfold maxLen <;> omega) (by simp <;> omega) (by simp <;> omega) ?_; intro A5 c5 w5 hown5 hgrow5 _; obtain ⟨g5, z5⟩ := HW.out.far (by first | exact (Below.refl _ _).drew | exact al2 ((Below.refl _ _).drew) _ | exact al2 (al2 ((Below.refl _ _).drew) _) _ | exact al2 (al2 (al2 ((Below.refl _ _).drew) _) _) _ | exact al2 (al2 (al2 (al2 ((Below.refl _ _).drew) _) _) _) _ | exact Below.drew (al _) | exact Below.drew (al2 (al _) _) | exact Below.drew (al2 (al2 (al _) _) _) | exact Below.drew (al2 (al2 (al2 (al _) _) _) _)) hgrow5; have n5 := far_c (i := 4) HW.out HX.out hgrow5 (by first | exact (Below.refl _ _).drew | exact al2 ((Below.refl _ _).drew) _ | exact al2 (al2 ((Below.refl _ _).drew) _) _ | exact al2 (al2 (al2 ((Below.refl _ _).drew) _) _) _ | exact al2 (al2 (al2 (al2 ((Below.refl _ _).drew) _) _) _) _ | exact Below.drew (al _) | exact Below.drew (al2 (al _) _) | exact Below.drew (al2 (al2 (al _) _) _) | exact Below.drew (al2 (al2 (al2 (al _) _) _) _)) HN.out))
        all_goals (
          try simp only [List.length_replicate] at hown5
          have ⟨a1, a2, a3⟩ := HW.out.nextC HX.out (by first | exact (Below.refl _ _).drew | exact al2 ((Below.refl _ _).drew) _ | exact al2 (al2 ((Below.refl _ _).drew) _) _ | exact al2 (al2 (al2 ((Below.refl _ _).drew) _) _) _ | exact al2 (al2 (al2 (al2 ((Below.refl _ _).drew) _) _) _) _ | exact Below.drew (al _) | exact Below.drew (al2 (al _) _) | exact Below.drew (al2 (al2 (al _) _) _) | exact Below.drew (al2 (al2 (al2 (al _) _) _) _)) hgrow5 hown5 HN.out
          have HW := Lib.hid a1
          have HX := Lib.hid (HX.out.trans (a2.down (by omega)))
          have HN := Lib.hid a3
          have hW5 : w.heap.size + 2 ≤ w5.heap.size := by have := HW.out.le; simpa using this
          clear a1 a2 a3 hown5 hgrow5
          go_wp2_with fail
          go_roundw
          case rel =>
            refine ⟨k + 1, .slice A5 (k + 1) c5, by omega, by go_num, ?_, HX.out, HN.out⟩
            rw [List.replicate_succ']
            exact HW.out
          case measure => simp [intOf]; omega)
      · have hlti : ¬ (k : Int) < 0 := by omega
        go_wp2_with fail
        have g0 := HW.out.ce
        have z0 := HW.out.fr
        have n0 := HN.out
        generalize wr = W at *
        have hW := HW.out.le
        have hW1 : w.heap.size + 1 < W.heap.size := hW
        have hW0 : w.heap.size < W.heap.size := by omega
        go_region_law (first | (refine step_only (by rfl) 4 (by rfl) ?_) | (refine step_only (by rfl) 5 (by rfl) ?_) | (refine step_append_Own (S := FV.sh) (by rfl) _ _ 64 (by rfl) (w.heap.size + 2) 51 j0 _ 8 Tryz.underlying64 hj jz0 jz1 jz2 rfl (by show 0 < 1; omega) (· < w.heap.size + 2) _ _ (by rfl) (HW.out.ow.below (by first | exact (Below.refl _ _).drew | exact al2 ((Below.refl _ _).drew) _ | exact al2 (al2 ((Below.refl _ _).drew) _) _ | exact al2 (al2 (al2 ((Below.refl _ _).drew) _) _) _ | exact al2 (al2 (al2 (al2 ((Below.refl _ _).drew) _) _) _) _ | exact Below.drew (al _) | exact Below.drew (al2 (al _) _) | exact Below.drew (al2 (al2 (al _) _) _) | exact Below.drew (al2 (al2 (al2 (al _) _) _) _))) _ _ 2 2 _ [[.func (.func 72) #[] #[.pointer (some ⟨W.heap.size + 1, 0, none⟩)]], [.func (.func 72) #[] #[.pointer (some ⟨W.heap.size, 0, none⟩)]]] [.only 4, .only 5] (by rfl) (by first | exact (Rd.lits _ #[.func (.func 72) #[] #[.pointer (some ⟨W.heap.size + 1, 0, none⟩)], .func (.func 72) #[] #[.pointer (some ⟨W.heap.size, 0, none⟩)]] _ 2 1 rfl _ (by simp)).drew | exact Rd.lits _ #[.func (.func 72) #[] #[.pointer (some ⟨W.heap.size + 1, 0, none⟩)], .func (.func 72) #[] #[.pointer (some ⟨W.heap.size, 0, none⟩)]] _ 2 1 rfl _ (by simp)) rfl rfl (Shp.all2 ⟨_, rfl, _, rfl, ⟨by simp <;> omega, fun e => by have := (HW.out.ow.ownlt e.symm).2; omega, by omega⟩, by simp [go_sem]⟩ ⟨_, rfl, _, rfl, ⟨by simp <;> omega, fun e => by have := (HW.out.ow.ownlt e.symm).2; omega, by omega⟩, by simp [go_sem]⟩) (by simp <;> unfold maxLen <;> omega) (by simp <;> omega) (by simp <;> omega) ?_; intro A5 c5 w5 hown5 hgrow5 _; obtain ⟨g5, z5⟩ := HW.out.far (by first | exact (Below.refl _ _).drew | exact al2 ((Below.refl _ _).drew) _ | exact al2 (al2 ((Below.refl _ _).drew) _) _ | exact al2 (al2 (al2 ((Below.refl _ _).drew) _) _) _ | exact al2 (al2 (al2 (al2 ((Below.refl _ _).drew) _) _) _) _ | exact Below.drew (al _) | exact Below.drew (al2 (al _) _) | exact Below.drew (al2 (al2 (al _) _) _) | exact Below.drew (al2 (al2 (al2 (al _) _) _) _)) hgrow5; have n5 := far_c (i := 4) HW.out HX.out hgrow5 (by first | exact (Below.refl _ _).drew | exact al2 ((Below.refl _ _).drew) _ | exact al2 (al2 ((Below.refl _ _).drew) _) _ | exact al2 (al2 (al2 ((Below.refl _ _).drew) _) _) _ | exact al2 (al2 (al2 (al2 ((Below.refl _ _).drew) _) _) _) _ | exact Below.drew (al _) | exact Below.drew (al2 (al _) _) | exact Below.drew (al2 (al2 (al _) _) _) | exact Below.drew (al2 (al2 (al2 (al _) _) _) _)) HN.out) | (refine step_append_Own (S := FV.sh) (by rfl) _ _ 64 (by rfl) (w.heap.size + 2) 51 j0 _ 8 Tryz.underlying64 hj jz0 jz1 jz2 rfl (by show 0 < 1; omega) (· < w.heap.size + 2) _ _ (by rfl) (HW.out.ow.below (by first | exact (Below.refl _ _).drew | exact al2 ((Below.refl _ _).drew) _ | exact al2 (al2 ((Below.refl _ _).drew) _) _ | exact al2 (al2 (al2 ((Below.refl _ _).drew) _) _) _ | exact al2 (al2 (al2 (al2 ((Below.refl _ _).drew) _) _) _) _ | exact Below.drew (al _) | exact Below.drew (al2 (al _) _) | exact Below.drew (al2 (al2 (al _) _) _) | exact Below.drew (al2 (al2 (al2 (al _) _) _) _))) _ _ 2 2 _ [[.func (.func 72) #[] #[.pointer (some ⟨W.heap.size, 0, none⟩)]], [.func (.func 72) #[] #[.pointer (some ⟨W.heap.size + 1, 0, none⟩)]]] [.only 4, .only 5] (by rfl) (by first | exact (Rd.lits _ #[.func (.func 72) #[] #[.pointer (some ⟨W.heap.size, 0, none⟩)], .func (.func 72) #[] #[.pointer (some ⟨W.heap.size + 1, 0, none⟩)]] _ 2 1 rfl _ (by simp)).drew | exact Rd.lits _ #[.func (.func 72) #[] #[.pointer (some ⟨W.heap.size, 0, none⟩)], .func (.func 72) #[] #[.pointer (some ⟨W.heap.size + 1, 0, none⟩)]] _ 2 1 rfl _ (by simp)) rfl rfl (Shp.all2 ⟨_, rfl, _, rfl, ⟨by simp <;> omega, fun e => by have := (HW.out.ow.ownlt e.symm).2; omega, by omega⟩, by simp [go_sem]⟩ ⟨_, rfl, _, rfl, ⟨by simp <;> omega, fun e => by have := (HW.out.ow.ownlt e.symm).2; omega, by omega⟩, by simp [go_sem]⟩) (by simp <;> unfold maxLen <;> omega) (by simp <;> omega) (by simp <;> omega) ?_; intro A5 c5 w5 hown5 hgrow5 _; obtain ⟨g5, z5⟩ := HW.out.far (by first | exact (Below.refl _ _).drew | exact al2 ((Below.refl _ _).drew) _ | exact al2 (al2 ((Below.refl _ _).drew) _) _ | exact al2 (al2 (al2 ((Below.refl _ _).drew) _) _) _ | exact al2 (al2 (al2 (al2 ((Below.refl _ _).drew) _) _) _) _ | exact Below.drew (al _) | exact Below.drew (al2 (al _) _) | exact Below.drew (al2 (al2 (al _) _) _) | exact Below.drew (al2 (al2 (al2 (al _) _) _) _)) hgrow5; have n5 := far_c (i := 4) HW.out HX.out hgrow5 (by first | exact (Below.refl _ _).drew | exact al2 ((Below.refl _ _).drew) _ | exact al2 (al2 ((Below.refl _ _).drew) _) _ | exact al2 (al2 (al2 ((Below.refl _ _).drew) _) _) _ | exact al2 (al2 (al2 (al2 ((Below.refl _ _).drew) _) _) _) _ | exact Below.drew (al _) | exact Below.drew (al2 (al _) _) | exact Below.drew (al2 (al2 (al _) _) _) | exact Below.drew (al2 (al2 (al2 (al _) _) _) _)) HN.out))
        all_goals (
          try simp only [List.length_replicate] at hown5
          have ⟨a1, a2, a3⟩ := HW.out.nextC HX.out (by first | exact (Below.refl _ _).drew | exact al2 ((Below.refl _ _).drew) _ | exact al2 (al2 ((Below.refl _ _).drew) _) _ | exact al2 (al2 (al2 ((Below.refl _ _).drew) _) _) _ | exact al2 (al2 (al2 (al2 ((Below.refl _ _).drew) _) _) _) _ | exact Below.drew (al _) | exact Below.drew (al2 (al _) _) | exact Below.drew (al2 (al2 (al _) _) _) | exact Below.drew (al2 (al2 (al2 (al _) _) _) _)) hgrow5 hown5 HN.out
          have HW := Lib.hid a1
          have HX := Lib.hid (HX.out.trans (a2.down (by omega)))
          have HN := Lib.hid a3
          have hW5 : w.heap.size + 2 ≤ w5.heap.size := by have := HW.out.le; simpa using this
          clear a1 a2 a3 hown5 hgrow5
          go_wp2_with fail
          go_quiet (fail)
          go_wp2_with fail
          go_returns
          exact want_end HW.out HX.out (by omega) (by unfold wnL; simp only [Int.reduceEq, if_true, if_false, or_self, true_or, or_true]; rw [show (min (max nm 0) 4).toNat = k by omega]) rfl (by rw [Bool.eq_iff_iff]; simp <;> omega)))
set_option maxHeartbeats 4000000 in
theorem wants_func4 (x : ND) (A : Option Addr) (c : Nat) (w : World) (hk : x.kind = 2 ∨ x.kind = 33) (h1 : 4 < x.num) : Calls Tryz.prog 37 #[ndV x A c] w (WantP x w) := by
  have hmf : ∀ (fn : Fn) (first cap : Array Value) (w : World), (Instr.makeFunc fn first cap).run Tryz.prog w = .ok (.func fn first cap) w := fun _ _ _ _ => rfl
  obtain ⟨j0, hj, jz0, jz1, jz2⟩ := info_parts info_fv
  obtain ⟨kd, tx, ty, nm, ks⟩ := x
  unfold ndV
  simp only at hk ⊢
  have HW := Lib.hid (wl_start w (.cells #[.int .i64 kd, .string tx, .string ty, .int .i64 nm, .slice A ks.length c] 31))
  have HX := Lib.hid (kx_start w (.cells #[.int .i64 kd, .string tx, .string ty, .int .i64 nm, .slice A ks.length c] 31) (.cells #[.slice none 0 0] 64) (w.heap.size + 1))
  have HN := Lib.hid (show ((w.alloc (.cells #[.int .i64 kd, .string tx, .string ty, .int .i64 nm, .slice A ks.length c] 31)).alloc (.cells #[.slice none 0 0] 64)).cell? ⟨w.heap.size, 4, none⟩ = some (.slice A ks.length c) by simp [go_sem])
  rcases hk with rfl | rfl
  all_goals (
    simp only at h1
    have HN1 := Lib.hid h1
    go_enter Tryz.func37, Tryz.ntmps37
    go_wp2_with fail
    go_loopw [22] (fun i wr => ∃ (k : Nat) (v : Value), k ≤ 4 ∧ i = .int .i64 (k : Int) ∧ Wl (w.heap.size + 2) (w.heap.size + 2) (w.heap.size + 1) v (List.replicate k (.only 3)) wr ∧ Kx w.heap.size (w.heap.size + 1) w wr ∧ wr.cell? ⟨w.heap.size, 4, none⟩ = some (.slice A ks.length c)) (fun i _ => 4 - (intOf i).toNat)
    case atStart => exact ⟨0, _, Nat.zero_le _, rfl, HW.out, HX.out, HN.out⟩
    case round =>
      obtain ⟨k, v, hk, rfl, hw, hx, hn⟩ := hrel
      have HW := Lib.hid hw
      have HX := Lib.hid hx
      have HN := Lib.hid hn
      obtain ⟨A8, c8, e8⟩ := hw.ow.form
      rw [List.length_replicate] at e8
      subst e8
      clear hw hx hn
      by_cases hlt : k < 4
      · have hlti : (k : Int) < 4 := by omega
        go_wp2_with fail
        have g0 := HW.out.ce
        have z0 := HW.out.fr
        have n0 := HN.out
        generalize wr = W at *
        have hW := HW.out.le
        have hW1 : w.heap.size + 1 < W.heap.size := hW
        have hW0 : w.heap.size < W.heap.size := by omega
        go_region_law (first | (refine step_only (by rfl) 3 (by rfl) ?_) | (refine step_append_Own (S := FV.sh) (by rfl) _ _ 64 (by rfl) (w.heap.size + 2) 51 j0 _ 8 Tryz.underlying64 hj jz0 jz1 jz2 rfl (by show 0 < 1; omega) (· < w.heap.size + 2) _ _ (by rfl) (HW.out.ow.below (by first | exact (Below.refl _ _).drew | exact al2 ((Below.refl _ _).drew) _ | exact al2 (al2 ((Below.refl _ _).drew) _) _ | exact al2 (al2 (al2 ((Below.refl _ _).drew) _) _) _ | exact al2 (al2 (al2 (al2 ((Below.refl _ _).drew) _) _) _) _ | exact Below.drew (al _) | exact Below.drew (al2 (al _) _) | exact Below.drew (al2 (al2 (al _) _) _) | exact Below.drew (al2 (al2 (al2 (al _) _) _) _))) _ _ 1 1 _ [[.func (.func 72) #[] #[.pointer (some ⟨W.heap.size, 0, none⟩)]]] [.only 3] (by rfl) (by first | exact (Rd.lits _ #[.func (.func 72) #[] #[.pointer (some ⟨W.heap.size, 0, none⟩)]] _ 1 1 rfl _ (by simp)).drew | exact Rd.lits _ #[.func (.func 72) #[] #[.pointer (some ⟨W.heap.size, 0, none⟩)]] _ 1 1 rfl _ (by simp)) rfl rfl (Shp.all1 ⟨_, rfl, _, rfl, ⟨by simp <;> omega, fun e => by have := (HW.out.ow.ownlt e.symm).2; omega, by omega⟩, by simp [go_sem]⟩) (by simp <;> unfold maxLen <;> omega) (by simp <;> omega) (by simp <;> omega) ?_; intro A5 c5 w5 hown5 hgrow5 _; obtain ⟨g5, z5⟩ := HW.out.far (by first | exact (Below.refl _ _).drew | exact al2 ((Below.refl _ _).drew) _ | exact al2 (al2 ((Below.refl _ _).drew) _) _ | exact al2 (al2 (al2 ((Below.refl _ _).drew) _) _) _ | exact al2 (al2 (al2 (al2 ((Below.refl _ _).drew) _) _) _) _ | exact Below.drew (al _) | exact Below.drew (al2 (al _) _) | exact Below.drew (al2 (al2 (al _) _) _) | exact Below.drew (al2 (al2 (al2 (al _) _) _) _)) hgrow5; have n5 := far_c (i := 4) HW.out HX.out hgrow5 (by first | exact (Below.refl _ _).drew | exact al2 ((Below.refl _ _).drew) _ | exact al2 (al2 ((Below.refl _ _).drew) _) _ | exact al2 (al2 (al2 ((Below.refl _ _).drew) _) _) _ | exact al2 (al2 (al2 (al2 ((Below.refl _ _).drew) _) _) _) _ | exact Below.drew (al _) | exact Below.drew (al2 (al _) _) | exact Below.drew (al2 (al2 (al _) _) _) | exact Below.drew (al2 (al2 (al2 (al _) _) _) _)) HN.out))
        all_goals (
          try simp only [List.length_replicate] at hown5
          have ⟨a1, a2, a3⟩ := HW.out.nextC HX.out (by first | exact (Below.refl _ _).drew | exact al2 ((Below.refl _ _).drew) _ | exact al2 (al2 ((Below.refl _ _).drew) _) _ | exact al2 (al2 (al2 ((Below.refl _ _).drew) _) _) _ | exact al2 (al2 (al2 (al2 ((Below.refl _ _).drew) _) _) _) _ | exact Below.drew (al _) | exact Below.drew (al2 (al _) _) | exact Below.drew (al2 (al2 (al _) _) _) | exact Below.drew (al2 (al2 (al2 (al _) _) _) _)) hgrow5 hown5 HN.out
          have HW := Lib.hid a1
          have HX := Lib.hid (HX.out.trans (a2.down (by omega)))
          have HN := Lib.hid a3
          have hW5 : w.heap.size + 2 ≤ w5.heap.size := by have := HW.out.le; simpa using this
          clear a1 a2 a3 hown5 hgrow5
          go_wp2_with fail
          go_roundw
          case rel =>
            refine ⟨k + 1, .slice A5 (k + 1) c5, by omega, by go_num, ?_, HX.out, HN.out⟩
            rw [List.replicate_succ']
            exact HW.out
          case measure => simp [intOf]; omega)
      · have hlti : ¬ (k : Int) < 4 := by omega
        go_wp2_with fail
        have g0 := HW.out.ce
        have z0 := HW.out.fr
        have n0 := HN.out
        generalize wr = W at *
        have hW := HW.out.le
        have hW1 : w.heap.size + 1 < W.heap.size := hW
        have hW0 : w.heap.size < W.heap.size := by omega
        go_region_law (first | (refine step_only (by rfl) 4 (by rfl) ?_) | (refine step_only (by rfl) 5 (by rfl) ?_) | (refine step_append_Own (S := FV.sh) (by rfl) _ _ 64 (by rfl) (w.heap.size + 2) 51 j0 _ 8 Tryz.underlying64 hj jz0 jz1 jz2 rfl (by show 0 < 1; omega) (· < w.heap.size + 2) _ _ (by rfl) (HW.out.ow.below (by first | exact (Below.refl _ _).drew | exact al2 ((Below.refl _ _).drew) _ | exact al2 (al2 ((Below.refl _ _).drew) _) _ | exact al2 (al2 (al2 ((Below.refl _ _).drew) _) _) _ | exact al2 (al2 (al2 (al2 ((Below.refl _ _).drew) _) _) _) _ | exact Below.drew (al _) | exact Below.drew (al2 (al _) _) | exact Below.drew (al2 (al2 (al _) _) _) | exact Below.drew (al2 (al2 (al2 (al _) _) _) _))) _ _ 2 2 _ [[.func (.func 72) #[] #[.pointer (some ⟨W.heap.size + 1, 0, none⟩)]], [.func (.func 72) #[] #[.pointer (some ⟨W.heap.size, 0, none⟩)]]] [.only 4, .only 5] (by rfl) (by first | exact (Rd.lits _ #[.func (.func 72) #[] #[.pointer (some ⟨W.heap.size + 1, 0, none⟩)], .func (.func 72) #[] #[.pointer (some ⟨W.heap.size, 0, none⟩)]] _ 2 1 rfl _ (by simp)).drew | exact Rd.lits _ #[.func (.func 72) #[] #[.pointer (some ⟨W.heap.size + 1, 0, none⟩)], .func (.func 72) #[] #[.pointer (some ⟨W.heap.size, 0, none⟩)]] _ 2 1 rfl _ (by simp)) rfl rfl (Shp.all2 ⟨_, rfl, _, rfl, ⟨by simp <;> omega, fun e => by have := (HW.out.ow.ownlt e.symm).2; omega, by omega⟩, by simp [go_sem]⟩ ⟨_, rfl, _, rfl, ⟨by simp <;> omega, fun e => by have := (HW.out.ow.ownlt e.symm).2; omega, by omega⟩, by simp [go_sem]⟩) (by simp <;> unfold maxLen <;> omega) (by simp <;> omega) (by simp <;> omega) ?_; intro A5 c5 w5 hown5 hgrow5 _; obtain ⟨g5, z5⟩ := HW.out.far (by first | exact (Below.refl _ _).drew | exact al2 ((Below.refl _ _).drew) _ | exact al2 (al2 ((Below.refl _ _).drew) _) _ | exact al2 (al2 (al2 ((Below.refl _ _).drew) _) _) _ | exact al2 (al2 (al2 (al2 ((Below.refl _ _).drew) _) _) _) _ | exact Below.drew (al _) | exact Below.drew (al2 (al _) _) | exact Below.drew (al2 (al2 (al _) _) _) | exact Below.drew (al2 (al2 (al2 (al _) _) _) _)) hgrow5; have n5 := far_c (i := 4) HW.out HX.out hgrow5 (by first | exact (Below.refl _ _).drew | exact al2 ((Below.refl _ _).drew) _ | exact al2 (al2 ((Below.refl _ _).drew) _) _ | exact al2 (al2 (al2 ((Below.refl _ _).drew) _) _) _ | exact al2 (al2 (al2 (al2 ((Below.refl _ _).drew) _) _) _) _ | exact Below.drew (al _) | exact Below.drew (al2 (al _) _) | exact Below.drew (al2 (al2 (al _) _) _) | exact Below.drew (al2 (al2 (al2 (al _) _) _) _)) HN.out) | (refine step_append_Own (S := FV.sh) (by rfl) _ _ 64 (by rfl) (w.heap.size + 2) 51 j0 _ 8 Tryz.underlying64 hj jz0 jz1 jz2 rfl (by show 0 < 1; omega) (· < w.heap.size + 2) _ _ (by rfl) (HW.out.ow.below (by first | exact (Below.refl _ _).drew | exact al2 ((Below.refl _ _).drew) _ | exact al2 (al2 ((Below.refl _ _).drew) _) _ | exact al2 (al2 (al2 ((Below.refl _ _).drew) _) _) _ | exact al2 (al2 (al2 (al2 ((Below.refl _ _).drew) _) _) _) _ | exact Below.drew (al _) | exact Below.drew (al2 (al _) _) | exact Below.drew (al2 (al2 (al _) _) _) | exact Below.drew (al2 (al2 (al2 (al _) _) _) _))) _ _ 2 2 _ [[.func (.func 72) #[] #[.pointer (some ⟨W.heap.size, 0, none⟩)]], [.func (.func 72) #[] #[.pointer (some ⟨W.heap.size + 1, 0, none⟩)]]] [.only 4, .only 5] (by rfl) (by first | exact (Rd.lits _ #[.func (.func 72) #[] #[.pointer (some ⟨W.heap.size, 0, none⟩)], .func (.func 72) #[] #[.pointer (some ⟨W.heap.size + 1, 0, none⟩)]] _ 2 1 rfl _ (by simp)).drew | exact Rd.lits _ #[.func (.func 72) #[] #[.pointer (some ⟨W.heap.size, 0, none⟩)], .func (.func 72) #[] #[.pointer (some ⟨W.heap.size + 1, 0, none⟩)]] _ 2 1 rfl _ (by simp)) rfl rfl (Shp.all2 ⟨_, rfl, _, rfl, ⟨by simp <;> omega, fun e => by have := (HW.out.ow.ownlt e.symm).2; omega, by omega⟩, by simp [go_sem]⟩ ⟨_, rfl, _, rfl, ⟨by simp <;> omega, fun e => by have := (HW.out.ow.ownlt e.symm).2; omega, by omega⟩, by simp [go_sem]⟩) (by simp <;> unfold maxLen <;> omega) (by simp <;> omega) (by simp <;> omega) ?_; intro A5 c5 w5 hown5 hgrow5 _; obtain ⟨g5, z5⟩ := HW.out.far (by first | exact (Below.refl _ _).drew | exact al2 ((Below.refl _ _).drew) _ | exact al2 (al2 ((Below.refl _ _).drew) _) _ | exact al2 (al2 (al2 ((Below.refl _ _).drew) _) _) _ | exact al2 (al2 (al2 (al2 ((Below.refl _ _).drew) _) _) _) _ | exact Below.drew (al _) | exact Below.drew (al2 (al _) _) | exact Below.drew (al2 (al2 (al _) _) _) | exact Below.drew (al2 (al2 (al2 (al _) _) _) _)) hgrow5; have n5 := far_c (i := 4) HW.out HX.out hgrow5 (by first | exact (Below.refl _ _).drew | exact al2 ((Below.refl _ _).drew) _ | exact al2 (al2 ((Below.refl _ _).drew) _) _ | exact al2 (al2 (al2 ((Below.refl _ _).drew) _) _) _ | exact al2 (al2 (al2 (al2 ((Below.refl _ _).drew) _) _) _) _ | exact Below.drew (al _) | exact Below.drew (al2 (al _) _) | exact Below.drew (al2 (al2 (al _) _) _) | exact Below.drew (al2 (al2 (al2 (al _) _) _) _)) HN.out))
        all_goals (
          try simp only [List.length_replicate] at hown5
          have ⟨a1, a2, a3⟩ := HW.out.nextC HX.out (by first | exact (Below.refl _ _).drew | exact al2 ((Below.refl _ _).drew) _ | exact al2 (al2 ((Below.refl _ _).drew) _) _ | exact al2 (al2 (al2 ((Below.refl _ _).drew) _) _) _ | exact al2 (al2 (al2 (al2 ((Below.refl _ _).drew) _) _) _) _ | exact Below.drew (al _) | exact Below.drew (al2 (al _) _) | exact Below.drew (al2 (al2 (al _) _) _) | exact Below.drew (al2 (al2 (al2 (al _) _) _) _)) hgrow5 hown5 HN.out
          have HW := Lib.hid a1
          have HX := Lib.hid (HX.out.trans (a2.down (by omega)))
          have HN := Lib.hid a3
          have hW5 : w.heap.size + 2 ≤ w5.heap.size := by have := HW.out.le; simpa using this
          clear a1 a2 a3 hown5 hgrow5
          go_wp2_with fail
          go_quiet (fail)
          go_wp2_with fail
          go_returns
          exact want_end HW.out HX.out (by omega) (by unfold wnL; simp only [Int.reduceEq, if_true, if_false, or_self, true_or, or_true]; rw [show (min (max nm 0) 4).toNat = k by omega]) rfl (by rw [Bool.eq_iff_iff]; simp <;> omega)))
set_option maxHeartbeats 4000000 in
theorem wants_funcN (x : ND) (A : Option Addr) (c : Nat) (w : World) (hk : x.kind = 2 ∨ x.kind = 33) (h1 : 0 ≤ x.num ∧ x.num ≤ 4) : Calls Tryz.prog 37 #[ndV x A c] w (WantP x w) := by
  have hmf : ∀ (fn : Fn) (first cap : Array Value) (w : World), (Instr.makeFunc fn first cap).run Tryz.prog w = .ok (.func fn first cap) w := fun _ _ _ _ => rfl
  obtain ⟨j0, hj, jz0, jz1, jz2⟩ := info_parts info_fv
  obtain ⟨kd, tx, ty, nm, ks⟩ := x
  unfold ndV
  simp only at hk ⊢
  have HW := Lib.hid (wl_start w (.cells #[.int .i64 kd, .string tx, .string ty, .int .i64 nm, .slice A ks.length c] 31))
  have HX := Lib.hid (kx_start w (.cells #[.int .i64 kd, .string tx, .string ty, .int .i64 nm, .slice A ks.length c] 31) (.cells #[.slice none 0 0] 64) (w.heap.size + 1))
  have HN := Lib.hid (show ((w.alloc (.cells #[.int .i64 kd, .string tx, .string ty, .int .i64 nm, .slice A ks.length c] 31)).alloc (.cells #[.slice none 0 0] 64)).cell? ⟨w.heap.size, 4, none⟩ = some (.slice A ks.length c) by simp [go_sem])
  rcases hk with rfl | rfl
  all_goals (
    simp only at h1
    have HN1 := Lib.hid h1
    go_enter Tryz.func37, Tryz.ntmps37
    go_wp2_with fail
    go_loopw [22] (fun i wr => ∃ (k : Nat) (v : Value), k ≤ nm.toNat ∧ i = .int .i64 (k : Int) ∧ Wl (w.heap.size + 2) (w.heap.size + 2) (w.heap.size + 1) v (List.replicate k (.only 3)) wr ∧ Kx w.heap.size (w.heap.size + 1) w wr ∧ wr.cell? ⟨w.heap.size, 4, none⟩ = some (.slice A ks.length c)) (fun i _ => nm.toNat - (intOf i).toNat)
    case atStart => exact ⟨0, _, Nat.zero_le _, rfl, HW.out, HX.out, HN.out⟩
    case round =>
      obtain ⟨k, v, hk, rfl, hw, hx, hn⟩ := hrel
      have HW := Lib.hid hw
      have HX := Lib.hid hx
      have HN := Lib.hid hn
      obtain ⟨A8, c8, e8⟩ := hw.ow.form
      rw [List.length_replicate] at e8
      subst e8
      clear hw hx hn
      by_cases hlt : k < nm.toNat
      · have hlti : (k : Int) < nm := by omega
        go_wp2_with fail
        have g0 := HW.out.ce
        have z0 := HW.out.fr
        have n0 := HN.out
        generalize wr = W at *
        have hW := HW.out.le
        have hW1 : w.heap.size + 1 < W.heap.size := hW
        have hW0 : w.heap.size < W.heap.size := by omega
        go_region_law (first | (refine step_only (by rfl) 3 (by rfl) ?_) | (refine step_append_Own (S := FV.sh) (by rfl) _ _ 64 (by rfl) (w.heap.size + 2) 51 j0 _ 8 Tryz.underlying64 hj jz0 jz1 jz2 rfl (by show 0 < 1; omega) (· < w.heap.size + 2) _ _ (by rfl) (HW.out.ow.below (by first | exact (Below.refl _ _).drew | exact al2 ((Below.refl _ _).drew) _ | exact al2 (al2 ((Below.refl _ _).drew) _) _ | exact al2 (al2 (al2 ((Below.refl _ _).drew) _) _) _ | exact al2 (al2 (al2 (al2 ((Below.refl _ _).drew) _) _) _) _ | exact Below.drew (al _) | exact Below.drew (al2 (al _) _) | exact Below.drew (al2 (al2 (al _) _) _) | exact Below.drew (al2 (al2 (al2 (al _) _) _) _))) _ _ 1 1 _ [[.func (.func 72) #[] #[.pointer (some ⟨W.heap.size, 0, none⟩)]]] [.only 3] (by rfl) (by first | exact (Rd.lits _ #[.func (.func 72) #[] #[.pointer (some ⟨W.heap.size, 0, none⟩)]] _ 1 1 rfl _ (by simp)).drew | exact Rd.lits _ #[.func (.func 72) #[] #[.pointer (some ⟨W.heap.size, 0, none⟩)]] _ 1 1 rfl _ (by simp)) rfl rfl (Shp.all1 ⟨_, rfl, _, rfl, ⟨by simp <;> omega, fun e => by have := (HW.out.ow.ownlt e.symm).2; omega, by omega⟩, by simp [go_sem]⟩) (by simp <;> unfold maxLen <;> omega) (by simp <;> omega) (by simp <;> omega) ?_; intro A5 c5 w5 hown5 hgrow5 _; obtain ⟨g5, z5⟩ := HW.out.far (by first | exact (Below.refl _ _).drew | exact al2 ((Below.refl _ _).drew) _ | exact al2 (al2 ((Below.refl _ _).drew) _) _ | exact al2 (al2 (al2 ((Below.refl _ _).drew) _) _) _ | exact al2 (al2 (al2 (al2 ((Below.refl _ _).drew) _) _) _) _ | exact Below.drew (al _) | exact Below.drew (al2 (al _) _) | exact Below.drew (al2 (al2 (al _) _) _) | exact Below.drew (al2 (al2 (al2 (al _) _) _) _)) hgrow5; have n5 := far_c (i := 4) HW.out HX.out hgrow5 (by first | exact (Below.refl _ _).drew | exact al2 ((Below.refl _ _).drew) _ | exact al2 (al2 ((Below.refl _ _).drew) _) _ | exact al2 (al2 (al2 ((Below.refl _ _).drew) _) _) _ | exact al2 (al2 (al2 (al2 ((Below.refl _ _).drew) _) _) _) _ | exact Below.drew (al _) | exact Below.drew (al2 (al _) _) | exact Below.drew (al2 (al2 (al _) _) _) | exact Below.drew (al2 (al2 (al2 (al _) _) _) _)) HN.out))
        all_goals (
          try simp only [List.length_replicate] at hown5
          have ⟨a1, a2, a3⟩ := HW.out.nextC HX.out (by first | exact (Below.refl _ _).drew | exact al2 ((Below.refl _ _).drew) _ | exact al2 (al2 ((Below.refl _ _).drew) _) _ | exact al2 (al2 (al2 ((Below.refl _ _).drew) _) _) _ | exact al2 (al2 (al2 (al2 ((Below.refl _ _).drew) _) _) _) _ | exact Below.drew (al _) | exact Below.drew (al2 (al _) _) | exact Below.drew (al2 (al2 (al _) _) _) | exact Below.drew (al2 (al2 (al2 (al _) _) _) _)) hgrow5 hown5 HN.out
          have HW := Lib.hid a1
          have HX := Lib.hid (HX.out.trans (a2.down (by omega)))
          have HN := Lib.hid a3
          have hW5 : w.heap.size + 2 ≤ w5.heap.size := by have := HW.out.le; simpa using this
          clear a1 a2 a3 hown5 hgrow5
          go_wp2_with fail
          go_roundw
          case rel =>
            refine ⟨k + 1, .slice A5 (k + 1) c5, by omega, by go_num, ?_, HX.out, HN.out⟩
            rw [List.replicate_succ']
            exact HW.out
          case measure => simp [intOf]; omega)
      · have hlti : ¬ (k : Int) < nm := by omega
        go_wp2_with fail
        have g0 := HW.out.ce
        have z0 := HW.out.fr
        have n0 := HN.out
        generalize wr = W at *
        have hW := HW.out.le
        have hW1 : w.heap.size + 1 < W.heap.size := hW
        have hW0 : w.heap.size < W.heap.size := by omega
        go_region_law (first | (refine step_only (by rfl) 4 (by rfl) ?_) | (refine step_only (by rfl) 5 (by rfl) ?_) | (refine step_append_Own (S := FV.sh) (by rfl) _ _ 64 (by rfl) (w.heap.size + 2) 51 j0 _ 8 Tryz.underlying64 hj jz0 jz1 jz2 rfl (by show 0 < 1; omega) (· < w.heap.size + 2) _ _ (by rfl) (HW.out.ow.below (by first | exact (Below.refl _ _).drew | exact al2 ((Below.refl _ _).drew) _ | exact al2 (al2 ((Below.refl _ _).drew) _) _ | exact al2 (al2 (al2 ((Below.refl _ _).drew) _) _) _ | exact al2 (al2 (al2 (al2 ((Below.refl _ _).drew) _) _) _) _ | exact Below.drew (al _) | exact Below.drew (al2 (al _) _) | exact Below.drew (al2 (al2 (al _) _) _) | exact Below.drew (al2 (al2 (al2 (al _) _) _) _))) _ _ 2 2 _ [[.func (.func 72) #[] #[.pointer (some ⟨W.heap.size + 1, 0, none⟩)]], [.func (.func 72) #[] #[.pointer (some ⟨W.heap.size, 0, none⟩)]]] [.only 4, .only 5] (by rfl) (by first | exact (Rd.lits _ #[.func (.func 72) #[] #[.pointer (some ⟨W.heap.size + 1, 0, none⟩)], .func (.func 72) #[] #[.pointer (some ⟨W.heap.size, 0, none⟩)]] _ 2 1 rfl _ (by simp)).drew | exact Rd.lits _ #[.func (.func 72) #[] #[.pointer (some ⟨W.heap.size + 1, 0, none⟩)], .func (.func 72) #[] #[.pointer (some ⟨W.heap.size, 0, none⟩)]] _ 2 1 rfl _ (by simp)) rfl rfl (Shp.all2 ⟨_, rfl, _, rfl, ⟨by simp <;> omega, fun e => by have := (HW.out.ow.ownlt e.symm).2; omega, by omega⟩, by simp [go_sem]⟩ ⟨_, rfl, _, rfl, ⟨by simp <;> omega, fun e => by have := (HW.out.ow.ownlt e.symm).2; omega, by omega⟩, by simp [go_sem]⟩) (by simp <;> unfold maxLen <;> omega) (by simp <;> omega) (by simp <;> omega) ?_; intro A5 c5 w5 hown5 hgrow5 _; obtain ⟨g5, z5⟩ := HW.out.far (by first | exact (Below.refl _ _).drew | exact al2 ((Below.refl _ _).drew) _ | exact al2 (al2 ((Below.refl _ _).drew) _) _ | exact al2 (al2 (al2 ((Below.refl _ _).drew) _) _) _ | exact al2 (al2 (al2 (al2 ((Below.refl _ _).drew) _) _) _) _ | exact Below.drew (al _) | exact Below.drew (al2 (al _) _) | exact Below.drew (al2 (al2 (al _) _) _) | exact Below.drew (al2 (al2 (al2 (al _) _) _) _)) hgrow5; have n5 := far_c (i := 4) HW.out HX.out hgrow5 (by first | exact (Below.refl _ _).drew | exact al2 ((Below.refl _ _).drew) _ | exact al2 (al2 ((Below.refl _ _).drew) _) _ | exact al2 (al2 (al2 ((Below.refl _ _).drew) _) _) _ | exact al2 (al2 (al2 (al2 ((Below.refl _ _).drew) _) _) _) _ | exact Below.drew (al _) | exact Below.drew (al2 (al _) _) | exact Below.drew (al2 (al2 (al _) _) _) | exact Below.drew (al2 (al2 (al2 (al _) _) _) _)) HN.out) | (refine step_append_Own (S := FV.sh) (by rfl) _ _ 64 (by rfl) (w.heap.size + 2) 51 j0 _ 8 Tryz.underlying64 hj jz0 jz1 jz2 rfl (by show 0 < 1; omega) (· < w.heap.size + 2) _ _ (by rfl) (HW.out.ow.below (by first | exact (Below.refl _ _).drew | exact al2 ((Below.refl _ _).drew) _ | exact al2 (al2 ((Below.refl _ _).drew) _) _ | exact al2 (al2 (al2 ((Below.refl _ _).drew) _) _) _ | exact al2 (al2 (al2 (al2 ((Below.refl _ _).drew) _) _) _) _ | exact Below.drew (al _) | exact Below.drew (al2 (al _) _) | exact Below.drew (al2 (al2 (al _) _) _) | exact Below.drew (al2 (al2 (al2 (al _) _) _) _))) _ _ 2 2 _ [[.func (.func 72) #[] #[.pointer (some ⟨W.heap.size, 0, none⟩)]], [.func (.func 72) #[] #[.pointer (some ⟨W.heap.size + 1, 0, none⟩)]]] [.only 4, .only 5] (by rfl) (by first | exact (Rd.lits _ #[.func (.func 72) #[] #[.pointer (some ⟨W.heap.size, 0, none⟩)], .func (.func 72) #[] #[.pointer (some ⟨W.heap.size + 1, 0, none⟩)]] _ 2 1 rfl _ (by simp)).drew | exact Rd.lits _ #[.func (.func 72) #[] #[.pointer (some ⟨W.heap.size, 0, none⟩)], .func (.func 72) #[] #[.pointer (some ⟨W.heap.size + 1, 0, none⟩)]] _ 2 1 rfl _ (by simp)) rfl rfl (Shp.all2 ⟨_, rfl, _, rfl, ⟨by simp <;> omega, fun e => by have := (HW.out.ow.ownlt e.symm).2; omega, by omega⟩, by simp [go_sem]⟩ ⟨_, rfl, _, rfl, ⟨by simp <;> omega, fun e => by have := (HW.out.ow.ownlt e.symm).2; omega, by omega⟩, by simp [go_sem]⟩) (by simp <;> unfold maxLen <;> omega) (by simp <;> omega) (by simp <;> omega) ?_; intro A5 c5 w5 hown5 hgrow5 _; obtain ⟨g5, z5⟩ := HW.out.far (by first | exact (Below.refl _ _).drew | exact al2 ((Below.refl _ _).drew) _ | exact al2 (al2 ((Below.refl _ _).drew) _) _ | exact al2 (al2 (al2 ((Below.refl _ _).drew) _) _) _ | exact al2 (al2 (al2 (al2 ((Below.refl _ _).drew) _) _) _) _ | exact Below.drew (al _) | exact Below.drew (al2 (al _) _) | exact Below.drew (al2 (al2 (al _) _) _) | exact Below.drew (al2 (al2 (al2 (al _) _) _) _)) hgrow5; have n5 := far_c (i := 4) HW.out HX.out hgrow5 (by first | exact (Below.refl _ _).drew | exact al2 ((Below.refl _ _).drew) _ | exact al2 (al2 ((Below.refl _ _).drew) _) _ | exact al2 (al2 (al2 ((Below.refl _ _).drew) _) _) _ | exact al2 (al2 (al2 (al2 ((Below.refl _ _).drew) _) _) _) _ | exact Below.drew (al _) | exact Below.drew (al2 (al _) _) | exact Below.drew (al2 (al2 (al _) _) _) | exact Below.drew (al2 (al2 (al2 (al _) _) _) _)) HN.out))
        all_goals (
          try simp only [List.length_replicate] at hown5
          have ⟨a1, a2, a3⟩ := HW.out.nextC HX.out (by first | exact (Below.refl _ _).drew | exact al2 ((Below.refl _ _).drew) _ | exact al2 (al2 ((Below.refl _ _).drew) _) _ | exact al2 (al2 (al2 ((Below.refl _ _).drew) _) _) _ | exact al2 (al2 (al2 (al2 ((Below.refl _ _).drew) _) _) _) _ | exact Below.drew (al _) | exact Below.drew (al2 (al _) _) | exact Below.drew (al2 (al2 (al _) _) _) | exact Below.drew (al2 (al2 (al2 (al _) _) _) _)) hgrow5 hown5 HN.out
          have HW := Lib.hid a1
          have HX := Lib.hid (HX.out.trans (a2.down (by omega)))
          have HN := Lib.hid a3
          have hW5 : w.heap.size + 2 ≤ w5.heap.size := by have := HW.out.le; simpa using this
          clear a1 a2 a3 hown5 hgrow5
          go_wp2_with fail
          go_quiet (fail)
          go_wp2_with fail
          go_returns
          exact want_end HW.out HX.out (by omega) (by unfold wnL; simp only [Int.reduceEq, if_true, if_false, or_self, true_or, or_true]; rw [show (min (max nm 0) 4).toNat = k by omega]) rfl (by rw [Bool.eq_iff_iff]; simp <;> omega)))
set_option maxHeartbeats 4000000 in
theorem wants_call0 (x : ND) (A : Option Addr) (c : Nat) (w : World) (hk : x.kind = 28) (h1 : x.kids.length = 0) (hl : x.kids.length * 8 ≤ 140737488351232) : Calls Tryz.prog 37 #[ndV x A c] w (WantP x w) := by
  have hmf : ∀ (fn : Fn) (first cap : Array Value) (w : World), (Instr.makeFunc fn first cap).run Tryz.prog w = .ok (.func fn first cap) w := fun _ _ _ _ => rfl
  obtain ⟨j0, hj, jz0, jz1, jz2⟩ := info_parts info_fv
  obtain ⟨kd, tx, ty, nm, ks⟩ := x
  unfold ndV
  simp only at hk ⊢
  have HW := Lib.hid (wl_start w (.cells #[.int .i64 kd, .string tx, .string ty, .int .i64 nm, .slice A ks.length c] 31))
  have HX := Lib.hid (kx_start w (.cells #[.int .i64 kd, .string tx, .string ty, .int .i64 nm, .slice A ks.length c] 31) (.cells #[.slice none 0 0] 64) (w.heap.size + 1))
  have HN := Lib.hid (show ((w.alloc (.cells #[.int .i64 kd, .string tx, .string ty, .int .i64 nm, .slice A ks.length c] 31)).alloc (.cells #[.slice none 0 0] 64)).cell? ⟨w.heap.size, 4, none⟩ = some (.slice A ks.length c) by simp [go_sem])
  rcases hk with rfl
  all_goals (
    simp only at h1
    have HN1 := Lib.hid h1
    go_enter Tryz.func37, Tryz.ntmps37
    clear h1
    go_wp2_with (first | (at_builtin; refine wpList_append_Own (S := FV.sh) rfl _ _ 64 rfl (w.heap.size + 2) 51 j0 _ 8 Tryz.underlying64 hj jz0 jz1 jz2 rfl (by show 0 < 1; omega) (· < w.heap.size + 2) _ _ rfl (HW.out.ow.below (al _)) _ _ 1 1 _ [[.func (.func 53) #[] #[]]] [.expr] rfl (Rd.lits _ #[.func (.func 53) #[] #[]] _ 1 1 rfl _ (by simp)) rfl rfl (Shp.all1 ⟨_, rfl, rfl⟩) (by simp <;> unfold maxLen <;> omega) (by simp <;> omega) (by simp <;> omega) ?_; intro A5 c5 w5 hown5 hgrow5 _; obtain ⟨g5, z5⟩ := HW.out.far (al _) hgrow5; have n5 := far_c (i := 4) HW.out HX.out hgrow5 (al _) HN.out; have ⟨a1, a2, a3⟩ := HW.out.nextC HX.out (al _) hgrow5 hown5 HN.out; have HW := Lib.hid a1; have HX := Lib.hid (HX.out.trans (a2.down (by omega))); have HN := Lib.hid a3; clear a1 a2 a3 hown5 hgrow5) | fail "no")
    go_wp2_with fail
    refine Calls.mono (all_any (T := [FV.expr]) (fv := .expr) (n := ks.length) (c := c) (A := A) HW.out (by exact rfl) (by omega) (by omega) HN.out hl) ?_
    rintro e w5 ⟨rfl, ⟨v5, hw5⟩, hk5⟩
    have g5 := hw5.ce
    have z5 := hw5.fr
    have n5 := (World.cell?_of_block (a := ⟨w.heap.size, 4, none⟩) (hk5.block w.heap.size (by omega) (by omega))).trans HN.out
    have HX := Lib.hid (HX.out.trans (hk5.down (by omega)))
    obtain ⟨A9, c9, e9⟩ := hw5.ow.form
    rw [show (([FV.expr] : List FV) ++ List.replicate (ks.length - ([FV.expr] : List FV).length) FV.expr).length = 1 from by have := HN1.out; simp <;> omega] at e9
    subst e9
    have HW := Lib.hid hw5.down
    clear hw5 hk5
    go_wp2_with fail
    go_quiet (fail)
    go_wp2_with fail
    go_returns
    refine want_end (T := ([FV.expr] : List FV) ++ List.replicate (ks.length - ([FV.expr] : List FV).length) FV.expr) HW.out HX.out (by omega) rfl rfl (by have := HN1.out; rw [Bool.eq_iff_iff]; simp <;> omega))
set_option maxHeartbeats 4000000 in
theorem wants_unk (x : ND) (A : Option Addr) (c : Nat) (w : World) (hk : known x.kind = false) : Calls Tryz.prog 37 #[ndV x A c] w (WantP x w) := by
  have hmf : ∀ (fn : Fn) (first cap : Array Value) (w : World), (Instr.makeFunc fn first cap).run Tryz.prog w = .ok (.func fn first cap) w := fun _ _ _ _ => rfl
  have ho : okW x = false := by unfold okW; rw [hk]; rfl
  obtain ⟨kd, tx, ty, nm, ks⟩ := x
  unfold ndV
  unfold known at hk
  simp only [decide_eq_false_iff_not] at hk ⊢
  have n1 : ¬ kd = 1 := by omega
  have n2 : ¬ kd = 2 := by omega
  have n3 : ¬ kd = 3 := by omega
  have n4 : ¬ kd = 4 := by omega
  have n5 : ¬ kd = 5 := by omega
  have n6 : ¬ kd = 6 := by omega
  have n7 : ¬ kd = 7 := by omega
  have n8 : ¬ kd = 8 := by omega
  have n9 : ¬ kd = 9 := by omega
  have n10 : ¬ kd = 10 := by omega
  have n11 : ¬ kd = 11 := by omega
  have n12 : ¬ kd = 12 := by omega
  have n13 : ¬ kd = 13 := by omega
  have n14 : ¬ kd = 14 := by omega
  have n15 : ¬ kd = 15 := by omega
  have n21 : ¬ kd = 21 := by omega
  have n22 : ¬ kd = 22 := by omega
  have n23 : ¬ kd = 23 := by omega
  have n24 : ¬ kd = 24 := by omega
  have n25 : ¬ kd = 25 := by omega
  have n26 : ¬ kd = 26 := by omega
  have n27 : ¬ kd = 27 := by omega
  have n28 : ¬ kd = 28 := by omega
  have n29 : ¬ kd = 29 := by omega
  have n30 : ¬ kd = 30 := by omega
  have n31 : ¬ kd = 31 := by omega
  have n32 : ¬ kd = 32 := by omega
  have n33 : ¬ kd = 33 := by omega
  clear hk
  have HO := Lib.hid ho
  clear ho
  go_enter Tryz.func37, Tryz.ntmps37
  go_wp2_with fail
  go_returns
  exact ⟨.slice none 0 0, by rw [HO.out]; rfl, fun h => (by rw [HO.out] at h; cases h), sq (al _) (al _)⟩
theorem wants_any (x : ND) (A : Option Addr) (c : Nat) (w : World) (hl : x.kids.length * 8 ≤ 140737488351232) : Calls Tryz.prog 37 #[ndV x A c] w (WantP x w) := by
  cases hk : known x.kind with
  | false => exact wants_unk x A c w hk
  | true =>
    rcases kind_cases x.kind hk with h | h | h | h | h | h | h | h | h | h | h | h | h | h | h | h | h | h | h | h | h | h | h | h | h | h | h | h
    all_goals first
      | exact wants_none x A c w (by omega)
      | exact wants_expr x A c w (by omega)
      | exact wants_two x A c w (by omega)
      | exact wants_slice x A c w h
      | exact wants_block x A c w h hl
      | exact wants_list x A c w h hl
      | exact wants_file x A c w h hl
      | exact wants_callst x A c w (by omega)
      | (by_cases h1 : (x.kids.length : Int) = 1
         · exact wants_ret1 x A c w h h1
         · exact wants_ret0 x A c w h h1)
      | (by_cases h1 : (x.kids.length : Int) = 2
         · exact wants_for2 x A c w h h1
         · exact wants_for1 x A c w h h1)
      | (by_cases h1 : (x.kids.length : Int) = 3
         · exact wants_if3 x A c w h h1
         · exact wants_if2 x A c w h h1)
      | (by_cases h1 : x.num < 0
         · exact wants_func0 x A c w (by omega) h1
         · by_cases h2 : 4 < x.num
           · exact wants_func4 x A c w (by omega) h2
           · exact wants_funcN x A c w (by omega) (by omega))
      | (by_cases h1 : 0 < x.kids.length
         · exact wants_call x A c w h h1 hl
         · exact wants_call0 x A c w h (by omega) hl)
end Go.Proofs.YtkpejdkffkhekaaGreatDoor
