/- Numbers of any size: Add, Sub. Printed by gen_bigsum.py. Conditions: none. -/
import Derived.Test.YtdpgcojgnehnpaaBigSum
import Derived.Test.YtdpgcojgnehnpaaAnyInv2
set_option maxRecDepth 20000
namespace Go.Proofs.Ytdpgcojgnehnpaa
open Go.ChangeShapes Go.WideShapes Go.ChangeAt Go.RowKit
def SmP (bs bg : Bool) (W : World) (g : Nat) (Z : Int) (q : Bool) (N : Nat) (A3 : Option Addr) (c3 : Nat) (w : World) : Prop :=
  (bs = false → bg = false ∧ w = W.drew) ∧ (bs = true → bg = false → sgz q N = Z ∧ WOk N W A3 c3 w) ∧ (bg = true → Big w w.heap.size g Z ∧ W.grownBy w (some g))
theorem SmP.one {W : World} {g : Nat} {Z : Int} {q : Bool} {N : Nat} {A3 : Option Addr} {c3 : Nat} : SmP false false W g Z q N A3 c3 W.drew := ⟨(fun _ => ⟨rfl, rfl⟩), (fun h => by cases h), (fun h => by cases h)⟩
theorem SmP.two {W w : World} {g : Nat} {Z : Int} {q : Bool} {N : Nat} {A3 : Option Addr} {c3 : Nat} (h : sgz q N = Z) (h' : WOk N W A3 c3 w) : SmP true false W g Z q N A3 c3 w := ⟨(fun h => by cases h), (fun _ _ => ⟨h, h'⟩), (fun h => by cases h)⟩
theorem SmP.three {W w : World} {g : Nat} {Z : Int} {q : Bool} {N : Nat} {A3 : Option Addr} {c3 : Nat} (h : Big w w.heap.size g Z) (h' : W.grownBy w (some g)) : SmP true true W g Z q N A3 c3 w := ⟨(fun h => by cases h), (fun _ h => by cases h), (fun _ => ⟨h, h'⟩)⟩
theorem SmP.w {bs bg : Bool} {W w : World} {g : Nat} {Z : Int} {q : Bool} {N : Nat} {A3 : Option Addr} {c3 : Nat} (h : SmP bs bg W g Z q N A3 c3 w) (hb : bs = false) : w = W.drew := (h.1 hb).2
theorem SmP.two_out {bs bg : Bool} {W w : World} {g : Nat} {Z : Int} {q : Bool} {N : Nat} {A3 : Option Addr} {c3 : Nat} (h : SmP bs bg W g Z q N A3 c3 w) (hb : bs = true) (hg : bg = false) : sgz q N = Z ∧ WOk N W A3 c3 w := h.2.1 hb hg
theorem SmP.done {bs : Bool} {W w : World} {g : Nat} {Z : Int} {q : Bool} {N : Nat} {A3 : Option Addr} {c3 : Nat} (h : SmP bs true W g Z q N A3 c3 w) : Big w w.heap.size g Z ∧ W.grownBy w (some g) := h.2.2 rfl

def SmAddI (W : World) (g gx gy : Nat) (Z : Int) (sx sy : Bool) (Ax Ay : Option Addr) (n n2 cx cy : Nat) (L : Array Bool) (a : Act) (w : World) : Prop :=
  ∃ (b0 b1 b2 b3 b4 b5 b6 b7 b8 b9 b10 b11 b12 b13 b14 b15 b16 b17 b18 b19 b20 b21 : Bool) (q : Bool) (N : Nat) (A3 : Option Addr) (c3 : Nat), L = #[b0, b1, b2, b3, b4, b5, b6, b7, b8, b9, b10, b11, b12, b13, b14, b15, b16, b17, b18, b19, b20, b21] ∧ a = { tmps := #[.pointer (some ⟨g, 0, none⟩), .pointer (some ⟨gx, 0, none⟩), .pointer (some ⟨gy, 0, none⟩), undef, undef, undef, pkd b21 (.pointer (some ⟨g, 0, none⟩)) (.pointer none), pkd b0 (.pointer (some ⟨g, 0, none⟩)) (undef), pkd b1 (.pointer (some ⟨gx, 0, none⟩)) (undef), pkd b2 (.pointer (some ⟨gx, 0, none⟩)) (undef), pkd b3 (.pointer (some ⟨gx, 0, none⟩)) (undef), pkd b4 (.bool sx) (undef), pkd b5 (.pointer (some ⟨gx, 0, none⟩)) (undef), pkd b6 (.pointer (some ⟨gx, 0, none⟩)) (undef), pkd b7 (.pointer (some ⟨gx, 1, none⟩)) (undef), pkd b8 (.slice Ax n cx) (undef), pkd b9 (.pointer (some ⟨gy, 0, none⟩)) (undef), pkd b10 (.pointer (some ⟨gy, 0, none⟩)) (undef), pkd b11 (.pointer (some ⟨gy, 0, none⟩)) (undef), pkd b12 (.bool sy) (undef), pkd b13 (.pointer (some ⟨gy, 0, none⟩)) (undef), pkd b14 (.pointer (some ⟨gy, 0, none⟩)) (undef), pkd b15 (.pointer (some ⟨gy, 1, none⟩)) (undef), pkd b16 (.slice Ay n2 cy) (undef), pkd b17 (.tuple #[.bool q, .slice A3 (wds N).length c3]) (undef), pkd b18 (.bool q) (undef), pkd b19 (.slice A3 (wds N).length c3) (undef), pkd b20 (.pointer (some ⟨g, 0, none⟩)) (undef)], defers := [] } ∧ (SmP b17 b20 W g Z q N A3 c3 w)
set_option maxHeartbeats 2000000 in
theorem intAdd_any (g gx gy : Nat) (x y : Int) (w : World) (hw : Wr w g) (hx : Big w w.heap.size gx x) (hy : Big w w.heap.size gy y) (hl : (wds x.natAbs).length ≤ 1000000) (hl2 : (wds y.natAbs).length ≤ 1000000) :
    Calls Try.prog 42 #[.pointer (some ⟨g, 0, none⟩), .pointer (some ⟨gx, 0, none⟩), .pointer (some ⟨gy, 0, none⟩)] w fun e w' => e = .returned (.pointer (some ⟨g, 0, none⟩)) ∧ Big w' w'.heap.size g (x + y) ∧ w.grownBy w' (some g) := by
  obtain ⟨Ax, cx, x0, x1, xr, _⟩ := hx
  obtain ⟨Ay, cy, y0, y1, yr, _⟩ := hy
  have HX := Lib.hid (And.intro xr yr)
  have HZ := Lib.hid (show sgz (decide (x < 0)) x.natAbs + sgz (decide (y < 0)) y.natAbs = x + y by rw [sgz_of, sgz_of])
  have HW := Lib.hid hw
  have HLg := Lib.hid hw.lt
  clear xr yr hw
  have hX : C2 gx (.bool (decide (x < 0))) (.slice Ax (wds x.natAbs).length cx) w := ⟨x0, x1⟩
  have hY : C2 gy (.bool (decide (y < 0))) (.slice Ay (wds y.natAbs).length cy) w := ⟨y0, y1⟩
  clear x0 x1 y0 y1
  generalize decide (x < 0) = sx at *
  generalize decide (y < 0) = sy at *
  generalize hnx : (wds x.natAbs).length = n at *
  generalize hny : (wds y.natAbs).length = n2 at *
  have HN := Lib.hid (And.intro hnx hny)
  clear hnx hny
  have hpt := pkd_t
  go_enter Try.func42, Try.ntmps42
  go_wp2_with fail
  refine wp_region_any (by kernel_rfl) ?_
  refine wpAny_inv2 (SmAddI w g gx gy (x + y) sx sy Ax Ay n n2 cx cy) ?done ?step _ _ _ _ (by simp) (by simp [left]) ?init (shut_start _ _ _)
  case init => exact ⟨false, false, false, false, false, false, false, false, false, false, false, false, false, false, false, false, false, false, false, false, false, false, false, 0, none, 0, rfl, rfl, SmP.one⟩
  case done =>
    rintro L a w' ⟨b0, b1, b2, b3, b4, b5, b6, b7, b8, b9, b10, b11, b12, b13, b14, b15, b16, b17, b18, b19, b20, b21, q, N, A3, c3, rfl, rfl, hI⟩ hsh hs hr
    have hno : ∀ i, i ∉ Region.ready Region.Mode.any _ _ := fun i hi => by rw [hr] at hi; cases hi
    have hall : b0 = true ∧ b1 = true ∧ b2 = true ∧ b3 = true ∧ b4 = true ∧ b5 = true ∧ b6 = true ∧ b7 = true ∧ b8 = true ∧ b9 = true ∧ b10 = true ∧ b11 = true ∧ b12 = true ∧ b13 = true ∧ b14 = true ∧ b15 = true ∧ b16 = true ∧ b17 = true ∧ b18 = true ∧ b19 = true ∧ b20 = true ∧ b21 = true := by
      have q0 := hno 0
      have q1 := hno 1
      have q2 := hno 2
      have q3 := hno 3
      have q4 := hno 4
      have q5 := hno 5
      have q6 := hno 6
      have q7 := hno 7
      have q8 := hno 8
      have q9 := hno 9
      have q10 := hno 10
      have q11 := hno 11
      have q12 := hno 12
      have q13 := hno 13
      have q14 := hno 14
      have q15 := hno 15
      have q16 := hno 16
      have q17 := hno 17
      have q18 := hno 18
      have q19 := hno 19
      have q20 := hno 20
      have q21 := hno 21
      clear hno hr hs hsh hI
      simp [Region.ready, List.mem_filter, Region.binds] at q0 q1 q2 q3 q4 q5 q6 q7 q8 q9 q10 q11 q12 q13 q14 q15 q16 q17 q18 q19 q20 q21
      simp_all
    obtain ⟨rfl, rfl, rfl, rfl, rfl, rfl, rfl, rfl, rfl, rfl, rfl, rfl, rfl, rfl, rfl, rfl, rfl, rfl, rfl, rfl, rfl, rfl⟩ := hall
    clear hr hs hsh hno
    simp only [pkd_t]
    obtain ⟨hB, hG⟩ := hI.done
    go_wp2
    go_ret
    exact ⟨rfl, hB, hG⟩
  case step =>
    rintro L a w' i ⟨b0, b1, b2, b3, b4, b5, b6, b7, b8, b9, b10, b11, b12, b13, b14, b15, b16, b17, b18, b19, b20, b21, q, N, A3, c3, rfl, rfl, hI⟩ hsh hs hi
    have hi16 := (ready_mem hi).1
    simp only [List.size_toArray, List.length_cons, List.length_nil] at hi16
    obtain rfl | rfl | rfl | rfl | rfl | rfl | rfl | rfl | rfl | rfl | rfl | rfl | rfl | rfl | rfl | rfl | rfl | rfl | rfl | rfl | rfl | rfl : i = 0 ∨ i = 1 ∨ i = 2 ∨ i = 3 ∨ i = 4 ∨ i = 5 ∨ i = 6 ∨ i = 7 ∨ i = 8 ∨ i = 9 ∨ i = 10 ∨ i = 11 ∨ i = 12 ∨ i = 13 ∨ i = 14 ∨ i = 15 ∨ i = 16 ∨ i = 17 ∨ i = 18 ∨ i = 19 ∨ i = 20 ∨ i = 21 := by omega
    · simp [Region.ready, List.mem_filter, Region.binds] at hi
      have hall : b0 = false := by simp [hi]
      clear hi
      subst hall
      clear hs hi16 hsh
      refine wpOp_run rfl rfl ?_
      go_simp
      exact ⟨true, b1, b2, b3, b4, b5, b6, b7, b8, b9, b10, b11, b12, b13, b14, b15, b16, b17, b18, b19, b20, b21, q, N, A3, c3, rfl, rfl, hI⟩
    · simp [Region.ready, List.mem_filter, Region.binds] at hi
      have hall : b1 = false := by simp [hi]
      clear hi
      subst hall
      clear hs hi16 hsh
      refine wpOp_run rfl rfl ?_
      go_simp
      exact ⟨b0, true, b2, b3, b4, b5, b6, b7, b8, b9, b10, b11, b12, b13, b14, b15, b16, b17, b18, b19, b20, b21, q, N, A3, c3, rfl, rfl, hI⟩
    · simp [Region.ready, List.mem_filter, Region.binds] at hi
      have hall : b2 = false ∧ b1 = true := by simp [hi]
      clear hi
      obtain ⟨rfl, rfl⟩ := hall
      clear hs hi16 hsh
      refine wpOp_run rfl rfl ?_
      go_simp
      exact ⟨b0, true, true, b3, b4, b5, b6, b7, b8, b9, b10, b11, b12, b13, b14, b15, b16, b17, b18, b19, b20, b21, q, N, A3, c3, rfl, rfl, hI⟩
    · simp [Region.ready, List.mem_filter, Region.binds] at hi
      have hall : b3 = false ∧ b2 = true := by simp [hi]
      clear hi
      obtain ⟨rfl, rfl⟩ := hall
      clear hs hi16 hsh
      refine wpOp_run rfl rfl ?_
      go_simp
      exact ⟨b0, b1, true, true, b4, b5, b6, b7, b8, b9, b10, b11, b12, b13, b14, b15, b16, b17, b18, b19, b20, b21, q, N, A3, c3, rfl, rfl, hI⟩
    · simp [Region.ready, List.mem_filter, Region.binds] at hi
      have hall : b4 = false ∧ b3 = true := by simp [hi]
      clear hi
      obtain ⟨rfl, rfl⟩ := hall
      have z17 : b17 = false := by
        have q := hsh 17 _ rfl
        simp [Region.binds] at q
        cases b17
        · rfl
        · simp at q
      subst z17
      clear hs hi16 hsh
      obtain rfl := hI.w rfl
      obtain ⟨x0, x1⟩ := hX
      obtain ⟨y0, y1⟩ := hY
      refine wpOp_run rfl rfl ?_
      go_simp
      exact ⟨b0, b1, b2, true, true, b5, b6, b7, b8, b9, b10, b11, b12, b13, b14, b15, b16, false, b18, b19, b20, b21, q, N, A3, c3, rfl, rfl, hI⟩
    · simp [Region.ready, List.mem_filter, Region.binds] at hi
      have hall : b5 = false := by simp [hi]
      clear hi
      subst hall
      clear hs hi16 hsh
      refine wpOp_run rfl rfl ?_
      go_simp
      exact ⟨b0, b1, b2, b3, b4, true, b6, b7, b8, b9, b10, b11, b12, b13, b14, b15, b16, b17, b18, b19, b20, b21, q, N, A3, c3, rfl, rfl, hI⟩
    · simp [Region.ready, List.mem_filter, Region.binds] at hi
      have hall : b6 = false ∧ b5 = true := by simp [hi]
      clear hi
      obtain ⟨rfl, rfl⟩ := hall
      clear hs hi16 hsh
      refine wpOp_run rfl rfl ?_
      go_simp
      exact ⟨b0, b1, b2, b3, b4, true, true, b7, b8, b9, b10, b11, b12, b13, b14, b15, b16, b17, b18, b19, b20, b21, q, N, A3, c3, rfl, rfl, hI⟩
    · simp [Region.ready, List.mem_filter, Region.binds] at hi
      have hall : b7 = false ∧ b6 = true := by simp [hi]
      clear hi
      obtain ⟨rfl, rfl⟩ := hall
      clear hs hi16 hsh
      refine wpOp_run rfl rfl ?_
      go_simp
      exact ⟨b0, b1, b2, b3, b4, b5, true, true, b8, b9, b10, b11, b12, b13, b14, b15, b16, b17, b18, b19, b20, b21, q, N, A3, c3, rfl, rfl, hI⟩
    · simp [Region.ready, List.mem_filter, Region.binds] at hi
      have hall : b8 = false ∧ b7 = true := by simp [hi]
      clear hi
      obtain ⟨rfl, rfl⟩ := hall
      have z17 : b17 = false := by
        have q := hsh 17 _ rfl
        simp [Region.binds] at q
        cases b17
        · rfl
        · simp at q
      subst z17
      clear hs hi16 hsh
      obtain rfl := hI.w rfl
      obtain ⟨x0, x1⟩ := hX
      obtain ⟨y0, y1⟩ := hY
      refine wpOp_run rfl rfl ?_
      go_simp
      exact ⟨b0, b1, b2, b3, b4, b5, b6, true, true, b9, b10, b11, b12, b13, b14, b15, b16, false, b18, b19, b20, b21, q, N, A3, c3, rfl, rfl, hI⟩
    · simp [Region.ready, List.mem_filter, Region.binds] at hi
      have hall : b9 = false := by simp [hi]
      clear hi
      subst hall
      clear hs hi16 hsh
      refine wpOp_run rfl rfl ?_
      go_simp
      exact ⟨b0, b1, b2, b3, b4, b5, b6, b7, b8, true, b10, b11, b12, b13, b14, b15, b16, b17, b18, b19, b20, b21, q, N, A3, c3, rfl, rfl, hI⟩
    · simp [Region.ready, List.mem_filter, Region.binds] at hi
      have hall : b10 = false ∧ b9 = true := by simp [hi]
      clear hi
      obtain ⟨rfl, rfl⟩ := hall
      clear hs hi16 hsh
      refine wpOp_run rfl rfl ?_
      go_simp
      exact ⟨b0, b1, b2, b3, b4, b5, b6, b7, b8, true, true, b11, b12, b13, b14, b15, b16, b17, b18, b19, b20, b21, q, N, A3, c3, rfl, rfl, hI⟩
    · simp [Region.ready, List.mem_filter, Region.binds] at hi
      have hall : b11 = false ∧ b10 = true := by simp [hi]
      clear hi
      obtain ⟨rfl, rfl⟩ := hall
      clear hs hi16 hsh
      refine wpOp_run rfl rfl ?_
      go_simp
      exact ⟨b0, b1, b2, b3, b4, b5, b6, b7, b8, b9, true, true, b12, b13, b14, b15, b16, b17, b18, b19, b20, b21, q, N, A3, c3, rfl, rfl, hI⟩
    · simp [Region.ready, List.mem_filter, Region.binds] at hi
      have hall : b12 = false ∧ b11 = true := by simp [hi]
      clear hi
      obtain ⟨rfl, rfl⟩ := hall
      have z17 : b17 = false := by
        have q := hsh 17 _ rfl
        simp [Region.binds] at q
        cases b17
        · rfl
        · simp at q
      subst z17
      clear hs hi16 hsh
      obtain rfl := hI.w rfl
      obtain ⟨x0, x1⟩ := hX
      obtain ⟨y0, y1⟩ := hY
      refine wpOp_run rfl rfl ?_
      go_simp
      exact ⟨b0, b1, b2, b3, b4, b5, b6, b7, b8, b9, b10, true, true, b13, b14, b15, b16, false, b18, b19, b20, b21, q, N, A3, c3, rfl, rfl, hI⟩
    · simp [Region.ready, List.mem_filter, Region.binds] at hi
      have hall : b13 = false := by simp [hi]
      clear hi
      subst hall
      clear hs hi16 hsh
      refine wpOp_run rfl rfl ?_
      go_simp
      exact ⟨b0, b1, b2, b3, b4, b5, b6, b7, b8, b9, b10, b11, b12, true, b14, b15, b16, b17, b18, b19, b20, b21, q, N, A3, c3, rfl, rfl, hI⟩
    · simp [Region.ready, List.mem_filter, Region.binds] at hi
      have hall : b14 = false ∧ b13 = true := by simp [hi]
      clear hi
      obtain ⟨rfl, rfl⟩ := hall
      clear hs hi16 hsh
      refine wpOp_run rfl rfl ?_
      go_simp
      exact ⟨b0, b1, b2, b3, b4, b5, b6, b7, b8, b9, b10, b11, b12, true, true, b15, b16, b17, b18, b19, b20, b21, q, N, A3, c3, rfl, rfl, hI⟩
    · simp [Region.ready, List.mem_filter, Region.binds] at hi
      have hall : b15 = false ∧ b14 = true := by simp [hi]
      clear hi
      obtain ⟨rfl, rfl⟩ := hall
      clear hs hi16 hsh
      refine wpOp_run rfl rfl ?_
      go_simp
      exact ⟨b0, b1, b2, b3, b4, b5, b6, b7, b8, b9, b10, b11, b12, b13, true, true, b16, b17, b18, b19, b20, b21, q, N, A3, c3, rfl, rfl, hI⟩
    · simp [Region.ready, List.mem_filter, Region.binds] at hi
      have hall : b16 = false ∧ b15 = true := by simp [hi]
      clear hi
      obtain ⟨rfl, rfl⟩ := hall
      have z17 : b17 = false := by
        have q := hsh 17 _ rfl
        simp [Region.binds] at q
        cases b17
        · rfl
        · simp at q
      subst z17
      clear hs hi16 hsh
      obtain rfl := hI.w rfl
      obtain ⟨x0, x1⟩ := hX
      obtain ⟨y0, y1⟩ := hY
      refine wpOp_run rfl rfl ?_
      go_simp
      exact ⟨b0, b1, b2, b3, b4, b5, b6, b7, b8, b9, b10, b11, b12, b13, b14, true, true, false, b18, b19, b20, b21, q, N, A3, c3, rfl, rfl, hI⟩
    · simp [Region.ready, List.mem_filter, Region.binds] at hi
      have hall : b17 = false ∧ b4 = true ∧ b8 = true ∧ b12 = true ∧ b16 = true := by simp [hi]
      clear hi
      obtain ⟨rfl, rfl, rfl, rfl, rfl⟩ := hall
      have z18 : b18 = false := by
        have q := hsh 18 _ rfl
        simp [Region.binds] at q
        cases b18
        · rfl
        · simp at q
      subst z18
      have z19 : b19 = false := by
        have q := hsh 19 _ rfl
        simp [Region.binds] at q
        cases b19
        · rfl
        · simp at q
      subst z19
      have z20 : b20 = false := by
        have q := hsh 20 _ rfl
        simp [Region.binds] at q
        cases b20
        · rfl
        · simp at q
      subst z20
      clear hs hi16 hsh
      obtain rfl := hI.w rfl
      refine wpOp_run rfl rfl ?_
      go_simp
      refine (sum_any _ _ _ _ _ _ _ _ x.natAbs y.natAbs HN.out.1.symm HN.out.2.symm hl hl2 _ HX.out.1.drew HX.out.2.drew).mono ?_
      rintro e w1 ⟨q', N', A3', c3', rfl, hz, hok⟩
      go_simp
      exact ⟨b0, b1, b2, b3, true, b5, b6, b7, true, b9, b10, b11, true, b13, b14, b15, true, true, false, false, false, b21, q', N', A3', c3', rfl, rfl, SmP.two (hz.trans HZ.out) hok.undrew⟩
    · simp [Region.ready, List.mem_filter, Region.binds] at hi
      have hall : b18 = false ∧ b17 = true := by simp [hi]
      clear hi
      obtain ⟨rfl, rfl⟩ := hall
      clear hs hi16 hsh
      refine wpOp_run rfl rfl ?_
      go_simp
      exact ⟨b0, b1, b2, b3, b4, b5, b6, b7, b8, b9, b10, b11, b12, b13, b14, b15, b16, true, true, b19, b20, b21, q, N, A3, c3, rfl, rfl, hI⟩
    · simp [Region.ready, List.mem_filter, Region.binds] at hi
      have hall : b19 = false ∧ b17 = true := by simp [hi]
      clear hi
      obtain ⟨rfl, rfl⟩ := hall
      clear hs hi16 hsh
      refine wpOp_run rfl rfl ?_
      go_simp
      exact ⟨b0, b1, b2, b3, b4, b5, b6, b7, b8, b9, b10, b11, b12, b13, b14, b15, b16, true, b18, true, b20, b21, q, N, A3, c3, rfl, rfl, hI⟩
    · simp [Region.ready, List.mem_filter, Region.binds] at hi
      have hall : b20 = false ∧ b0 = true ∧ b17 = true ∧ b18 = true ∧ b19 = true := by simp [hi]
      clear hi
      obtain ⟨rfl, rfl, rfl, rfl, rfl⟩ := hall
      clear hs hi16 hsh
      obtain ⟨hz, hok⟩ := hI.two_out rfl rfl
      refine wpOp_run rfl rfl ?_
      go_simp
      refine (give_wr g _ _ _ _ (x + y) w w' hz (HW.out.below hok.below) HLg.out hok).mono ?_
      rintro e w3 ⟨rfl, hB3, hg3, _⟩
      go_simp
      exact ⟨true, b1, b2, b3, b4, b5, b6, b7, b8, b9, b10, b11, b12, b13, b14, b15, b16, true, true, true, true, b21, q, N, A3, c3, rfl, rfl, SmP.three hB3 hg3⟩
    · simp [Region.ready, List.mem_filter, Region.binds] at hi
      have hall : b21 = false ∧ b20 = true := by simp [hi]
      clear hi
      obtain ⟨rfl, rfl⟩ := hall
      clear hs hi16 hsh
      refine wpOp_run rfl rfl ?_
      go_simp
      exact ⟨b0, b1, b2, b3, b4, b5, b6, b7, b8, b9, b10, b11, b12, b13, b14, b15, b16, b17, b18, b19, true, true, q, N, A3, c3, rfl, rfl, hI⟩
def SmSubI (W : World) (g gx gy : Nat) (Z : Int) (sx sy : Bool) (Ax Ay : Option Addr) (n n2 cx cy : Nat) (L : Array Bool) (a : Act) (w : World) : Prop :=
  ∃ (b0 b1 b2 b3 b4 b5 b6 b7 b8 b9 b10 b11 b12 b13 b14 b15 b16 b17 b18 b19 b20 b21 b22 : Bool) (q : Bool) (N : Nat) (A3 : Option Addr) (c3 : Nat), L = #[b0, b1, b2, b3, b4, b5, b6, b7, b8, b9, b10, b11, b12, b13, b14, b15, b16, b17, b18, b19, b20, b21, b22] ∧ a = { tmps := #[.pointer (some ⟨g, 0, none⟩), .pointer (some ⟨gx, 0, none⟩), .pointer (some ⟨gy, 0, none⟩), undef, undef, undef, pkd b22 (.pointer (some ⟨g, 0, none⟩)) (.pointer none), pkd b0 (.pointer (some ⟨g, 0, none⟩)) (undef), pkd b1 (.pointer (some ⟨gx, 0, none⟩)) (undef), pkd b2 (.pointer (some ⟨gx, 0, none⟩)) (undef), pkd b3 (.pointer (some ⟨gx, 0, none⟩)) (undef), pkd b4 (.bool sx) (undef), pkd b5 (.pointer (some ⟨gx, 0, none⟩)) (undef), pkd b6 (.pointer (some ⟨gx, 0, none⟩)) (undef), pkd b7 (.pointer (some ⟨gx, 1, none⟩)) (undef), pkd b8 (.slice Ax n cx) (undef), pkd b9 (.pointer (some ⟨gy, 0, none⟩)) (undef), pkd b10 (.pointer (some ⟨gy, 0, none⟩)) (undef), pkd b11 (.pointer (some ⟨gy, 0, none⟩)) (undef), pkd b12 (.bool sy) (undef), pkd b13 (.bool (!sy)) (undef), pkd b14 (.pointer (some ⟨gy, 0, none⟩)) (undef), pkd b15 (.pointer (some ⟨gy, 0, none⟩)) (undef), pkd b16 (.pointer (some ⟨gy, 1, none⟩)) (undef), pkd b17 (.slice Ay n2 cy) (undef), pkd b18 (.tuple #[.bool q, .slice A3 (wds N).length c3]) (undef), pkd b19 (.bool q) (undef), pkd b20 (.slice A3 (wds N).length c3) (undef), pkd b21 (.pointer (some ⟨g, 0, none⟩)) (undef)], defers := [] } ∧ (SmP b18 b21 W g Z q N A3 c3 w)
set_option maxHeartbeats 2000000 in
theorem intSub_any (g gx gy : Nat) (x y : Int) (w : World) (hw : Wr w g) (hx : Big w w.heap.size gx x) (hy : Big w w.heap.size gy y) (hl : (wds x.natAbs).length ≤ 1000000) (hl2 : (wds y.natAbs).length ≤ 1000000) :
    Calls Try.prog 44 #[.pointer (some ⟨g, 0, none⟩), .pointer (some ⟨gx, 0, none⟩), .pointer (some ⟨gy, 0, none⟩)] w fun e w' => e = .returned (.pointer (some ⟨g, 0, none⟩)) ∧ Big w' w'.heap.size g (x - y) ∧ w.grownBy w' (some g) := by
  obtain ⟨Ax, cx, x0, x1, xr, _⟩ := hx
  obtain ⟨Ay, cy, y0, y1, yr, _⟩ := hy
  have HX := Lib.hid (And.intro xr yr)
  have HZ := Lib.hid (show sgz (decide (x < 0)) x.natAbs + sgz (!decide (y < 0)) y.natAbs = x - y by rw [sgz_of, sgz_not]; omega)
  have HW := Lib.hid hw
  have HLg := Lib.hid hw.lt
  clear xr yr hw
  have hX : C2 gx (.bool (decide (x < 0))) (.slice Ax (wds x.natAbs).length cx) w := ⟨x0, x1⟩
  have hY : C2 gy (.bool (decide (y < 0))) (.slice Ay (wds y.natAbs).length cy) w := ⟨y0, y1⟩
  clear x0 x1 y0 y1
  generalize decide (x < 0) = sx at *
  generalize decide (y < 0) = sy at *
  generalize hnx : (wds x.natAbs).length = n at *
  generalize hny : (wds y.natAbs).length = n2 at *
  have HN := Lib.hid (And.intro hnx hny)
  clear hnx hny
  have hpt := pkd_t
  go_enter Try.func44, Try.ntmps44
  go_wp2_with fail
  refine wp_region_any (by kernel_rfl) ?_
  refine wpAny_inv2 (SmSubI w g gx gy (x - y) sx sy Ax Ay n n2 cx cy) ?done ?step _ _ _ _ (by simp) (by simp [left]) ?init (shut_start _ _ _)
  case init => exact ⟨false, false, false, false, false, false, false, false, false, false, false, false, false, false, false, false, false, false, false, false, false, false, false, false, 0, none, 0, rfl, rfl, SmP.one⟩
  case done =>
    rintro L a w' ⟨b0, b1, b2, b3, b4, b5, b6, b7, b8, b9, b10, b11, b12, b13, b14, b15, b16, b17, b18, b19, b20, b21, b22, q, N, A3, c3, rfl, rfl, hI⟩ hsh hs hr
    have hno : ∀ i, i ∉ Region.ready Region.Mode.any _ _ := fun i hi => by rw [hr] at hi; cases hi
    have hall : b0 = true ∧ b1 = true ∧ b2 = true ∧ b3 = true ∧ b4 = true ∧ b5 = true ∧ b6 = true ∧ b7 = true ∧ b8 = true ∧ b9 = true ∧ b10 = true ∧ b11 = true ∧ b12 = true ∧ b13 = true ∧ b14 = true ∧ b15 = true ∧ b16 = true ∧ b17 = true ∧ b18 = true ∧ b19 = true ∧ b20 = true ∧ b21 = true ∧ b22 = true := by
      have q0 := hno 0
      have q1 := hno 1
      have q2 := hno 2
      have q3 := hno 3
      have q4 := hno 4
      have q5 := hno 5
      have q6 := hno 6
      have q7 := hno 7
      have q8 := hno 8
      have q9 := hno 9
      have q10 := hno 10
      have q11 := hno 11
      have q12 := hno 12
      have q13 := hno 13
      have q14 := hno 14
      have q15 := hno 15
      have q16 := hno 16
      have q17 := hno 17
      have q18 := hno 18
      have q19 := hno 19
      have q20 := hno 20
      have q21 := hno 21
      have q22 := hno 22
      clear hno hr hs hsh hI
      simp [Region.ready, List.mem_filter, Region.binds] at q0 q1 q2 q3 q4 q5 q6 q7 q8 q9 q10 q11 q12 q13 q14 q15 q16 q17 q18 q19 q20 q21 q22
      simp_all
    obtain ⟨rfl, rfl, rfl, rfl, rfl, rfl, rfl, rfl, rfl, rfl, rfl, rfl, rfl, rfl, rfl, rfl, rfl, rfl, rfl, rfl, rfl, rfl, rfl⟩ := hall
    clear hr hs hsh hno
    simp only [pkd_t]
    obtain ⟨hB, hG⟩ := hI.done
    go_wp2
    go_ret
    exact ⟨rfl, hB, hG⟩
  case step =>
    rintro L a w' i ⟨b0, b1, b2, b3, b4, b5, b6, b7, b8, b9, b10, b11, b12, b13, b14, b15, b16, b17, b18, b19, b20, b21, b22, q, N, A3, c3, rfl, rfl, hI⟩ hsh hs hi
    have hi16 := (ready_mem hi).1
    simp only [List.size_toArray, List.length_cons, List.length_nil] at hi16
    obtain rfl | rfl | rfl | rfl | rfl | rfl | rfl | rfl | rfl | rfl | rfl | rfl | rfl | rfl | rfl | rfl | rfl | rfl | rfl | rfl | rfl | rfl | rfl : i = 0 ∨ i = 1 ∨ i = 2 ∨ i = 3 ∨ i = 4 ∨ i = 5 ∨ i = 6 ∨ i = 7 ∨ i = 8 ∨ i = 9 ∨ i = 10 ∨ i = 11 ∨ i = 12 ∨ i = 13 ∨ i = 14 ∨ i = 15 ∨ i = 16 ∨ i = 17 ∨ i = 18 ∨ i = 19 ∨ i = 20 ∨ i = 21 ∨ i = 22 := by omega
    · simp [Region.ready, List.mem_filter, Region.binds] at hi
      have hall : b0 = false := by simp [hi]
      clear hi
      subst hall
      clear hs hi16 hsh
      refine wpOp_run rfl rfl ?_
      go_simp
      exact ⟨true, b1, b2, b3, b4, b5, b6, b7, b8, b9, b10, b11, b12, b13, b14, b15, b16, b17, b18, b19, b20, b21, b22, q, N, A3, c3, rfl, rfl, hI⟩
    · simp [Region.ready, List.mem_filter, Region.binds] at hi
      have hall : b1 = false := by simp [hi]
      clear hi
      subst hall
      clear hs hi16 hsh
      refine wpOp_run rfl rfl ?_
      go_simp
      exact ⟨b0, true, b2, b3, b4, b5, b6, b7, b8, b9, b10, b11, b12, b13, b14, b15, b16, b17, b18, b19, b20, b21, b22, q, N, A3, c3, rfl, rfl, hI⟩
    · simp [Region.ready, List.mem_filter, Region.binds] at hi
      have hall : b2 = false ∧ b1 = true := by simp [hi]
      clear hi
      obtain ⟨rfl, rfl⟩ := hall
      clear hs hi16 hsh
      refine wpOp_run rfl rfl ?_
      go_simp
      exact ⟨b0, true, true, b3, b4, b5, b6, b7, b8, b9, b10, b11, b12, b13, b14, b15, b16, b17, b18, b19, b20, b21, b22, q, N, A3, c3, rfl, rfl, hI⟩
    · simp [Region.ready, List.mem_filter, Region.binds] at hi
      have hall : b3 = false ∧ b2 = true := by simp [hi]
      clear hi
      obtain ⟨rfl, rfl⟩ := hall
      clear hs hi16 hsh
      refine wpOp_run rfl rfl ?_
      go_simp
      exact ⟨b0, b1, true, true, b4, b5, b6, b7, b8, b9, b10, b11, b12, b13, b14, b15, b16, b17, b18, b19, b20, b21, b22, q, N, A3, c3, rfl, rfl, hI⟩
    · simp [Region.ready, List.mem_filter, Region.binds] at hi
      have hall : b4 = false ∧ b3 = true := by simp [hi]
      clear hi
      obtain ⟨rfl, rfl⟩ := hall
      have z18 : b18 = false := by
        have q := hsh 18 _ rfl
        simp [Region.binds] at q
        cases b18
        · rfl
        · simp at q
      subst z18
      clear hs hi16 hsh
      obtain rfl := hI.w rfl
      obtain ⟨x0, x1⟩ := hX
      obtain ⟨y0, y1⟩ := hY
      refine wpOp_run rfl rfl ?_
      go_simp
      exact ⟨b0, b1, b2, true, true, b5, b6, b7, b8, b9, b10, b11, b12, b13, b14, b15, b16, b17, false, b19, b20, b21, b22, q, N, A3, c3, rfl, rfl, hI⟩
    · simp [Region.ready, List.mem_filter, Region.binds] at hi
      have hall : b5 = false := by simp [hi]
      clear hi
      subst hall
      clear hs hi16 hsh
      refine wpOp_run rfl rfl ?_
      go_simp
      exact ⟨b0, b1, b2, b3, b4, true, b6, b7, b8, b9, b10, b11, b12, b13, b14, b15, b16, b17, b18, b19, b20, b21, b22, q, N, A3, c3, rfl, rfl, hI⟩
    · simp [Region.ready, List.mem_filter, Region.binds] at hi
      have hall : b6 = false ∧ b5 = true := by simp [hi]
      clear hi
      obtain ⟨rfl, rfl⟩ := hall
      clear hs hi16 hsh
      refine wpOp_run rfl rfl ?_
      go_simp
      exact ⟨b0, b1, b2, b3, b4, true, true, b7, b8, b9, b10, b11, b12, b13, b14, b15, b16, b17, b18, b19, b20, b21, b22, q, N, A3, c3, rfl, rfl, hI⟩
    · simp [Region.ready, List.mem_filter, Region.binds] at hi
      have hall : b7 = false ∧ b6 = true := by simp [hi]
      clear hi
      obtain ⟨rfl, rfl⟩ := hall
      clear hs hi16 hsh
      refine wpOp_run rfl rfl ?_
      go_simp
      exact ⟨b0, b1, b2, b3, b4, b5, true, true, b8, b9, b10, b11, b12, b13, b14, b15, b16, b17, b18, b19, b20, b21, b22, q, N, A3, c3, rfl, rfl, hI⟩
    · simp [Region.ready, List.mem_filter, Region.binds] at hi
      have hall : b8 = false ∧ b7 = true := by simp [hi]
      clear hi
      obtain ⟨rfl, rfl⟩ := hall
      have z18 : b18 = false := by
        have q := hsh 18 _ rfl
        simp [Region.binds] at q
        cases b18
        · rfl
        · simp at q
      subst z18
      clear hs hi16 hsh
      obtain rfl := hI.w rfl
      obtain ⟨x0, x1⟩ := hX
      obtain ⟨y0, y1⟩ := hY
      refine wpOp_run rfl rfl ?_
      go_simp
      exact ⟨b0, b1, b2, b3, b4, b5, b6, true, true, b9, b10, b11, b12, b13, b14, b15, b16, b17, false, b19, b20, b21, b22, q, N, A3, c3, rfl, rfl, hI⟩
    · simp [Region.ready, List.mem_filter, Region.binds] at hi
      have hall : b9 = false := by simp [hi]
      clear hi
      subst hall
      clear hs hi16 hsh
      refine wpOp_run rfl rfl ?_
      go_simp
      exact ⟨b0, b1, b2, b3, b4, b5, b6, b7, b8, true, b10, b11, b12, b13, b14, b15, b16, b17, b18, b19, b20, b21, b22, q, N, A3, c3, rfl, rfl, hI⟩
    · simp [Region.ready, List.mem_filter, Region.binds] at hi
      have hall : b10 = false ∧ b9 = true := by simp [hi]
      clear hi
      obtain ⟨rfl, rfl⟩ := hall
      clear hs hi16 hsh
      refine wpOp_run rfl rfl ?_
      go_simp
      exact ⟨b0, b1, b2, b3, b4, b5, b6, b7, b8, true, true, b11, b12, b13, b14, b15, b16, b17, b18, b19, b20, b21, b22, q, N, A3, c3, rfl, rfl, hI⟩
    · simp [Region.ready, List.mem_filter, Region.binds] at hi
      have hall : b11 = false ∧ b10 = true := by simp [hi]
      clear hi
      obtain ⟨rfl, rfl⟩ := hall
      clear hs hi16 hsh
      refine wpOp_run rfl rfl ?_
      go_simp
      exact ⟨b0, b1, b2, b3, b4, b5, b6, b7, b8, b9, true, true, b12, b13, b14, b15, b16, b17, b18, b19, b20, b21, b22, q, N, A3, c3, rfl, rfl, hI⟩
    · simp [Region.ready, List.mem_filter, Region.binds] at hi
      have hall : b12 = false ∧ b11 = true := by simp [hi]
      clear hi
      obtain ⟨rfl, rfl⟩ := hall
      have z13 : b13 = false := by
        have q := hsh 13 _ rfl
        simp [Region.binds] at q
        cases b13
        · rfl
        · simp at q
      subst z13
      have z18 : b18 = false := by
        have q := hsh 18 _ rfl
        simp [Region.binds] at q
        cases b18
        · rfl
        · simp at q
      subst z18
      clear hs hi16 hsh
      obtain rfl := hI.w rfl
      obtain ⟨x0, x1⟩ := hX
      obtain ⟨y0, y1⟩ := hY
      refine wpOp_run rfl rfl ?_
      go_simp
      exact ⟨b0, b1, b2, b3, b4, b5, b6, b7, b8, b9, b10, true, true, false, b14, b15, b16, b17, false, b19, b20, b21, b22, q, N, A3, c3, rfl, rfl, hI⟩
    · simp [Region.ready, List.mem_filter, Region.binds] at hi
      have hall : b13 = false ∧ b12 = true := by simp [hi]
      clear hi
      obtain ⟨rfl, rfl⟩ := hall
      clear hs hi16 hsh
      refine wpOp_run rfl rfl ?_
      go_simp
      exact ⟨b0, b1, b2, b3, b4, b5, b6, b7, b8, b9, b10, b11, true, true, b14, b15, b16, b17, b18, b19, b20, b21, b22, q, N, A3, c3, rfl, rfl, hI⟩
    · simp [Region.ready, List.mem_filter, Region.binds] at hi
      have hall : b14 = false := by simp [hi]
      clear hi
      subst hall
      clear hs hi16 hsh
      refine wpOp_run rfl rfl ?_
      go_simp
      exact ⟨b0, b1, b2, b3, b4, b5, b6, b7, b8, b9, b10, b11, b12, b13, true, b15, b16, b17, b18, b19, b20, b21, b22, q, N, A3, c3, rfl, rfl, hI⟩
    · simp [Region.ready, List.mem_filter, Region.binds] at hi
      have hall : b15 = false ∧ b14 = true := by simp [hi]
      clear hi
      obtain ⟨rfl, rfl⟩ := hall
      clear hs hi16 hsh
      refine wpOp_run rfl rfl ?_
      go_simp
      exact ⟨b0, b1, b2, b3, b4, b5, b6, b7, b8, b9, b10, b11, b12, b13, true, true, b16, b17, b18, b19, b20, b21, b22, q, N, A3, c3, rfl, rfl, hI⟩
    · simp [Region.ready, List.mem_filter, Region.binds] at hi
      have hall : b16 = false ∧ b15 = true := by simp [hi]
      clear hi
      obtain ⟨rfl, rfl⟩ := hall
      clear hs hi16 hsh
      refine wpOp_run rfl rfl ?_
      go_simp
      exact ⟨b0, b1, b2, b3, b4, b5, b6, b7, b8, b9, b10, b11, b12, b13, b14, true, true, b17, b18, b19, b20, b21, b22, q, N, A3, c3, rfl, rfl, hI⟩
    · simp [Region.ready, List.mem_filter, Region.binds] at hi
      have hall : b17 = false ∧ b16 = true := by simp [hi]
      clear hi
      obtain ⟨rfl, rfl⟩ := hall
      have z18 : b18 = false := by
        have q := hsh 18 _ rfl
        simp [Region.binds] at q
        cases b18
        · rfl
        · simp at q
      subst z18
      clear hs hi16 hsh
      obtain rfl := hI.w rfl
      obtain ⟨x0, x1⟩ := hX
      obtain ⟨y0, y1⟩ := hY
      refine wpOp_run rfl rfl ?_
      go_simp
      exact ⟨b0, b1, b2, b3, b4, b5, b6, b7, b8, b9, b10, b11, b12, b13, b14, b15, true, true, false, b19, b20, b21, b22, q, N, A3, c3, rfl, rfl, hI⟩
    · simp [Region.ready, List.mem_filter, Region.binds] at hi
      have hall : b18 = false ∧ b4 = true ∧ b8 = true ∧ b13 = true ∧ b17 = true := by simp [hi]
      clear hi
      obtain ⟨rfl, rfl, rfl, rfl, rfl⟩ := hall
      have z19 : b19 = false := by
        have q := hsh 19 _ rfl
        simp [Region.binds] at q
        cases b19
        · rfl
        · simp at q
      subst z19
      have z20 : b20 = false := by
        have q := hsh 20 _ rfl
        simp [Region.binds] at q
        cases b20
        · rfl
        · simp at q
      subst z20
      have z21 : b21 = false := by
        have q := hsh 21 _ rfl
        simp [Region.binds] at q
        cases b21
        · rfl
        · simp at q
      subst z21
      clear hs hi16 hsh
      obtain rfl := hI.w rfl
      refine wpOp_run rfl rfl ?_
      go_simp
      refine (sum_any _ _ _ _ _ _ _ _ x.natAbs y.natAbs HN.out.1.symm HN.out.2.symm hl hl2 _ HX.out.1.drew HX.out.2.drew).mono ?_
      rintro e w1 ⟨q', N', A3', c3', rfl, hz, hok⟩
      go_simp
      exact ⟨b0, b1, b2, b3, true, b5, b6, b7, true, b9, b10, b11, b12, true, b14, b15, b16, true, true, false, false, false, b22, q', N', A3', c3', rfl, rfl, SmP.two (hz.trans HZ.out) hok.undrew⟩
    · simp [Region.ready, List.mem_filter, Region.binds] at hi
      have hall : b19 = false ∧ b18 = true := by simp [hi]
      clear hi
      obtain ⟨rfl, rfl⟩ := hall
      clear hs hi16 hsh
      refine wpOp_run rfl rfl ?_
      go_simp
      exact ⟨b0, b1, b2, b3, b4, b5, b6, b7, b8, b9, b10, b11, b12, b13, b14, b15, b16, b17, true, true, b20, b21, b22, q, N, A3, c3, rfl, rfl, hI⟩
    · simp [Region.ready, List.mem_filter, Region.binds] at hi
      have hall : b20 = false ∧ b18 = true := by simp [hi]
      clear hi
      obtain ⟨rfl, rfl⟩ := hall
      clear hs hi16 hsh
      refine wpOp_run rfl rfl ?_
      go_simp
      exact ⟨b0, b1, b2, b3, b4, b5, b6, b7, b8, b9, b10, b11, b12, b13, b14, b15, b16, b17, true, b19, true, b21, b22, q, N, A3, c3, rfl, rfl, hI⟩
    · simp [Region.ready, List.mem_filter, Region.binds] at hi
      have hall : b21 = false ∧ b0 = true ∧ b18 = true ∧ b19 = true ∧ b20 = true := by simp [hi]
      clear hi
      obtain ⟨rfl, rfl, rfl, rfl, rfl⟩ := hall
      clear hs hi16 hsh
      obtain ⟨hz, hok⟩ := hI.two_out rfl rfl
      refine wpOp_run rfl rfl ?_
      go_simp
      refine (give_wr g _ _ _ _ (x - y) w w' hz (HW.out.below hok.below) HLg.out hok).mono ?_
      rintro e w3 ⟨rfl, hB3, hg3, _⟩
      go_simp
      exact ⟨true, b1, b2, b3, b4, b5, b6, b7, b8, b9, b10, b11, b12, b13, b14, b15, b16, b17, true, true, true, true, b22, q, N, A3, c3, rfl, rfl, SmP.three hB3 hg3⟩
    · simp [Region.ready, List.mem_filter, Region.binds] at hi
      have hall : b22 = false ∧ b21 = true := by simp [hi]
      clear hi
      obtain ⟨rfl, rfl⟩ := hall
      clear hs hi16 hsh
      refine wpOp_run rfl rfl ?_
      go_simp
      exact ⟨b0, b1, b2, b3, b4, b5, b6, b7, b8, b9, b10, b11, b12, b13, b14, b15, b16, b17, b18, b19, b20, true, true, q, N, A3, c3, rfl, rfl, hI⟩
end Go.Proofs.Ytdpgcojgnehnpaa
