/- Numbers of any size: Set, Lsh, Mul, QuoRem, DivMod, Mod, Rsh, Bit. Conditions: none. -/
import Derived.Test.YtdpgcojgnehnpaaBigSum
import Derived.Test.YtdpgcojgnehnpaaBigAddSub
import Derived.Test.YtdpgcojgnehnpaaBigDiv3
set_option maxRecDepth 20000
namespace Go.Proofs.Ytdpgcojgnehnpaa
open Go.ChangeShapes Go.WideShapes Go.ChangeAt Go.RowKit
theorem twin_ok (A : Option Addr) (n c Q : Nat) (hn : n = (wds Q).length) (w : World) (h : Rd w w.heap.size 1 A n (u32s (wds Q))) (hl : n ≤ 1000000) :
    Calls Try.prog 172 #[.slice A n c] w fun e w' => ∃ A' c', e = .returned (.slice A' (wds Q).length c') ∧ WOk Q w A' c' w' :=
  (twin_any A n c (wds Q) w h hl).mono fun _ _ ⟨A', c', h1, h2, h3⟩ => ⟨A', c', by rw [h1, hn], WOk.of_own hn h2 h3⟩
theorem mul_ok (A A2 : Option Addr) (n n2 c c2 X Y : Nat) (hn : n = (wds X).length) (hn2 : n2 = (wds Y).length) (hl : n ≤ 1000000) (hl2 : n2 ≤ 1000000) (w : World) (h : Rd w w.heap.size 1 A n (u32s (wds X))) (h2 : Rd w w.heap.size 1 A2 n2 (u32s (wds Y))) :
    Calls Try.prog 109 #[.slice A n c, .slice A2 n2 c2] w fun e w' => ∃ A' c', e = .returned (.slice A' (wds (X * Y)).length c') ∧ WOk (X * Y) w A' c' w' := by
  have := mul_any A A2 n n2 c c2 (wds X) (wds Y) hn hn2 (wds_lt _) (wds_lt _) w h h2 hl hl2
  rw [wv_wds, wv_wds] at this
  exact this.mono fun _ _ h => wpost_ok h
theorem left_ok (A : Option Addr) (n c X : Nat) (hn : n = (wds X).length) (w : World) (h : Rd w w.heap.size 1 A n (u32s (wds X))) (hl : n ≤ 1000000) (z : Int) (k s : Nat) (hz : z / 32 = (k : Int)) (hz2 : z % 32 = (s : Int)) (hk : k ≤ 1000) :
    Calls Try.prog 111 #[.slice A n c, .int .u64 z] w fun e w' => ∃ A' c', e = .returned (.slice A' (wds (X * 2 ^ (32 * k + s))).length c') ∧ WOk (X * 2 ^ (32 * k + s)) w A' c' w' := by
  have := left_any A n c (wds X) hn (wds_lt _) w h hl z k s hz hz2 hk
  rw [wv_wds] at this
  exact this.mono fun _ _ h => wpost_ok h
theorem c22_below {g q : Nat} {a b a' b' : Value} {w w' : World} (h : (w.cell? ⟨g, 0, none⟩ = some a ∧ w.cell? ⟨g, 1, none⟩ = some b) ∧ w.cell? ⟨q, 0, none⟩ = some a' ∧ w.cell? ⟨q, 1, none⟩ = some b') (hb : Below w.heap.size w w') : (w'.cell? ⟨g, 0, none⟩ = some a ∧ w'.cell? ⟨g, 1, none⟩ = some b) ∧ w'.cell? ⟨q, 0, none⟩ = some a' ∧ w'.cell? ⟨q, 1, none⟩ = some b' :=
  ⟨C2.below h.1 hb, C2.below h.2 hb⟩
theorem c22_grown {g q z : Nat} {a b a' b' : Value} {w w' : World} (h : (w.cell? ⟨g, 0, none⟩ = some a ∧ w.cell? ⟨g, 1, none⟩ = some b) ∧ w.cell? ⟨q, 0, none⟩ = some a' ∧ w.cell? ⟨q, 1, none⟩ = some b') (hg : w.grownBy w' (some z)) (hne : g ≠ z) (hne2 : q ≠ z) : (w'.cell? ⟨g, 0, none⟩ = some a ∧ w'.cell? ⟨g, 1, none⟩ = some b) ∧ w'.cell? ⟨q, 0, none⟩ = some a' ∧ w'.cell? ⟨q, 1, none⟩ = some b' :=
  ⟨C2.grown h.1 hg hne, C2.grown h.2 hg hne2⟩
theorem set_any (g gx : Nat) (x : Int) (hne : gx ≠ g) (w : World) (hw : Wr w g) (hx : Big w w.heap.size gx x) (hl : (wds x.natAbs).length ≤ 1000000) :
    Calls Try.prog 197 #[.pointer (some ⟨g, 0, none⟩), .pointer (some ⟨gx, 0, none⟩)] w fun e w' => e = .returned (.pointer (some ⟨g, 0, none⟩)) ∧ Big w' w'.heap.size g x ∧ w.grownBy w' (some g) := by
  obtain ⟨Ax, cx, x0, x1, xr, _⟩ := hx
  have HX := Lib.hid xr
  have HZ := Lib.hid (sgz_of x)
  have HW := Lib.hid hw
  have HLg := Lib.hid hw.lt
  clear xr hw
  have hS0 : C2 gx (.bool (decide (x < 0))) (.slice Ax (wds x.natAbs).length cx) w := ⟨x0, x1⟩
  clear x0 x1
  generalize decide (x < 0) = a at *
  generalize x.natAbs = X at *
  have hId : C2 gx (.bool a) (.slice Ax (wds X).length cx) w.drew := hS0
  go_enter Try.func197, Try.ntmps197
  go_wp2_with fail
  go_region_held3 (fun w' => w'.cell? ⟨gx, 0, none⟩ = some (.bool a) ∧ w'.cell? ⟨gx, 1, none⟩ = some (.slice Ax (wds X).length cx))
    (first | exact hId | exact C2.below (by assumption) (WOk.below (by assumption)) | exact C2.grown (by assumption) (by assumption) hne)
    (first
      | (go_at_call 172; refine (twin_ok _ _ cx X rfl _ HX.out.drew hl).mono ?_; rintro e w1 ⟨A3, c3, rfl, hok⟩)
      | (go_at_call 106; refine (give_wr _ _ _ _ _ x w _ HZ.out (HW.out.below (WOk.below (WOk.undrew (by assumption)))) HLg.out (WOk.undrew (by assumption))).mono ?_; rintro e w3 ⟨rfl, hB3, hg3, hg4⟩))
  go_wp2
  go_ret
  exact ⟨rfl, by assumption, by assumption⟩
theorem sgz_mul (x y : Int) : sgz (decide (x < 0) != decide (y < 0)) (x.natAbs * y.natAbs) = x * y := by
  have e1 : x = sgz (decide (x < 0)) x.natAbs := (sgz_of x).symm
  have e2 : y = sgz (decide (y < 0)) y.natAbs := (sgz_of y).symm
  generalize decide (x < 0) = a at *
  generalize decide (y < 0) = b at *
  generalize x.natAbs = X at *
  generalize y.natAbs = Y at *
  subst e1 e2
  cases a <;> cases b <;> simp [sgz, Int.neg_mul, Int.mul_neg]
theorem sgz_shl (x : Int) (k : Nat) : sgz (decide (x < 0)) (x.natAbs * 2 ^ k) = x * 2 ^ k := by
  have e1 : x = sgz (decide (x < 0)) x.natAbs := (sgz_of x).symm
  generalize decide (x < 0) = a at *
  generalize x.natAbs = X at *
  subst e1
  cases a <;> simp [sgz, Int.neg_mul]
theorem intMul_any (g gx gy : Nat) (x y : Int) (hne : gx ≠ g) (hne2 : gy ≠ g) (w : World) (hw : Wr w g) (hx : Big w w.heap.size gx x) (hy : Big w w.heap.size gy y) (hl : (wds x.natAbs).length ≤ 1000000) (hl2 : (wds y.natAbs).length ≤ 1000000) :
    Calls Try.prog 45 #[.pointer (some ⟨g, 0, none⟩), .pointer (some ⟨gx, 0, none⟩), .pointer (some ⟨gy, 0, none⟩)] w fun e w' => e = .returned (.pointer (some ⟨g, 0, none⟩)) ∧ Big w' w'.heap.size g (x * y) ∧ w.grownBy w' (some g) := by
  obtain ⟨Ax, cx, x0, x1, xr, _⟩ := hx
  obtain ⟨Ay, cy, y0, y1, yr, _⟩ := hy
  have HX := Lib.hid (And.intro xr yr)
  have HZ := Lib.hid (sgz_mul x y)
  have HW := Lib.hid hw
  have HLg := Lib.hid hw.lt
  clear xr yr hw
  have hX : C2 gx (.bool (decide (x < 0))) (.slice Ax (wds x.natAbs).length cx) w := ⟨x0, x1⟩
  have hY : C2 gy (.bool (decide (y < 0))) (.slice Ay (wds y.natAbs).length cy) w := ⟨y0, y1⟩
  clear x0 x1 y0 y1
  generalize decide (x < 0) = a at *
  generalize decide (y < 0) = b at *
  generalize x.natAbs = X at *
  generalize y.natAbs = Y at *
  generalize hnx : (wds X).length = n at *
  generalize hny : (wds Y).length = n2 at *
  have HN := Lib.hid (And.intro hnx hny)
  clear hnx hny
  have hId : (w.drew.cell? ⟨gx, 0, none⟩ = some (.bool a) ∧ w.drew.cell? ⟨gx, 1, none⟩ = some (.slice Ax n cx)) ∧ w.drew.cell? ⟨gy, 0, none⟩ = some (.bool b) ∧ w.drew.cell? ⟨gy, 1, none⟩ = some (.slice Ay n2 cy) := ⟨hX, hY⟩
  go_enter Try.func45, Try.ntmps45
  go_wp2_with fail
  go_region_held3 (fun w' => (w'.cell? ⟨gx, 0, none⟩ = some (.bool a) ∧ w'.cell? ⟨gx, 1, none⟩ = some (.slice Ax n cx)) ∧ w'.cell? ⟨gy, 0, none⟩ = some (.bool b) ∧ w'.cell? ⟨gy, 1, none⟩ = some (.slice Ay n2 cy))
    (first | exact hId | exact c22_below (by assumption) (WOk.below (by assumption)) | exact c22_grown (by assumption) (by assumption) hne hne2)
    (first
      | (go_at_call 109; refine (mul_ok _ _ n n2 cx cy X Y HN.out.1.symm HN.out.2.symm hl hl2 _ HX.out.1.drew HX.out.2.drew).mono ?_; rintro e w1 ⟨A3, c3, rfl, hok⟩)
      | (go_at_call 106; refine (give_wr _ _ _ _ _ (x * y) w _ HZ.out (HW.out.below (WOk.below (WOk.undrew (by assumption)))) HLg.out (WOk.undrew (by assumption))).mono ?_; rintro e w3 ⟨rfl, hB3, hg3, hg4⟩))
  go_wp2
  go_ret
  exact ⟨rfl, by assumption, by assumption⟩
theorem lsh_any (g gx : Nat) (x : Int) (hne : gx ≠ g) (w : World) (hw : Wr w g) (hx : Big w w.heap.size gx x) (hl : (wds x.natAbs).length ≤ 1000000) (z : Int) (k s : Nat) (hz : z / 32 = (k : Int)) (hz2 : z % 32 = (s : Int)) (hk : k ≤ 1000) :
    Calls Try.prog 47 #[.pointer (some ⟨g, 0, none⟩), .pointer (some ⟨gx, 0, none⟩), .int .u64 z] w fun e w' => e = .returned (.pointer (some ⟨g, 0, none⟩)) ∧ Big w' w'.heap.size g (x * 2 ^ (32 * k + s)) ∧ w.grownBy w' (some g) := by
  obtain ⟨Ax, cx, x0, x1, xr, _⟩ := hx
  have HX := Lib.hid xr
  have HZ := Lib.hid (sgz_shl x (32 * k + s))
  have HW := Lib.hid hw
  have HLg := Lib.hid hw.lt
  have HZZ := Lib.hid (And.intro hz hz2)
  clear xr hw hz hz2
  have hS0 : C2 gx (.bool (decide (x < 0))) (.slice Ax (wds x.natAbs).length cx) w := ⟨x0, x1⟩
  clear x0 x1
  generalize decide (x < 0) = a at *
  generalize x.natAbs = X at *
  generalize hnx : (wds X).length = n at *
  have HN := Lib.hid hnx
  clear hnx
  have hId : C2 gx (.bool a) (.slice Ax n cx) w.drew := hS0
  go_enter Try.func47, Try.ntmps47
  go_wp2_with fail
  go_region_held3 (fun w' => w'.cell? ⟨gx, 0, none⟩ = some (.bool a) ∧ w'.cell? ⟨gx, 1, none⟩ = some (.slice Ax n cx))
    (first | exact hId | exact C2.below (by assumption) (WOk.below (by assumption)) | exact C2.grown (by assumption) (by assumption) hne)
    (first
      | (go_at_call 111; refine (left_ok _ n cx X HN.out.symm _ HX.out.drew hl _ k s HZZ.out.1 HZZ.out.2 hk).mono ?_; rintro e w1 ⟨A3, c3, rfl, hok⟩)
      | (go_at_call 106; refine (give_wr _ _ _ _ _ _ w _ HZ.out (HW.out.below (WOk.below (WOk.undrew (by assumption)))) HLg.out (WOk.undrew (by assumption))).mono ?_; rintro e w3 ⟨rfl, hB3, hg3, hg4⟩))
  go_wp2
  go_ret
  exact ⟨rfl, by assumption, by assumption⟩
end Go.Proofs.Ytdpgcojgnehnpaa
