/- 'fault.guess'. Conditions: the lengths. -/
import Derived.Test.YtgjhjojbaieeaaaDoorFrN
import Derived.StillTailTactics
set_option maxRecDepth 20000
namespace Go.Proofs.YtgjhjojbaieeaaaDoor
open Go.ChangeShapes Go.WideShapes Go.ChangeAt Go.RowKit
/-- The forms, as texts and as pieces. -/
def m1 : ByteArray := ⟨#[114, 117, 110, 116, 105, 109, 101, 32, 101, 114, 114, 111, 114, 58, 32, 105, 110, 100, 101, 120, 32, 111, 117, 116, 32, 111, 102, 32, 114, 97, 110, 103, 101, 32, 91, 35, 93, 32, 119, 105, 116, 104, 32, 108, 101, 110, 103, 116, 104, 32, 35]⟩
def m7 : ByteArray := ⟨#[114, 117, 110, 116, 105, 109, 101, 32, 101, 114, 114, 111, 114, 58, 32, 108, 101, 110, 103, 116, 104, 32, 35, 32, 105, 115, 32, 97, 98, 111, 118, 101, 32, 35]⟩
def mB : ByteArray := ⟨#[114, 117, 110, 116, 105, 109, 101, 32, 101, 114, 114, 111, 114, 58, 32, 115, 108, 105, 99, 101, 32, 98, 111, 117, 110, 100, 115, 32, 111, 117, 116, 32, 111, 102, 32, 114, 97, 110, 103, 101, 32, 91, 58, 35, 93, 32, 119, 105, 116, 104, 32, 108, 101, 110, 103, 116, 104, 32, 35]⟩
def mC : ByteArray := ⟨#[114, 117, 110, 116, 105, 109, 101, 32, 101, 114, 114, 111, 114, 58, 32, 115, 108, 105, 99, 101, 32, 98, 111, 117, 110, 100, 115, 32, 111, 117, 116, 32, 111, 102, 32, 114, 97, 110, 103, 101, 32, 91, 35, 58, 35, 93]⟩
def mD : ByteArray := ⟨#[114, 117, 110, 116, 105, 109, 101, 32, 101, 114, 114, 111, 114, 58, 32, 115, 108, 105, 99, 101, 32, 98, 111, 117, 110, 100, 115, 32, 111, 117, 116, 32, 111, 102, 32, 114, 97, 110, 103, 101, 32, 91, 35, 58, 93]⟩
def w1L : List ByteArray := [⟨#[114, 117, 110, 116, 105, 109, 101, 32, 101, 114, 114, 111, 114, 58, 32, 105, 110, 100, 101, 120, 32, 111, 117, 116, 32, 111, 102, 32, 114, 97, 110, 103, 101, 32, 91]⟩, ⟨#[93, 32, 119, 105, 116, 104, 32, 108, 101, 110, 103, 116, 104, 32]⟩, ⟨#[]⟩]
def w7L : List ByteArray := [⟨#[114, 117, 110, 116, 105, 109, 101, 32, 101, 114, 114, 111, 114, 58, 32, 108, 101, 110, 103, 116, 104, 32]⟩, ⟨#[32, 105, 115, 32, 97, 98, 111, 118, 101, 32]⟩, ⟨#[]⟩]
def wBL : List ByteArray := [⟨#[114, 117, 110, 116, 105, 109, 101, 32, 101, 114, 114, 111, 114, 58, 32, 115, 108, 105, 99, 101, 32, 98, 111, 117, 110, 100, 115, 32, 111, 117, 116, 32, 111, 102, 32, 114, 97, 110, 103, 101, 32, 91, 58]⟩, ⟨#[93, 32, 119, 105, 116, 104, 32, 108, 101, 110, 103, 116, 104, 32]⟩, ⟨#[]⟩]
def wCL : List ByteArray := [⟨#[114, 117, 110, 116, 105, 109, 101, 32, 101, 114, 114, 111, 114, 58, 32, 115, 108, 105, 99, 101, 32, 98, 111, 117, 110, 100, 115, 32, 111, 117, 116, 32, 111, 102, 32, 114, 97, 110, 103, 101, 32, 91]⟩, ⟨#[58]⟩, ⟨#[93]⟩]
def wDL : List ByteArray := [⟨#[114, 117, 110, 116, 105, 109, 101, 32, 101, 114, 114, 111, 114, 58, 32, 115, 108, 105, 99, 101, 32, 98, 111, 117, 110, 100, 115, 32, 111, 117, 116, 32, 111, 102, 32, 114, 97, 110, 103, 101, 32, 91]⟩, ⟨#[58, 93]⟩]
theorem c1 : Lib.countB m1 ⟨#[35]⟩ + 1 = w1L.length := by decide +kernel
theorem p1 : Lib.splitB ⟨#[35]⟩ 0 (Lib.countB m1 ⟨#[35]⟩) m1 = w1L := by decide +kernel
theorem c7 : Lib.countB m7 ⟨#[35]⟩ + 1 = w7L.length := by decide +kernel
theorem p7 : Lib.splitB ⟨#[35]⟩ 0 (Lib.countB m7 ⟨#[35]⟩) m7 = w7L := by decide +kernel
theorem cB : Lib.countB mB ⟨#[35]⟩ + 1 = wBL.length := by decide +kernel
theorem pB : Lib.splitB ⟨#[35]⟩ 0 (Lib.countB mB ⟨#[35]⟩) mB = wBL := by decide +kernel
theorem cC : Lib.countB mC ⟨#[35]⟩ + 1 = wCL.length := by decide +kernel
theorem pC : Lib.splitB ⟨#[35]⟩ 0 (Lib.countB mC ⟨#[35]⟩) mC = wCL := by decide +kernel
theorem cD : Lib.countB mD ⟨#[35]⟩ + 1 = wDL.length := by decide +kernel
theorem pD : Lib.splitB ⟨#[35]⟩ 0 (Lib.countB mD ⟨#[35]⟩) mD = wDL := by decide +kernel
theorem numGo_in : ∀ {ps : List (List UInt8)} {s : List UInt8} {acc l : List Int}, numGo ps s acc = some l → (∀ x ∈ acc, inI x) → ∀ x ∈ l, inI x
  | [], s, acc, l, h, ha => by rw [(numGo_nil h).2]; exact ha
  | p :: ps, s, acc, l, h, ha => by
    obtain ⟨v, t, hv, _, h2⟩ := numGo_inv h
    refine numGo_in h2 fun x hx => ?_
    rcases List.mem_append.1 hx with hx | hx
    · exact ha x hx
    · rw [List.mem_singleton.1 hx]; exact hv
theorem numP_in {p : List UInt8} {ps : List (List UInt8)} {s : List UInt8} {l : List Int} (h : numP (p :: ps) s = some l) : ∀ x ∈ l, inI x := by
  obtain ⟨t, _, h2⟩ := numP_inv h
  exact numGo_in h2 (fun x hx => by cases hx)
theorem fix_hit {s : List UInt8} {k : Nat} (h1 : 1 ≤ k) (h8 : k ≤ 8) (hn : ∀ j : Nat, 1 ≤ j → j < k → FX j ≠ s) (h : FX k = s) : fixP s = ((k : Int), 0, 0, 0) := by
  subst h
  have e : k = 1 ∨ k = 2 ∨ k = 3 ∨ k = 4 ∨ k = 5 ∨ k = 6 ∨ k = 7 ∨ k = 8 := by omega
  rcases e with rfl | rfl | rfl | rfl | rfl | rfl | rfl | rfl
  · decide +kernel
  · decide +kernel
  · decide +kernel
  · decide +kernel
  · exact absurd (show FX ((1 : Nat) : Int) = FX ((5 : Nat) : Int) by decide +kernel) (hn 1 (by omega) (by omega))
  · decide +kernel
  · exact absurd (show FX ((1 : Nat) : Int) = FX ((7 : Nat) : Int) by decide +kernel) (hn 1 (by omega) (by omega))
  · decide +kernel
theorem fix_none {s : List UInt8} (hn : ∀ j : Nat, 1 ≤ j → j < 9 → FX j ≠ s) : fixP s = (0, 0, 0, 0) := by
  unfold fixP
  rw [if_neg (fun e => hn 1 (by omega) (by omega) (by rw [e]; rfl)), if_neg (fun e => hn 2 (by omega) (by omega) e.symm), if_neg (fun e => hn 3 (by omega) (by omega) e.symm), if_neg (fun e => hn 4 (by omega) (by omega) e.symm), if_neg (fun e => hn 6 (by omega) (by omega) e.symm), if_neg (fun e => hn 8 (by omega) (by omega) e.symm)]
/-- The result's cells. -/
structure GC (w : World) (g : Nat) : Prop where
  r0 : w.cell? ⟨g, 0, none⟩ = some (.int .i64 0)
  r1 : w.cell? ⟨g, 1, none⟩ = some (.int .i64 0)
  r2 : w.cell? ⟨g, 2, none⟩ = some (.int .i64 0)
  r3 : w.cell? ⟨g, 3, none⟩ = some (.int .i64 0)
  z0 : w.frozen? ⟨g, 0, none⟩ = false
  z1 : w.frozen? ⟨g, 1, none⟩ = false
  z2 : w.frozen? ⟨g, 2, none⟩ = false
  z3 : w.frozen? ⟨g, 3, none⟩ = false
theorem GC.into {w w' : World} {g : Nat} (h : GC w g) (hb : Below w.heap.size w w') : GC w' g := by
  have hg : g < w.heap.size := World.block_lt_of_cell? w ⟨g, 0, none⟩ h.r0
  exact ⟨(hb.cell (p := ⟨g, 0, none⟩) hg).trans h.r0, (hb.cell (p := ⟨g, 1, none⟩) hg).trans h.r1, (hb.cell (p := ⟨g, 2, none⟩) hg).trans h.r2, (hb.cell (p := ⟨g, 3, none⟩) hg).trans h.r3,
    (hb.frozen (p := ⟨g, 0, none⟩) hg).trans h.z0, (hb.frozen (p := ⟨g, 1, none⟩) hg).trans h.z1, (hb.frozen (p := ⟨g, 2, none⟩) hg).trans h.z2, (hb.frozen (p := ⟨g, 3, none⟩) hg).trans h.z3⟩
theorem gset {g : Nat} {a w : World} (h : Below g a w) (v0 v1 v2 v3 : Value) : Below g a ((((w.setCell ⟨g, 0, none⟩ v0).setCell ⟨g, 1, none⟩ v1).setCell ⟨g, 2, none⟩ v2).setCell ⟨g, 3, none⟩ v3) :=
  Below.setCell (Below.setCell (Below.setCell (Below.setCell h (p := ⟨g, 0, none⟩) (Nat.le_refl g) v0) (p := ⟨g, 1, none⟩) (Nat.le_refl g) v1) (p := ⟨g, 2, none⟩) (Nat.le_refl g) v2) (p := ⟨g, 3, none⟩) (Nat.le_refl g) v3
/-- What 'numbers' comes to, in two arms. -/
theorem NP.arms {s : ByteArray} {L : List ByteArray} {w : World} {e : Ending} {w' : World} (h : NP s L w e w') :
    ((∃ A n C, e = .returned (.tuple #[.slice A n C, .bool false]) ∧ numP (L.map lst) s.data.toList = none) ∨
     (∃ A C l, e = .returned (.tuple #[.slice A (List.length l) C, .bool true]) ∧ Rd w' w'.heap.size 1 A (List.length l) (l.map (Value.int .i64)) ∧ numP (L.map lst) s.data.toList = some l ∧ l.length + 1 = L.length)) ∧ Below w.heap.size w w' := by
  obtain ⟨h | ⟨A, C, l, h⟩ | ⟨A, C, l, h⟩, hb⟩ := h
  · exact ⟨.inl ⟨none, 0, 0, h⟩, hb⟩
  · exact ⟨.inl ⟨A, _, C, h⟩, hb⟩
  · exact ⟨.inr ⟨A, C, l, h⟩, hb⟩
theorem two_cells {w : World} {A : Option Addr} {x y : Int} (h : Rd w w.heap.size 1 A 2 ([x, y].map (Value.int .i64))) : ∃ b off, A = some ⟨b, off, none⟩ ∧ w.cell? ⟨b, off, none⟩ = some (.int .i64 x) ∧ w.cell? ⟨b, off + 1, none⟩ = some (.int .i64 y) := by
  obtain ⟨b, off, e, _, hc⟩ := h.2 (by omega)
  exact ⟨b, off, e, hc 0 _ rfl, hc 1 _ rfl⟩
theorem one_cell {w : World} {A : Option Addr} {x : Int} (h : Rd w w.heap.size 1 A 1 ([x].map (Value.int .i64))) : ∃ b off, A = some ⟨b, off, none⟩ ∧ w.cell? ⟨b, off, none⟩ = some (.int .i64 x) := by
  obtain ⟨b, off, e, _, hc⟩ := h.2 (by omega)
  exact ⟨b, off, e, hc 0 _ rfl⟩
def GP (s : ByteArray) (e : Ending) : Prop := ∃ k a b c, e = .returned (.agg #[.int .i64 k, .int .i64 a, .int .i64 b, .int .i64 c]) ∧ guessP s.data.toList = (k, a, b, c) ∧ inI a ∧ inI b ∧ inI c
theorem in0 : inI 0 := by simp [inI]
set_option maxHeartbeats 4000000 in
theorem guess_any (s : ByteArray) (m : Int) (w : World) (hm : w.cell? ⟨0, 0, none⟩ = some (.int .i64 m)) (hs : s.size ≤ 140737488351232) : Calls Tryd.prog 6 #[.string s] w fun e w' => GP s e ∧ Below w.heap.size w w' := by
  have h0 : 0 < w.heap.size := World.block_lt_of_cell? w ⟨0, 0, none⟩ hm
  have HM := Lib.hid (fun (W : World) (hb : Below w.heap.size w W) => (hb.cell (p := ⟨0, 0, none⟩) h0).trans hm)
  have HG0 := Lib.hid (show guessP s.data.toList = guessP s.data.toList from rfl)
  clear hm h0
  go_enter Tryd.func6, Tryd.ntmps6
  go_wp2_with fail
  generalize hw0 : World.alloc w _ = w0
  have hgc0 : GC w0 w.heap.size := by subst hw0; constructor <;> simp [go_sem]
  have HGC0 := Lib.hid hgc0
  have HB0 := Lib.hid (show Below w.heap.size w w0 by subst hw0; exact al _)
  clear hw0 hgc0
  generalize hg : w.heap.size = g at *
  rw [← hg] at HM HB0
  refine (numbers_any s m1 w1L m w0 c1 p1 (by decide) (HM.out w0 (by first | exact HB0.out | (rw [hg]; exact HB0.out))) hs (by decide)).mono ?_
  rintro e w1 h0np
  obtain ⟨hnp | ⟨A, C, l, rfl, hrd, hsome, hlen⟩, hb⟩ := h0np.arms
  rotate_left
  · obtain ⟨x, y, rfl⟩ : ∃ x y, l = [x, y] := by
      rcases l with _ | ⟨x, _ | ⟨y, _ | ⟨z, l⟩⟩⟩
      · simp [w1L] at hlen
      · simp [w1L] at hlen
      · exact ⟨x, y, rfl⟩
      · simp [w1L] at hlen
    have hin := numP_in hsome
    obtain ⟨b, off, rfl, e0, e1⟩ := two_cells hrd
    have HR := Lib.hid (show guessP s.data.toList = (1, x, y, 0) by unfold guessP; rw [show numP [P1, WL, []] s.data.toList = _ from hsome]; rfl)
    have HIN := Lib.hid (And.intro (hin x (by simp)) (And.intro (hin y (by simp)) in0))
    obtain ⟨r0, r1, r2, r3, z0, z1, z2, z3⟩ := HGC0.out.into hb
    have HBz := Lib.hid (sq HB0.out hb)
    clear hrd hsome hlen hb hin h0np
    go_wp2_with fail
    go_still_tail 7, (by kernel_rfl)
    change wpList _ _ _ _ _ w1.drew
    go_wp2_with fail
    refine bodyPost_ret (v := .agg #[.int .i64 1, .int .i64 x, .int .i64 y, .int .i64 0]) (by simp [results, Tryd.results6, go_sem, r0, r1, r2, r3]) rfl ⟨⟨_, _, _, _, rfl, HR.out, HIN.out.1, HIN.out.2.1, HIN.out.2.2⟩, ?_⟩
    try rw [hg]
    have hbz := HBz.out
    rw [hg] at hbz
    exact gset (dr hbz 1) _ _ _ _
  obtain ⟨A, n, C, rfl, hno⟩ := hnp
  have HN0 := Lib.hid (show numP [P1, WL, []] s.data.toList = none from hno)
  have HGC1 := Lib.hid (HGC0.out.into hb)
  have HB1 := Lib.hid (sq HB0.out hb)
  clear hb hno h0np
  go_wp2_with fail
  refine (numbers_any s m7 w7L m w1 c7 p7 (by decide) (HM.out w1 (by first | exact HB1.out | (rw [hg]; exact HB1.out))) hs (by decide)).mono ?_
  rintro e w2 h0np
  obtain ⟨hnp | ⟨A, C, l, rfl, hrd, hsome, hlen⟩, hb⟩ := h0np.arms
  rotate_left
  · obtain ⟨x, y, rfl⟩ : ∃ x y, l = [x, y] := by
      rcases l with _ | ⟨x, _ | ⟨y, _ | ⟨z, l⟩⟩⟩
      · simp [w7L] at hlen
      · simp [w7L] at hlen
      · exact ⟨x, y, rfl⟩
      · simp [w7L] at hlen
    have hin := numP_in hsome
    obtain ⟨b, off, rfl, e0, e1⟩ := two_cells hrd
    have HR := Lib.hid (show guessP s.data.toList = (7, x, y, 0) by unfold guessP; rw [HN0.out, show numP [P7, AB, []] s.data.toList = _ from hsome]; rfl)
    have HIN := Lib.hid (And.intro (hin x (by simp)) (And.intro (hin y (by simp)) in0))
    obtain ⟨r0, r1, r2, r3, z0, z1, z2, z3⟩ := HGC1.out.into hb
    have HBz := Lib.hid (sq HB1.out hb)
    clear hrd hsome hlen hb hin h0np
    go_wp2_with fail
    go_still_tail 7, (by kernel_rfl)
    change wpList _ _ _ _ _ w2.drew
    go_wp2_with fail
    refine bodyPost_ret (v := .agg #[.int .i64 7, .int .i64 x, .int .i64 y, .int .i64 0]) (by simp [results, Tryd.results6, go_sem, r0, r1, r2, r3]) rfl ⟨⟨_, _, _, _, rfl, HR.out, HIN.out.1, HIN.out.2.1, HIN.out.2.2⟩, ?_⟩
    try rw [hg]
    have hbz := HBz.out
    rw [hg] at hbz
    exact gset (dr hbz 1) _ _ _ _
  obtain ⟨A, n, C, rfl, hno⟩ := hnp
  have HN1 := Lib.hid (show numP [P7, AB, []] s.data.toList = none from hno)
  have HGC2 := Lib.hid (HGC1.out.into hb)
  have HB2 := Lib.hid (sq HB1.out hb)
  clear hb hno h0np
  go_wp2_with fail
  refine (numbers_any s mB wBL m w2 cB pB (by decide) (HM.out w2 (by first | exact HB2.out | (rw [hg]; exact HB2.out))) hs (by decide)).mono ?_
  rintro e w3 h0np
  obtain ⟨hnp | ⟨A, C, l, rfl, hrd, hsome, hlen⟩, hb⟩ := h0np.arms
  rotate_left
  · obtain ⟨x, y, rfl⟩ : ∃ x y, l = [x, y] := by
      rcases l with _ | ⟨x, _ | ⟨y, _ | ⟨z, l⟩⟩⟩
      · simp [wBL] at hlen
      · simp [wBL] at hlen
      · exact ⟨x, y, rfl⟩
      · simp [wBL] at hlen
    have hin := numP_in hsome
    obtain ⟨b, off, rfl, e0, e1⟩ := two_cells hrd
    have HR := Lib.hid (show guessP s.data.toList = (5, 0, x, y) by unfold guessP; rw [HN0.out, HN1.out, show numP [PB ++ CO, WL, []] s.data.toList = _ from hsome]; rfl)
    have HIN := Lib.hid (And.intro in0 (And.intro (hin x (by simp)) (hin y (by simp))))
    obtain ⟨r0, r1, r2, r3, z0, z1, z2, z3⟩ := HGC2.out.into hb
    have HBz := Lib.hid (sq HB2.out hb)
    clear hrd hsome hlen hb hin h0np
    go_wp2_with fail
    go_still_tail 7, (by kernel_rfl)
    change wpList _ _ _ _ _ w3.drew
    go_wp2_with fail
    refine bodyPost_ret (v := .agg #[.int .i64 5, .int .i64 0, .int .i64 x, .int .i64 y]) (by simp [results, Tryd.results6, go_sem, r0, r1, r2, r3]) rfl ⟨⟨_, _, _, _, rfl, HR.out, HIN.out.1, HIN.out.2.1, HIN.out.2.2⟩, ?_⟩
    try rw [hg]
    have hbz := HBz.out
    rw [hg] at hbz
    exact gset (dr hbz 1) _ _ _ _
  obtain ⟨A, n, C, rfl, hno⟩ := hnp
  have HN2 := Lib.hid (show numP [PB ++ CO, WL, []] s.data.toList = none from hno)
  have HGC3 := Lib.hid (HGC2.out.into hb)
  have HB3 := Lib.hid (sq HB2.out hb)
  clear hb hno h0np
  go_wp2_with fail
  refine (numbers_any s mC wCL m w3 cC pC (by decide) (HM.out w3 (by first | exact HB3.out | (rw [hg]; exact HB3.out))) hs (by decide)).mono ?_
  rintro e w4 h0np
  obtain ⟨hnp | ⟨A, C, l, rfl, hrd, hsome, hlen⟩, hb⟩ := h0np.arms
  rotate_left
  · obtain ⟨x, y, rfl⟩ : ∃ x y, l = [x, y] := by
      rcases l with _ | ⟨x, _ | ⟨y, _ | ⟨z, l⟩⟩⟩
      · simp [wCL] at hlen
      · simp [wCL] at hlen
      · exact ⟨x, y, rfl⟩
      · simp [wCL] at hlen
    have hin := numP_in hsome
    obtain ⟨b, off, rfl, e0, e1⟩ := two_cells hrd
    have HR := Lib.hid (show guessP s.data.toList = (5, x, y, y) by unfold guessP; rw [HN0.out, HN1.out, HN2.out, show numP [PB, CO, EN] s.data.toList = _ from hsome]; rfl)
    have HIN := Lib.hid (And.intro (hin x (by simp)) (And.intro (hin y (by simp)) (hin y (by simp))))
    obtain ⟨r0, r1, r2, r3, z0, z1, z2, z3⟩ := HGC3.out.into hb
    have HBz := Lib.hid (sq HB3.out hb)
    clear hrd hsome hlen hb hin h0np
    go_wp2_with fail
    go_still_tail 10, (by kernel_rfl)
    change wpList _ _ _ _ _ w4.drew
    go_wp2_with fail
    refine bodyPost_ret (v := .agg #[.int .i64 5, .int .i64 x, .int .i64 y, .int .i64 y]) (by simp [results, Tryd.results6, go_sem, r0, r1, r2, r3]) rfl ⟨⟨_, _, _, _, rfl, HR.out, HIN.out.1, HIN.out.2.1, HIN.out.2.2⟩, ?_⟩
    try rw [hg]
    have hbz := HBz.out
    rw [hg] at hbz
    exact gset (dr hbz 1) _ _ _ _
  obtain ⟨A, n, C, rfl, hno⟩ := hnp
  have HN3 := Lib.hid (show numP [PB, CO, EN] s.data.toList = none from hno)
  have HGC4 := Lib.hid (HGC3.out.into hb)
  have HB4 := Lib.hid (sq HB3.out hb)
  clear hb hno h0np
  go_wp2_with fail
  refine (numbers_any s mD wDL m w4 cD pD (by decide) (HM.out w4 (by first | exact HB4.out | (rw [hg]; exact HB4.out))) hs (by decide)).mono ?_
  rintro e w5 h0np
  obtain ⟨hnp | ⟨A, C, l, rfl, hrd, hsome, hlen⟩, hb⟩ := h0np.arms
  rotate_left
  · obtain ⟨x, rfl⟩ : ∃ x, l = [x] := by
      rcases l with _ | ⟨x, _ | ⟨y, l⟩⟩
      · simp [wDL] at hlen
      · exact ⟨x, rfl⟩
      · simp [wDL] at hlen
    have hin := numP_in hsome
    obtain ⟨b, off, rfl, e0⟩ := one_cell hrd
    have HR := Lib.hid (show guessP s.data.toList = (5, x, 0, 0) by unfold guessP; rw [HN0.out, HN1.out, HN2.out, HN3.out, show numP [PB, CE] s.data.toList = _ from hsome]; rfl)
    have HIN := Lib.hid (And.intro (hin x (by simp)) (And.intro in0 in0))
    obtain ⟨r0, r1, r2, r3, z0, z1, z2, z3⟩ := HGC4.out.into hb
    have HBz := Lib.hid (sq HB4.out hb)
    clear hrd hsome hlen hb hin h0np
    go_wp2_with fail
    refine bodyPost_ret (v := .agg #[.int .i64 5, .int .i64 x, .int .i64 0, .int .i64 0]) (by simp [results, Tryd.results6, go_sem, r0, r1, r2, r3]) rfl ⟨⟨_, _, _, _, rfl, HR.out, HIN.out.1, HIN.out.2.1, HIN.out.2.2⟩, ?_⟩
    try rw [hg]
    have hbz := HBz.out
    rw [hg] at hbz
    exact gset hbz _ _ _ _
  obtain ⟨A, n, C, rfl, hno⟩ := hnp
  have HN4 := Lib.hid (show numP [PB, CE] s.data.toList = none from hno)
  have HGC5 := Lib.hid (HGC4.out.into hb)
  have HB5 := Lib.hid (sq HB4.out hb)
  clear hb hno h0np
  go_wp2_with fail
  have HFX := Lib.hid (show guessP s.data.toList = fixP s.data.toList by unfold guessP; rw [HN0.out, HN1.out, HN2.out, HN3.out, HN4.out])
  obtain ⟨r0, r1, r2, r3, z0, z1, z2, z3⟩ := HGC5.out
  go_loop [13] (fun i => ∃ k : Nat, i = .int .i64 (k : Int) ∧ 1 ≤ k ∧ k ≤ 9 ∧ Hid (∀ j : Nat, 1 ≤ j → j < k → FX j ≠ s.data.toList)) (fun i => 9 - (intOf i).toNat)
  case atStart => exact ⟨1, rfl, by omega, by omega, Lib.hid (fun j h1 h2 => by omega)⟩
  case round =>
    obtain ⟨k, rfl, hk1, hk9, HK⟩ := hrel
    by_cases hlt : k ≤ 8
    · have hki : (k : Int) ≤ 8 := by omega
      have HT := Lib.hid (show ((fixedS (k : Int)).toList == s.toList) = decide (FX k = s.data.toList) by
        rw [ByteArray.toList_eq, ByteArray.toList_eq]
        by_cases h : FX k = s.data.toList
        · rw [decide_eq_true h, beq_iff_eq]; exact h
        · rw [decide_eq_false h, beq_eq_false_iff_ne]; exact h)
      by_cases hf : FX k = s.data.toList
      · have ht := HT.out
        rw [decide_eq_true hf] at ht
        have HR := Lib.hid (HFX.out.trans (fix_hit hk1 hlt HK.out hf))
        clear hf
        go_wp2_with fail
        refine (faultFixed_any (k : Int) _).mono ?_
        rintro e w9 ⟨rfl, rfl⟩
        generalize fixedS (k : Int) = F at *
        go_wp2_with fail
        refine bodyPost_ret (v := .agg #[.int .i64 (k : Int), .int .i64 0, .int .i64 0, .int .i64 0]) (by simp [results, Tryd.results6, go_sem, r0, r1, r2, r3]) rfl ⟨⟨_, _, _, _, rfl, HR.out, in0, in0, in0⟩, ?_⟩
        try rw [hg]
        have hbz := HB5.out
        rw [hg] at hbz
        exact gset hbz _ _ _ _
      · have ht := HT.out
        rw [decide_eq_false hf] at ht
        have HK2 := Lib.hid (show ∀ j : Nat, 1 ≤ j → j < k + 1 → FX j ≠ s.data.toList from fun j h1 h2 => by
          rcases Nat.lt_or_ge j k with h3 | h3
          · exact HK.out j h1 h3
          · obtain rfl : j = k := by omega
            exact hf)
        clear hf
        go_wp2_with fail
        refine (faultFixed_any (k : Int) _).mono ?_
        rintro e w9 ⟨rfl, rfl⟩
        generalize fixedS (k : Int) = F at *
        go_wp2_with fail
        exact ⟨⟨k + 1, by go_num, by omega, by omega, HK2⟩, by simp [intOf]; omega⟩
    · have hki : ¬ (k : Int) ≤ 8 := by omega
      have HR := Lib.hid (HFX.out.trans (fix_none fun j h1 h2 => HK.out j h1 (by omega)))
      go_wp2_with fail
      refine bodyPost_ret (v := .agg #[.int .i64 0, .int .i64 0, .int .i64 0, .int .i64 0]) (by simp [results, Tryd.results6, go_sem, r0, r1, r2, r3]) rfl ⟨⟨_, _, _, _, rfl, HR.out, in0, in0, in0⟩, ?_⟩
      try rw [hg]
      have hbz := HB5.out
      rw [hg] at hbz
      exact gset hbz _ _ _ _
end Go.Proofs.YtgjhjojbaieeaaaDoor
