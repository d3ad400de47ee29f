/- Numbers of any size: QuoRem, DivMod and Mod by 2^64. Conditions: none. -/
import Derived.Test.YtdpgcojgnehnpaaBigOps
set_option maxRecDepth 20000
namespace Go.Proofs.Ytdpgcojgnehnpaa
open Go.ChangeShapes Go.WideShapes Go.ChangeAt Go.RowKit
theorem div_any (A A2 : Option Addr) (n n2 c c2 N M : Nat) (hn : n = (wds N).length) (hn2 : n2 = (wds M).length) (hl : n ≤ 1000) (hc : (N < 18446744073709551616 ∧ M < 18446744073709551616 ∧ M ≠ 0) ∨ M = M64) (w : World) (h : Rd w w.heap.size 1 A n (u32s (wds N))) (h2 : Rd w w.heap.size 1 A2 n2 (u32s (wds M))) :
    Calls Try.prog 110 #[.slice A n c, .slice A2 n2 c2] w fun e w' => DPost (N / M) (N % M) w e w' := by
  rcases hc with ⟨h3, h4, h5⟩ | h3
  · exact div2_any A A2 n n2 c c2 N M hn hn2 h3 h4 h5 w h h2
  · subst h3
    rcases Nat.lt_or_ge N M64 with h4 | h4
    · exact div_lt A A2 n n2 c c2 N M64 hn hn2 h4 (by omega) (by rw [hn2, wds_M64]; decide) w h h2
    · exact div64_ge A A2 n n2 c c2 N hn hn2 h4 hl w h h2
def DOk (Q R : Nat) (w : World) (A : Option Addr) (c : Nat) (A' : Option Addr) (c' : Nat) (w' : World) : Prop := WOk Q w A c w' ∧ WOk R w A' c' w'
theorem DOk.below {Q R : Nat} {w w' : World} {A A' : Option Addr} {c c' : Nat} (h : DOk Q R w A c A' c' w') : Below w.heap.size w w' := h.1.below
theorem c2_below {g q : Nat} {a b : Value} {w w' : World} (h : w.cell? ⟨g, 1, none⟩ = some a ∧ w.cell? ⟨q, 1, none⟩ = some b) (hb : Below w.heap.size w w') : w'.cell? ⟨g, 1, none⟩ = some a ∧ w'.cell? ⟨q, 1, none⟩ = some b :=
  ⟨(hb.cell (p := ⟨g, 1, none⟩) (World.block_lt_of_cell? w ⟨g, 1, none⟩ h.1)).trans h.1, (hb.cell (p := ⟨q, 1, none⟩) (World.block_lt_of_cell? w ⟨q, 1, none⟩ h.2)).trans h.2⟩
theorem div_ok (A A2 : Option Addr) (n n2 c c2 N M : Nat) (hn : n = (wds N).length) (hn2 : n2 = (wds M).length) (hl : n ≤ 1000) (hc : (N < 18446744073709551616 ∧ M < 18446744073709551616 ∧ M ≠ 0) ∨ M = M64) (w : World) (h : Rd w w.heap.size 1 A n (u32s (wds N))) (h2 : Rd w w.heap.size 1 A2 n2 (u32s (wds M))) :
    Calls Try.prog 110 #[.slice A n c, .slice A2 n2 c2] w fun e w' => ∃ B d B' d', e = .returned (.tuple #[.slice B (wds (N / M)).length d, .slice B' (wds (N % M)).length d']) ∧ DOk (N / M) (N % M) w B d B' d' w' :=
  (div_any A A2 n n2 c c2 N M hn hn2 hl hc w h h2).mono fun _ _ ⟨B, d, B', d', e, h1, h2⟩ => ⟨B, d, B', d', e, h1, h2⟩
theorem give_rd (g : Nat) (neg : Bool) (A : Option Addr) (N c : Nat) (Z : Int) (w : World) (hz : sgz neg N = Z) (hw : Wr w g) (hr : Rd w w.heap.size 1 A (wds N).length (u32s (wds N))) (hA : ∀ b off, A = some ⟨b, off, none⟩ → b ≠ g) (hl : (wds N).length ≤ c) :
    Calls Try.prog 106 #[.pointer (some ⟨g, 0, none⟩), .bool neg, .slice A (wds N).length c] w fun e w' => e = .returned (.pointer (some ⟨g, 0, none⟩)) ∧ Big w' w'.heap.size g Z ∧ w.grownBy w' (some g) ∧ w'.cell? ⟨g, 1, none⟩ = some (.slice A (wds N).length c) := by
  have hg : g < w.heap.size := hw.lt
  obtain ⟨x, y, h0, h1, f0, f1⟩ := hw
  refine (give_any g neg A (wds N).length c x y w h0 h1 f0 f1).mono ?_
  rintro e w' ⟨rfl, rfl⟩
  subst hz
  have hN : (sgz neg N).natAbs = N := by unfold sgz; cases neg <;> simp
  have e : (neg && decide (0 < (wds N).length)) = decide (sgz neg N < 0) := by
    have : (0 < (wds N).length) ↔ N ≠ 0 := by rw [List.length_pos_iff, ne_eq, wds_nil]
    unfold sgz
    rcases Nat.eq_zero_or_pos N with rfl | h
    · cases neg <;> simp [wds_zero]
    · have h2 : N ≠ 0 := by omega
      cases neg
      · simp
      · simp [this, h2]; omega
  have c1 : ((w.setCell ⟨g, 1, none⟩ (.slice A (wds N).length c)).setCell ⟨g, 0, none⟩ (.bool (neg && decide (0 < (wds N).length)))).cell? ⟨g, 1, none⟩ = some (.slice A (wds N).length c) := by
    rw [World.cell?_setCell_other _ _ _ _ (by simp)]
    exact World.cell?_setCell_same _ _ _ h1
  refine ⟨rfl, ⟨A, c, ?_, by rw [hN]; exact c1, ?_, by rw [hN]; exact hl, hA, ?_, ?_, by simpa using hg⟩, gb_trans (gb_set w ⟨g, 1, none⟩ _) (gb_set _ ⟨g, 0, none⟩ _), c1⟩
  · rw [← e]
    exact World.cell?_setCell_same _ _ _ (by rw [World.cell?_setCell_other _ _ _ _ (by simp)]; exact h0)
  · rw [hN]
    refine ⟨hr.1, fun hn => ?_⟩
    obtain ⟨b, off, rfl, hb, hc⟩ := hr.2 hn
    have hne := hA b off rfl
    exact ⟨b, off, rfl, by simpa using hb, fun j u hu => by
      rw [World.cell?_setCell_other _ _ _ _ (fun e => hne (by injection e with e1; exact e1.symm)), World.cell?_setCell_other _ _ _ _ (fun e => hne (by injection e with e1; exact e1.symm))]
      exact hc j u hu⟩
  · simpa using f0
  · simpa using f1
/-- Only two blocks of those that stood have turned. -/
def Gr2 (w w' : World) (g h : Nat) : Prop := w'.os = w.os ∧ w'.tape = w.tape ∧ w'.output = w.output ∧ w.heap.size ≤ w'.heap.size ∧ ∀ k, k < w.heap.size → k ≠ g → k ≠ h → w'.heap[k]? = w.heap[k]?
/-- A number whose words lie in a block not below B0. -/
def BigN (B0 : Nat) (w : World) (g : Nat) (z : Int) : Prop := Big w w.heap.size g z ∧ ∀ A n c, w.cell? ⟨g, 1, none⟩ = some (.slice A n c) → ∀ b off, A = some ⟨b, off, none⟩ → B0 ≤ b
theorem BigN.mk {B0 : Nat} {w : World} {g : Nat} {z : Int} {A : Option Addr} {n c : Nat} (h : Big w w.heap.size g z) (hc : w.cell? ⟨g, 1, none⟩ = some (.slice A n c)) (hA : ∀ b off, A = some ⟨b, off, none⟩ → B0 ≤ b) : BigN B0 w g z := by
  refine ⟨h, fun A' n' c' e b off e2 => ?_⟩
  rw [hc] at e
  injection e with e
  injection e with e _ _
  exact hA b off (e.trans e2)
theorem BigN.grown {B0 : Nat} {w w' : World} {g q : Nat} {z : Int} (h : BigN B0 w g z) (hg : w.grownBy w' (some q)) (hne : g ≠ q) (hq : q < B0) : BigN B0 w' g z := by
  have hlt : g < w.heap.size := h.1.wr.lt
  have hk : w'.heap[g]? = w.heap[g]? := hg.block g hlt (by intro e; injection e with e; exact hne e)
  refine ⟨h.1.grown (Nat.le_refl _) hg hne (fun A n c e b off e2 => by have := h.2 A c n e b off e2; omega), fun A n c e => h.2 A n c ?_⟩
  rw [← World.cell?_of_block (a := ⟨g, 1, none⟩) hk]
  exact e
theorem BigN.gr2 {B0 : Nat} {w w' : World} {g q r : Nat} {z : Int} (h : BigN B0 w g z) (hg : Gr2 w w' q r) (hne : g ≠ q) (hne2 : g ≠ r) (hq : q < B0) (hr : r < B0) : BigN B0 w' g z := by
  obtain ⟨⟨A, c, h0, h1, hrd, hl, hA, f0, f1, hlt⟩, h2⟩ := h
  have hk : w'.heap[g]? = w.heap[g]? := hg.2.2.2.2 g hlt hne hne2
  refine ⟨⟨A, c, (World.cell?_of_block (a := ⟨g, 0, none⟩) hk).trans h0, (World.cell?_of_block (a := ⟨g, 1, none⟩) hk).trans h1, ⟨hrd.1, fun hn => ?_⟩, hl, hA, (World.frozen?_of_block (a := ⟨g, 0, none⟩) hk).trans f0, (World.frozen?_of_block (a := ⟨g, 1, none⟩) hk).trans f1, Nat.lt_of_lt_of_le hlt hg.2.2.2.1⟩, fun A n c e => h2 A n c ?_⟩
  · obtain ⟨b, off, rfl, hb, hc⟩ := hrd.2 hn
    have := h2 _ _ _ h1 b off rfl
    have hk' : w'.heap[b]? = w.heap[b]? := hg.2.2.2.2 b hb (by omega) (by omega)
    exact ⟨b, off, rfl, Nat.lt_of_lt_of_le hb hg.2.2.2.1, fun j u hu => (World.cell?_of_block (a := ⟨b, off + j, none⟩) hk').trans (hc j u hu)⟩
  · rw [← World.cell?_of_block (a := ⟨g, 1, none⟩) hk]
    exact e
theorem BigN.below {B0 : Nat} {w w' : World} {g : Nat} {z : Int} (h : BigN B0 w g z) (hb : Below w.heap.size w w') : BigN B0 w' g z := by
  refine ⟨h.1.into (Nat.le_refl _) hb, fun A n c e => h.2 A n c ?_⟩
  rw [← hb.cell (p := ⟨g, 1, none⟩) h.1.wr.lt]
  exact e
theorem giveN_ok (g : Nat) (neg : Bool) (A : Option Addr) (N c : Nat) (Z : Int) (w0 w : World) (hz : sgz neg N = Z) (hw : Wr w g) (hg : g < w0.heap.size) (hok : WOk N w0 A c w) :
    Calls Try.prog 106 #[.pointer (some ⟨g, 0, none⟩), .bool neg, .slice A (wds N).length c] w fun e w' => e = .returned (.pointer (some ⟨g, 0, none⟩)) ∧ BigN w0.heap.size w' g Z ∧ w0.grownBy w' (some g) ∧ w.grownBy w' (some g) := by
  obtain ⟨a1, a2, a3, a4⟩ := hok
  refine (give_rd g neg A N c Z w hz hw a1 (fun b off e => by have := a3 b off e; omega) a2).mono ?_
  rintro e w' ⟨rfl, hB, hgb, hc⟩
  exact ⟨rfl, BigN.mk hB hc a3, gb_trans (gb_below _ a4) hgb, hgb⟩
theorem Gr2.of {w w1 w2 : World} {g h : Nat} (h1 : w.grownBy w1 (some g)) (h2 : w1.grownBy w2 (some h)) : Gr2 w w2 g h :=
  ⟨h2.os.trans h1.os, h2.tape.trans h1.tape, h2.output.trans h1.output, Nat.le_trans h1.size h2.size, fun k hk hg hh => (h2.block k (Nat.lt_of_lt_of_le hk h1.size) (fun e => by injection e with e; exact hh e)).trans (h1.block k hk (fun e => by injection e with e; exact hg e))⟩
theorem Gr2.more {w w1 w2 : World} {g h q : Nat} (h1 : Gr2 w w1 g h) (h2 : w1.grownBy w2 (some q)) (hq : w.heap.size ≤ q ∨ q = g ∨ q = h) : Gr2 w w2 g h := by
  obtain ⟨a, b, c, d, e⟩ := h1
  refine ⟨h2.os.trans a, h2.tape.trans b, h2.output.trans c, Nat.le_trans d h2.size, fun k hk hg hh => (h2.block k (Nat.lt_of_lt_of_le hk d) (fun e => ?_)).trans (e k hk hg hh)⟩
  injection e with e
  subst e
  rcases hq with hq | hq | hq
  · omega
  · exact hg hq
  · exact hh hq
theorem Gr2.pre {w w1 w2 : World} {g h : Nat} (hb : Below w.heap.size w w1) (h1 : Gr2 w1 w2 g h) : Gr2 w w2 g h := by
  obtain ⟨a, b, c, d, e⟩ := h1
  exact ⟨a.trans hb.os, b.trans hb.tape, c.trans hb.output, Nat.le_trans hb.size d, fun k hk hg hh => (e k (Nat.lt_of_lt_of_le hk hb.size) hg hh).trans (hb.block k hk)⟩
theorem Gr2.below {w w' : World} {g h B : Nat} (k : Gr2 w w' g h) (hB : B ≤ w.heap.size) (hg : B ≤ g) (hh : B ≤ h) : Below B w w' :=
  ⟨k.1, k.2.1, k.2.2.1, k.2.2.2.1, fun i hi => k.2.2.2.2 i (Nat.lt_of_lt_of_le hi hB) (by omega) (by omega)⟩
theorem Gr2.big {w w' : World} {g h q B : Nat} {z : Int} (k : Gr2 w w' g h) (hB : B ≤ w.heap.size) (hb : Big w B q z) (hg : B ≤ g) (hh : B ≤ h) : Big w' w'.heap.size q z :=
  (hb.keep fun i hi => k.2.2.2.2 i (Nat.lt_of_lt_of_le hi hB) (by omega) (by omega)).more (Nat.le_trans hB k.2.2.2.1)
theorem sgz_quo (x y : Int) : sgz (decide (x < 0) != decide (y < 0)) (x.natAbs / y.natAbs) = x.tdiv y := by
  have e1 : x = sgz (decide (x < 0)) x.natAbs := (sgz_of x).symm
  have e2 : y = sgz (decide (y < 0)) y.natAbs := (sgz_of y).symm
  generalize decide (x < 0) = a at *
  generalize decide (y < 0) = b at *
  generalize x.natAbs = X at *
  generalize y.natAbs = Y at *
  subst e1 e2
  cases a <;> cases b <;> simp [sgz, Int.tdiv_neg, Int.neg_tdiv]
theorem sgz_rem (x y : Int) : sgz (decide (x < 0)) (x.natAbs % y.natAbs) = x.tmod y := by
  have e1 : x = sgz (decide (x < 0)) x.natAbs := (sgz_of x).symm
  have e2 : y = sgz (decide (y < 0)) y.natAbs := (sgz_of y).symm
  generalize decide (x < 0) = a at *
  generalize decide (y < 0) = b at *
  generalize x.natAbs = X at *
  generalize y.natAbs = Y at *
  subst e1 e2
  have h := (Int.tmod_eq_emod_of_nonneg (a := (X : Int)) (b := (Y : Int)) (by omega)).symm
  cases a <;> cases b <;> simp [sgz, Int.tmod_neg, Int.neg_tmod, h]
theorem big_of_rd {w w' : World} {g q : Nat} {A : Option Addr} {N : Nat} {B : Nat} (h : Rd w B 1 A (wds N).length (u32s (wds N))) (hA : ∀ b off, A = some ⟨b, off, none⟩ → b ≠ g) (hB : B ≤ w.heap.size) (hg : w.grownBy w' (some g)) (hq : q = w'.heap.size) : Rd w' q 1 A (wds N).length (u32s (wds N)) := by
  subst hq
  refine ⟨h.1, fun h0 => ?_⟩
  obtain ⟨b, off, rfl, hb, hc⟩ := h.2 h0
  have hk : w'.heap[b]? = w.heap[b]? := hg.block b (Nat.lt_of_lt_of_le hb hB) (by intro e; injection e with e; exact hA b off rfl e)
  exact ⟨b, off, rfl, Nat.lt_of_lt_of_le hb (Nat.le_trans hB hg.size), fun j u hu => (World.cell?_of_block (a := ⟨b, off + j, none⟩) hk).trans (hc j u hu)⟩
theorem big_blk {w : World} {B g : Nat} {z : Int} (h : Big w B g z) : ∀ A c n, w.cell? ⟨g, 1, none⟩ = some (.slice A n c) → 0 < n → ∀ b off, A = some ⟨b, off, none⟩ → b < B := by
  obtain ⟨A', c', h0, h1, hr, hl, hA, f0, f1, hg⟩ := h
  intro A c n e hn b off e2
  rw [h1] at e
  injection e with e
  injection e with e3 e4 e5
  obtain ⟨b', off', e6, hb, _⟩ := hr.2 (by omega)
  rw [e3, e2] at e6
  injection e6 with e6
  injection e6 with e6
  omega
set_option maxHeartbeats 1000000 in
theorem quoRem_any (g gx gy gr : Nat) (x y : Int) (hgr : g ≠ gr) (w : World) (hw : Wr w g) (hwr : Wr w gr) (hx : Big w w.heap.size gx x) (hy : Big w w.heap.size gy y) (hl : (wds x.natAbs).length ≤ 1000) (hc : (x.natAbs < 18446744073709551616 ∧ y.natAbs < 18446744073709551616 ∧ y.natAbs ≠ 0) ∨ y.natAbs = M64) :
    Calls Try.prog 46 #[.pointer (some ⟨g, 0, none⟩), .pointer (some ⟨gx, 0, none⟩), .pointer (some ⟨gy, 0, none⟩), .pointer (some ⟨gr, 0, none⟩)] w fun e w' => e = .returned (.tuple #[.pointer (some ⟨g, 0, none⟩), .pointer (some ⟨gr, 0, none⟩)]) ∧ BigN w.heap.size w' g (x.tdiv y) ∧ BigN w.heap.size w' gr (x.tmod y) ∧ Gr2 w w' g gr := by
  obtain ⟨Ax, cx, x0, x1, xr, _⟩ := hx
  obtain ⟨Ay, cy, y0, y1, yr, _⟩ := hy
  have HX := Lib.hid (And.intro xr yr)
  have HQ := Lib.hid (And.intro (sgz_quo x y) (sgz_rem x y))
  have HW := Lib.hid (And.intro hw hwr)
  have HLg := Lib.hid (And.intro hw.lt hwr.lt)
  have HC := Lib.hid hc
  have HL := Lib.hid hl
  clear xr yr hw hwr hc hl
  generalize decide (x < 0) = a at *
  generalize decide (y < 0) = b at *
  generalize x.natAbs = X at *
  generalize y.natAbs = Y at *
  generalize hnx : (wds X).length = n at *
  generalize hny : (wds Y).length = n2 at *
  have HN := Lib.hid (And.intro hnx hny)
  clear hnx hny
  go_enter Try.func46, Try.ntmps46
  go_wp2_with fail
  go_quiet (fail)
  go_wp2_with fail
  obtain ⟨W, hW⟩ : ∃ W, W = w.drewN nq := ⟨_, rfl⟩
  have hWb : Below w.heap.size w W := by rw [hW]; exact dr (Below.refl _ _) _
  have hId : W.drew.cell? ⟨gx, 1, none⟩ = some (.slice Ax n cx) ∧ W.drew.cell? ⟨gy, 1, none⟩ = some (.slice Ay n2 cy) := by rw [hW]; exact ⟨x1, y1⟩
  have hXW : Rd W.drew W.drew.heap.size 1 Ax n (u32s (wds X)) ∧ Rd W.drew W.drew.heap.size 1 Ay n2 (u32s (wds Y)) := by rw [hW]; exact HX.out
  have HXW := Lib.hid hXW
  have HWb := Lib.hid hWb
  rw [← hW]
  clear hW hWb hXW x0 x1 y0 y1
  go_region_held3 (fun w' => w'.cell? ⟨gx, 1, none⟩ = some (.slice Ax n cx) ∧ w'.cell? ⟨gy, 1, none⟩ = some (.slice Ay n2 cy))
    (first | exact hId | exact c2_below (by assumption) (DOk.below (by assumption)))
    (first
      | (go_at_call 110; refine (div_ok _ _ n n2 cx cy X Y HN.out.1.symm HN.out.2.symm HL.out HC.out _ HXW.out.1 HXW.out.2).mono ?_; rintro e w1 ⟨A, c, A', c', rfl, hok⟩))
  have hok' : DOk (X / Y) (X % Y) W.drew A c A' c' w1 := by assumption
  clear hok
  obtain ⟨⟨r1, l1, n1, hb1⟩, ⟨r2, l2, n2', _⟩⟩ := hok'
  have hWs := HWb.out.size
  have hg1 := HLg.out.1
  have hg2 := HLg.out.2
  have hB1 : Below w.heap.size w w1 := sq (sq HWb.out (Below.refl _ _).drew) hb1
  have n1' : ∀ b off, A = some ⟨b, off, none⟩ → w.heap.size ≤ b := fun b off e => Nat.le_trans hWs (n1 b off e)
  have n2'' : ∀ b off, A' = some ⟨b, off, none⟩ → w.heap.size ≤ b := fun b off e => Nat.le_trans hWs (n2' b off e)
  have HR := Lib.hid (And.intro r1 (And.intro r2 (And.intro n1' n2'')))
  clear r1 r2 n1 n2' n1' n2'' hb1
  go_wp2_with fail
  refine (give_rd g (a != b) A (X / Y) c _ w1 HQ.out.1 (HW.out.1.below hB1) HR.out.1 (fun b off e => by have := HR.out.2.2.1 b off e; omega) l1).mono ?_
  rintro e w2 ⟨rfl, hB2, hg2', hc2⟩
  have HB2 := Lib.hid (And.intro hB2 (And.intro hg2' hc2))
  clear hB2 hg2' hc2
  go_wp2_with fail
  refine (give_rd gr a A' (X % Y) c' _ w2 HQ.out.2 ((HW.out.2.below hB1).grown HB2.out.2.1 (Ne.symm hgr)) (big_of_rd HR.out.2.1 (fun b off e => by have := HR.out.2.2.2 b off e; omega) (Nat.le_refl _) HB2.out.2.1 rfl) (fun b off e => by have := HR.out.2.2.2 b off e; omega) l2).mono ?_
  rintro e w3 ⟨rfl, hB3, hg3, hc3⟩
  have HB3 := Lib.hid (And.intro hB3 (And.intro hg3 hc3))
  clear hB3 hg3 hc3
  go_wp2_with fail
  go_ret2
  have hN1 := BigN.mk HB2.out.1 HB2.out.2.2 HR.out.2.2.1
  exact ⟨rfl, hN1.grown HB3.out.2.1 hgr hg2, BigN.mk HB3.out.1 HB3.out.2.2 HR.out.2.2.2, (Gr2.of HB2.out.2.1 HB3.out.2.1).pre hB1⟩
end Go.Proofs.Ytdpgcojgnehnpaa
