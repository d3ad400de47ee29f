/- The cutter in memory: 'put'. Printed by gen_scput.py. Conditions: none. -/
import Derived.Test.YtgjhjojbaieeaaaScA
import Derived.Test.YtgjhjojbaieeaaaAnyInv2
set_option maxRecDepth 20000
namespace Go.Proofs.Ytgjhjojbaieeaaa
open Go.ChangeShapes Go.WideShapes Go.ChangeAt Go.RowKit
theorem info_tok : (Try.prog.info? 78).map (fun i => (i.zero, i.size, i.bytes)) = some (some (.agg #[.int .i64 0, .string ByteArray.empty, .int .i64 0, .int .i64 0]), 4, 40) := by kernel_rfl
def PuP (b16 b17 b20 : Bool) (W : World) (g N : Nat) (k : Int) (s : ByteArray) (l c : Int) (T : List Tk) (v2 : Value) (w : World) : Prop :=
  (b16 = false → b17 = false ∧ b20 = false ∧ w = W.drew) ∧ (b16 = true → b17 = false → b20 = false ∧ w = W.drew.alloc (.cells #[.int .i64 k, .string s, .int .i64 l, .int .i64 c] 78)) ∧
  (b17 = true → b20 = false → w.ownsRow (g + 1) 78 4 v2 (N + 1) (tkC T ++ [.int .i64 k, .string s, .int .i64 l, .int .i64 c]) ∧ Below (g + 1) W w) ∧
  (b20 = true → ∃ w1 : World, w1.ownsRow (g + 1) 78 4 v2 (N + 1) (tkC T ++ [.int .i64 k, .string s, .int .i64 l, .int .i64 c]) ∧ Below (g + 1) W w1 ∧ w = w1.setCell ⟨g, 4, none⟩ v2)
theorem tkC_snoc (T : List Tk) (k : Int) (s : ByteArray) (l c : Int) : tkC (T ++ [⟨k, s, l, c⟩]) = tkC T ++ [.int .i64 k, .string s, .int .i64 l, .int .i64 c] := by simp [tkC]
theorem own_cell {w : World} {base : Nat} {e : TypeId} {size : Nat} {v : Value} {n : Nat} {xs : List Value} (h : w.ownsRow base e size v n xs) {a : Addr} (ha : a.block < base) (u : Value) : (w.setCell a u).ownsRow base e size v n xs := by
  refine ⟨h.1, ?_⟩
  rcases h.2 with h2 | ⟨g, cap, cur, rfl, hb, hg, r⟩
  · exact .inl h2
  · exact .inr ⟨g, cap, cur, rfl, hb, by rw [Below.heap_setCell _ _ _ _ (by omega)]; exact hg, r⟩
theorem Cu.upd {w1 : World} {g : Nat} {src : ByteArray} {p l c p' c' : Int} {v v' : Value} {T' : List Tk} (d0 : w1.cell? ⟨g, 0, none⟩ = some (.string src)) (d1 : w1.cell? ⟨g, 1, none⟩ = some (.int .i64 p)) (d2 : w1.cell? ⟨g, 2, none⟩ = some (.int .i64 l)) (d3 : w1.cell? ⟨g, 3, none⟩ = some (.int .i64 c)) (d4 : w1.cell? ⟨g, 4, none⟩ = some v) (ef : ∀ j, w1.frozen? ⟨g, j, none⟩ = false) (hr : w1.ownsRow (g + 1) 78 4 v' T'.length (tkC T')) :
    Cu (((w1.setCell ⟨g, 4, none⟩ v').setCell ⟨g, 1, none⟩ (.int .i64 p')).setCell ⟨g, 3, none⟩ (.int .i64 c')) g src p' l c' v' T' := by
  have e4 : (w1.setCell ⟨g, 4, none⟩ v').cell? ⟨g, 1, none⟩ = some (.int .i64 p) := by rw [World.cell?_setCell_other _ _ _ _ (by simp)]; exact d1
  have e1 : ((w1.setCell ⟨g, 4, none⟩ v').setCell ⟨g, 1, none⟩ (.int .i64 p')).cell? ⟨g, 3, none⟩ = some (.int .i64 c) := by rw [World.cell?_setCell_other _ _ _ _ (by simp), World.cell?_setCell_other _ _ _ _ (by simp)]; exact d3
  refine ⟨?_, ?_, ?_, World.cell?_setCell_same _ _ _ e1, ?_, fun k => by simpa using ef k, own_cell (own_cell (own_cell hr (by simp) _) (by simp) _) (by simp) _⟩
  · rw [World.cell?_setCell_other _ _ _ _ (by simp), World.cell?_setCell_other _ _ _ _ (by simp), World.cell?_setCell_other _ _ _ _ (by simp)]; exact d0
  · rw [World.cell?_setCell_other _ _ _ _ (by simp)]; exact World.cell?_setCell_same _ _ _ e4
  · rw [World.cell?_setCell_other _ _ _ _ (by simp), World.cell?_setCell_other _ _ _ _ (by simp), World.cell?_setCell_other _ _ _ _ (by simp)]; exact d2
  · rw [World.cell?_setCell_other _ _ _ _ (by simp), World.cell?_setCell_other _ _ _ _ (by simp)]; exact World.cell?_setCell_same _ _ _ d4
section
variable {W w w' : World} {g N n : Nat} {k l c : Int} {s : ByteArray} {T : List Tk} {v2 V : Value} {b16 b17 b20 : Bool}
theorem PuP.zero : PuP false false false W g N k s l c T v2 W.drew := ⟨(fun _ => ⟨rfl, rfl, rfl⟩), (fun h => by cases h), (fun h => by cases h), (fun h => by cases h)⟩
theorem PuP.one : PuP true false false W g N k s l c T v2 (W.drew.alloc (.cells #[.int .i64 k, .string s, .int .i64 l, .int .i64 c] 78)) := ⟨(fun h => by cases h), (fun _ _ => ⟨rfl, rfl⟩), (fun h => by cases h), (fun h => by cases h)⟩
theorem PuP.two (h : w.ownsRow (g + 1) 78 4 v2 (N + 1) (tkC T ++ [.int .i64 k, .string s, .int .i64 l, .int .i64 c])) (hb : Below (g + 1) W w) : PuP true true false W g N k s l c T v2 w := ⟨(fun h => by cases h), (fun _ h => by cases h), (fun _ _ => ⟨h, hb⟩), (fun h => by cases h)⟩
theorem PuP.three (h : w.ownsRow (g + 1) 78 4 v2 (N + 1) (tkC T ++ [.int .i64 k, .string s, .int .i64 l, .int .i64 c])) (hb : Below (g + 1) W w) : PuP true true true W g N k s l c T v2 (w.setCell ⟨g, 4, none⟩ v2) := ⟨(fun h => by cases h), (fun _ h => by cases h), (fun _ h => by cases h), (fun _ => ⟨w, h, hb, rfl⟩)⟩
theorem PuP.w0 (h : PuP b16 b17 b20 W g N k s l c T v2 w) (hb : b16 = false) : w = W.drew := (h.1 hb).2.2
theorem PuP.w1 (h : PuP b16 b17 b20 W g N k s l c T v2 w) (hb : b16 = true) (h17 : b17 = false) : w = W.drew.alloc (.cells #[.int .i64 k, .string s, .int .i64 l, .int .i64 c] 78) := (h.2.1 hb h17).2
theorem PuP.w2 (h : PuP b16 b17 b20 W g N k s l c T v2 w) (hb : b17 = true) (h20 : b20 = false) : w.ownsRow (g + 1) 78 4 v2 (N + 1) (tkC T ++ [.int .i64 k, .string s, .int .i64 l, .int .i64 c]) ∧ Below (g + 1) W w := h.2.2.1 hb h20
theorem PuP.done (h : PuP b16 b17 true W g N k s l c T v2 w) : ∃ w1 : World, w1.ownsRow (g + 1) 78 4 v2 (N + 1) (tkC T ++ [.int .i64 k, .string s, .int .i64 l, .int .i64 c]) ∧ Below (g + 1) W w1 ∧ w = w1.setCell ⟨g, 4, none⟩ v2 := h.2.2.2 rfl
theorem PuP.early (h : PuP b16 b17 b20 W g N k s l c T v2 w) (hb : b17 = false) (hC : W.cell? ⟨g, 2, none⟩ = some (.int .i64 l) ∧ W.cell? ⟨g, 3, none⟩ = some (.int .i64 c) ∧ W.cell? ⟨g, 4, none⟩ = some V) : w.cell? ⟨g, 2, none⟩ = some (.int .i64 l) ∧ w.cell? ⟨g, 3, none⟩ = some (.int .i64 c) ∧ w.cell? ⟨g, 4, none⟩ = some V := by
  have hg : g < W.heap.size := World.block_lt_of_cell? W ⟨g, 2, none⟩ hC.1
  cases b16 with
  | false => rw [h.w0 rfl]; exact hC
  | true =>
    rw [h.w1 rfl hb]
    exact ⟨(World.cell?_alloc_lt W.drew _ ⟨g, 2, none⟩ hg).trans hC.1, (World.cell?_alloc_lt W.drew _ ⟨g, 3, none⟩ hg).trans hC.2.1, (World.cell?_alloc_lt W.drew _ ⟨g, 4, none⟩ hg).trans hC.2.2⟩
theorem PuP.grew {xs : List Value} {o : Obj} (hr : W.ownsRow (g + 1) 78 4 V n xs) (h : (W.drew.alloc o).grownBy w V.ownBlock) (hg : g < W.heap.size) : Below (g + 1) W w := by
  refine (Below.trans (Below.drew (Below.refl (g + 1) W)) ((Below.refl (g + 1) W.drew).alloc (by simp; omega) o)).grown h (by simp; omega) ?_
  intro q hq
  rcases hr.2 with ⟨rfl, _⟩ | ⟨g', cap, cur, rfl, hb, _⟩
  · cases hq
  · simp [Value.ownBlock] at hq; omega
end
def PuI (W : World) (g : Nat) (k : Int) (s : ByteArray) (n : Int) (l c : Int) (A : Option Addr) (N C : Nat) (T : List Tk) (L : Array Bool) (a : Act) (w : World) : Prop :=
  ∃ (b0 b1 b2 b3 b4 b5 b6 b7 b8 b9 b10 b11 b12 b13 b14 b15 b16 b17 b18 b19 b20 : Bool) (A3 : Option Addr) (c3 : Nat), L = #[b0, b1, b2, b3, b4, b5, b6, b7, b8, b9, b10, b11, b12, b13, b14, b15, b16, b17, b18, b19, b20] ∧ a = { tmps := #[.pointer (some ⟨g, 0, none⟩), .int .i64 k, .string s, .int .i64 n, undef, undef, undef, undef, .pointer (some ⟨g, 0, none⟩), .pointer (some ⟨g, 0, none⟩), .pointer (some ⟨g, 4, none⟩), .slice A N C, .int .i64 (N : Int), .bool false, undef, undef, pkd b0 (.pointer (some ⟨g, 0, none⟩)) (undef), pkd b1 (.pointer (some ⟨g, 0, none⟩)) (undef), pkd b2 (.pointer (some ⟨g, 0, none⟩)) (undef), pkd b3 (.pointer (some ⟨g, 4, none⟩)) (undef), pkd b4 (.slice A N C) (undef), pkd b5 (.int .i64 k) (undef), pkd b6 (.string s) (undef), pkd b7 (.pointer (some ⟨g, 0, none⟩)) (undef), pkd b8 (.pointer (some ⟨g, 0, none⟩)) (undef), pkd b9 (.pointer (some ⟨g, 2, none⟩)) (undef), pkd b10 (.int .i64 l) (undef), pkd b11 (.pointer (some ⟨g, 0, none⟩)) (undef), pkd b12 (.pointer (some ⟨g, 0, none⟩)) (undef), pkd b13 (.pointer (some ⟨g, 3, none⟩)) (undef), pkd b14 (.int .i64 c) (undef), pkd b15 (.agg #[.int .i64 k, .string s, .int .i64 l, .int .i64 c]) (undef), pkd b16 (.slice (some ⟨W.heap.size, 0, none⟩) 1 1) (undef), pkd b17 (.slice A3 (N + 1) c3) (undef), pkd b18 (.pointer (some ⟨g, 0, none⟩)) (undef), pkd b19 (.pointer (some ⟨g, 4, none⟩)) (undef), undef, undef, undef, undef, undef, undef, undef, undef, undef, undef, undef, undef, undef, undef, undef, undef], defers := [] } ∧ (PuP b16 b17 b20 W g N k s l c T (.slice A3 (N + 1) c3) w)
set_option maxHeartbeats 4000000 in
theorem put_any (g : Nat) (src : ByteArray) (p l c k n : Int) (s : ByteArray) (A : Option Addr) (N C : Nat) (T : List Tk) (w : World) (hcu : Cu w g src p l c (.slice A N C) T) (hN : N = T.length) (hT : T.length < 2000) (hp : 0 ≤ p ∧ p ≤ 100000) (hc : 0 ≤ c ∧ c ≤ 100000) (hn : 0 ≤ n ∧ n ≤ 100000) :
    Calls Try.prog 105 #[.pointer (some ⟨g, 0, none⟩), .int .i64 k, .string s, .int .i64 n] w fun e w' => e = .returned (.tuple #[]) ∧ (∃ v', Cu w' g src (p + n) l (c + n) v' (T ++ [⟨k, s, l, c⟩])) ∧ Below g w w' := by
  obtain ⟨j0, hj, jz0, jz1, jz2⟩ := info_parts info_tok
  subst hN
  have HCu := Lib.hid hcu
  have HR := Lib.hid hcu.row
  have hC : w.cell? ⟨g, 2, none⟩ = some (.int .i64 l) ∧ w.cell? ⟨g, 3, none⟩ = some (.int .i64 c) ∧ w.cell? ⟨g, 4, none⟩ = some (.slice A T.length C) := ⟨hcu.c2, hcu.c3, hcu.c4⟩
  have hC1 := hcu.c1
  have hFz := hcu.fz
  have hF := hFz 4
  have hgl : g < w.heap.size := World.block_lt_of_cell? w ⟨g, 2, none⟩ hC.1
  have c4 := hC.2.2
  clear hcu
  generalize hNN : T.length = N at *
  have HNN := Lib.hid hNN
  clear hNN
  have hne : ((N : Int) == 2000) = false := by simp; omega
  have hpt := pkd_t
  go_enter Try.func105, Try.ntmps105
  go_wp2_with fail
  clear c4
  refine wp_region_any (by kernel_rfl) ?_
  refine wpAny_inv2 (PuI w g k s n l c A N C T) ?done ?step _ _ _ _ (by simp) (by simp [left]) ?init (shut_start _ _ _)
  case init => exact ⟨false, false, false, false, false, false, false, false, false, false, false, false, false, false, false, false, false, false, false, false, false, none, 0, rfl, rfl, PuP.zero⟩
  case done =>
    rintro L a w' ⟨b0, b1, b2, b3, b4, b5, b6, b7, b8, b9, b10, b11, b12, b13, b14, b15, b16, b17, b18, b19, b20, A3, c3, rfl, rfl, hI⟩ hsh hs hr
    have hno : ∀ i, i ∉ Region.ready Region.Mode.any _ _ := fun i hi => by rw [hr] at hi; cases hi
    have hall : b0 = true ∧ b1 = true ∧ b2 = true ∧ b3 = true ∧ b4 = true ∧ b5 = true ∧ b6 = true ∧ b7 = true ∧ b8 = true ∧ b9 = true ∧ b10 = true ∧ b11 = true ∧ b12 = true ∧ b13 = true ∧ b14 = true ∧ b15 = true ∧ b16 = true ∧ b17 = true ∧ b18 = true ∧ b19 = true ∧ b20 = true := by
      have q0 := hno 0
      have q1 := hno 1
      have q2 := hno 2
      have q3 := hno 3
      have q4 := hno 4
      have q5 := hno 5
      have q6 := hno 6
      have q7 := hno 7
      have q8 := hno 8
      have q9 := hno 9
      have q10 := hno 10
      have q11 := hno 11
      have q12 := hno 12
      have q13 := hno 13
      have q14 := hno 14
      have q15 := hno 15
      have q16 := hno 16
      have q17 := hno 17
      have q18 := hno 18
      have q19 := hno 19
      have q20 := hno 20
      clear hno hr hs hsh hI
      simp [Region.ready, List.mem_filter, Region.binds] at q0 q1 q2 q3 q4 q5 q6 q7 q8 q9 q10 q11 q12 q13 q14 q15 q16 q17 q18 q19 q20
      simp_all
    obtain ⟨rfl, rfl, rfl, rfl, rfl, rfl, rfl, rfl, rfl, rfl, rfl, rfl, rfl, rfl, rfl, rfl, rfl, rfl, rfl, rfl, rfl⟩ := hall
    clear hr hs hsh hno
    simp only [pkd_t]
    obtain ⟨w1, hown, hbel, rfl⟩ := hI.done
    have HO := Lib.hid (And.intro hown hbel)
    have d4 := (hbel.cell (p := ⟨g, 4, none⟩) (by simp)).trans hC.2.2
    have d1 := (hbel.cell (p := ⟨g, 1, none⟩) (by simp)).trans hC1
    have d3 := (hbel.cell (p := ⟨g, 3, none⟩) (by simp)).trans hC.2.1
    have e1 := (hbel.frozen (p := ⟨g, 1, none⟩) (by simp)).trans (hFz 1)
    have e3 := (hbel.frozen (p := ⟨g, 3, none⟩) (by simp)).trans (hFz 3)
    clear hI hown hbel
    have d0 := (HO.out.2.cell (p := ⟨g, 0, none⟩) (by simp)).trans HCu.out.c0
    have d2 := (HO.out.2.cell (p := ⟨g, 2, none⟩) (by simp)).trans HCu.out.c2
    have ef : ∀ j, w1.frozen? ⟨g, j, none⟩ = false := fun j => (HO.out.2.frozen (p := ⟨g, j, none⟩) (by simp)).trans (hFz j)
    have HU := Lib.hid (Cu.upd (p' := p + n) (c' := c + n) d0 d1 d2 d3 d4 ef (by rw [tkC_snoc, List.length_append, HNN.out]; exact HO.out.1))
    clear d0 d2 ef
    go_wp2_with fail
    go_end0
    exact ⟨rfl, ⟨_, HU.out⟩, ((HO.out.2.mono (Nat.le_succ g)).setCell (Nat.le_refl _) _).setCell (Nat.le_refl _) _ |>.setCell (Nat.le_refl _) _⟩
  case step =>
    rintro L a w' i ⟨b0, b1, b2, b3, b4, b5, b6, b7, b8, b9, b10, b11, b12, b13, b14, b15, b16, b17, b18, b19, b20, A3, c3, rfl, rfl, hI⟩ hsh hs hi
    have hi16 := (ready_mem hi).1
    simp only [List.size_toArray, List.length_cons, List.length_nil] at hi16
    obtain rfl | rfl | rfl | rfl | rfl | rfl | rfl | rfl | rfl | rfl | rfl | rfl | rfl | rfl | rfl | rfl | rfl | rfl | rfl | rfl | rfl : i = 0 ∨ i = 1 ∨ i = 2 ∨ i = 3 ∨ i = 4 ∨ i = 5 ∨ i = 6 ∨ i = 7 ∨ i = 8 ∨ i = 9 ∨ i = 10 ∨ i = 11 ∨ i = 12 ∨ i = 13 ∨ i = 14 ∨ i = 15 ∨ i = 16 ∨ i = 17 ∨ i = 18 ∨ i = 19 ∨ i = 20 := by omega
    · simp [Region.ready, List.mem_filter, Region.binds] at hi
      have hall : b0 = false := by simp [hi]
      clear hi
      subst hall
      clear hs hi16 hsh
      refine wpOp_run rfl rfl ?_
      go_simp
      exact ⟨true, b1, b2, b3, b4, b5, b6, b7, b8, b9, b10, b11, b12, b13, b14, b15, b16, b17, b18, b19, b20, A3, c3, rfl, rfl, hI⟩
    · simp [Region.ready, List.mem_filter, Region.binds] at hi
      have hall : b1 = false := by simp [hi]
      clear hi
      subst hall
      clear hs hi16 hsh
      refine wpOp_run rfl rfl ?_
      go_simp
      exact ⟨b0, true, b2, b3, b4, b5, b6, b7, b8, b9, b10, b11, b12, b13, b14, b15, b16, b17, b18, b19, b20, A3, c3, rfl, rfl, hI⟩
    · simp [Region.ready, List.mem_filter, Region.binds] at hi
      have hall : b2 = false ∧ b1 = true := by simp [hi]
      clear hi
      obtain ⟨rfl, rfl⟩ := hall
      clear hs hi16 hsh
      refine wpOp_run rfl rfl ?_
      go_simp
      exact ⟨b0, true, true, b3, b4, b5, b6, b7, b8, b9, b10, b11, b12, b13, b14, b15, b16, b17, b18, b19, b20, A3, c3, rfl, rfl, hI⟩
    · simp [Region.ready, List.mem_filter, Region.binds] at hi
      have hall : b3 = false ∧ b2 = true := by simp [hi]
      clear hi
      obtain ⟨rfl, rfl⟩ := hall
      clear hs hi16 hsh
      refine wpOp_run rfl rfl ?_
      go_simp
      exact ⟨b0, b1, true, true, b4, b5, b6, b7, b8, b9, b10, b11, b12, b13, b14, b15, b16, b17, b18, b19, b20, A3, c3, rfl, rfl, hI⟩
    · simp [Region.ready, List.mem_filter, Region.binds] at hi
      have hall : b4 = false ∧ b3 = true := by simp [hi]
      clear hi
      obtain ⟨rfl, rfl⟩ := hall
      have z17 : b17 = false := by
        have q := hsh 17 _ rfl
        simp [Region.binds] at q
        cases b17
        · rfl
        · simp at q
      subst z17
      have z20 : b20 = false := by
        have q := hsh 20 _ rfl
        simp [Region.binds] at q
        cases b20
        · rfl
        · simp at q
      subst z20
      clear hs hi16 hsh
      obtain ⟨q2, q3, q4⟩ := hI.early rfl hC
      refine wpOp_run rfl rfl ?_
      go_simp
      exact ⟨b0, b1, b2, true, true, b5, b6, b7, b8, b9, b10, b11, b12, b13, b14, b15, b16, false, b18, b19, false, A3, c3, rfl, rfl, hI⟩
    · simp [Region.ready, List.mem_filter, Region.binds] at hi
      have hall : b5 = false := by simp [hi]
      clear hi
      subst hall
      clear hs hi16 hsh
      refine wpOp_run rfl rfl ?_
      go_simp
      exact ⟨b0, b1, b2, b3, b4, true, b6, b7, b8, b9, b10, b11, b12, b13, b14, b15, b16, b17, b18, b19, b20, A3, c3, rfl, rfl, hI⟩
    · simp [Region.ready, List.mem_filter, Region.binds] at hi
      have hall : b6 = false := by simp [hi]
      clear hi
      subst hall
      clear hs hi16 hsh
      refine wpOp_run rfl rfl ?_
      go_simp
      exact ⟨b0, b1, b2, b3, b4, b5, true, b7, b8, b9, b10, b11, b12, b13, b14, b15, b16, b17, b18, b19, b20, A3, c3, rfl, rfl, hI⟩
    · simp [Region.ready, List.mem_filter, Region.binds] at hi
      have hall : b7 = false := by simp [hi]
      clear hi
      subst hall
      clear hs hi16 hsh
      refine wpOp_run rfl rfl ?_
      go_simp
      exact ⟨b0, b1, b2, b3, b4, b5, b6, true, b8, b9, b10, b11, b12, b13, b14, b15, b16, b17, b18, b19, b20, A3, c3, rfl, rfl, hI⟩
    · simp [Region.ready, List.mem_filter, Region.binds] at hi
      have hall : b8 = false ∧ b7 = true := by simp [hi]
      clear hi
      obtain ⟨rfl, rfl⟩ := hall
      clear hs hi16 hsh
      refine wpOp_run rfl rfl ?_
      go_simp
      exact ⟨b0, b1, b2, b3, b4, b5, b6, true, true, b9, b10, b11, b12, b13, b14, b15, b16, b17, b18, b19, b20, A3, c3, rfl, rfl, hI⟩
    · simp [Region.ready, List.mem_filter, Region.binds] at hi
      have hall : b9 = false ∧ b8 = true := by simp [hi]
      clear hi
      obtain ⟨rfl, rfl⟩ := hall
      clear hs hi16 hsh
      refine wpOp_run rfl rfl ?_
      go_simp
      exact ⟨b0, b1, b2, b3, b4, b5, b6, b7, true, true, b10, b11, b12, b13, b14, b15, b16, b17, b18, b19, b20, A3, c3, rfl, rfl, hI⟩
    · simp [Region.ready, List.mem_filter, Region.binds] at hi
      have hall : b10 = false ∧ b9 = true := by simp [hi]
      clear hi
      obtain ⟨rfl, rfl⟩ := hall
      have z15 : b15 = false := by
        have q := hsh 15 _ rfl
        simp [Region.binds] at q
        cases b15
        · rfl
        · simp at q
      subst z15
      have z16 : b16 = false := by
        have q := hsh 16 _ rfl
        simp [Region.binds] at q
        cases b16
        · rfl
        · simp at q
      subst z16
      have z17 : b17 = false := by
        have q := hsh 17 _ rfl
        simp [Region.binds] at q
        cases b17
        · rfl
        · simp at q
      subst z17
      have z20 : b20 = false := by
        have q := hsh 20 _ rfl
        simp [Region.binds] at q
        cases b20
        · rfl
        · simp at q
      subst z20
      clear hs hi16 hsh
      obtain rfl := hI.w0 rfl
      obtain ⟨q2, q3, q4⟩ := hC
      refine wpOp_run rfl rfl ?_
      go_simp
      exact ⟨b0, b1, b2, b3, b4, b5, b6, b7, b8, true, true, b11, b12, b13, b14, false, false, false, b18, b19, false, A3, c3, rfl, rfl, hI⟩
    · simp [Region.ready, List.mem_filter, Region.binds] at hi
      have hall : b11 = false := by simp [hi]
      clear hi
      subst hall
      clear hs hi16 hsh
      refine wpOp_run rfl rfl ?_
      go_simp
      exact ⟨b0, b1, b2, b3, b4, b5, b6, b7, b8, b9, b10, true, b12, b13, b14, b15, b16, b17, b18, b19, b20, A3, c3, rfl, rfl, hI⟩
    · simp [Region.ready, List.mem_filter, Region.binds] at hi
      have hall : b12 = false ∧ b11 = true := by simp [hi]
      clear hi
      obtain ⟨rfl, rfl⟩ := hall
      clear hs hi16 hsh
      refine wpOp_run rfl rfl ?_
      go_simp
      exact ⟨b0, b1, b2, b3, b4, b5, b6, b7, b8, b9, b10, true, true, b13, b14, b15, b16, b17, b18, b19, b20, A3, c3, rfl, rfl, hI⟩
    · simp [Region.ready, List.mem_filter, Region.binds] at hi
      have hall : b13 = false ∧ b12 = true := by simp [hi]
      clear hi
      obtain ⟨rfl, rfl⟩ := hall
      clear hs hi16 hsh
      refine wpOp_run rfl rfl ?_
      go_simp
      exact ⟨b0, b1, b2, b3, b4, b5, b6, b7, b8, b9, b10, b11, true, true, b14, b15, b16, b17, b18, b19, b20, A3, c3, rfl, rfl, hI⟩
    · simp [Region.ready, List.mem_filter, Region.binds] at hi
      have hall : b14 = false ∧ b13 = true := by simp [hi]
      clear hi
      obtain ⟨rfl, rfl⟩ := hall
      have z15 : b15 = false := by
        have q := hsh 15 _ rfl
        simp [Region.binds] at q
        cases b15
        · rfl
        · simp at q
      subst z15
      have z16 : b16 = false := by
        have q := hsh 16 _ rfl
        simp [Region.binds] at q
        cases b16
        · rfl
        · simp at q
      subst z16
      have z17 : b17 = false := by
        have q := hsh 17 _ rfl
        simp [Region.binds] at q
        cases b17
        · rfl
        · simp at q
      subst z17
      have z20 : b20 = false := by
        have q := hsh 20 _ rfl
        simp [Region.binds] at q
        cases b20
        · rfl
        · simp at q
      subst z20
      clear hs hi16 hsh
      obtain rfl := hI.w0 rfl
      obtain ⟨q2, q3, q4⟩ := hC
      refine wpOp_run rfl rfl ?_
      go_simp
      exact ⟨b0, b1, b2, b3, b4, b5, b6, b7, b8, b9, b10, b11, b12, true, true, false, false, false, b18, b19, false, A3, c3, rfl, rfl, hI⟩
    · simp [Region.ready, List.mem_filter, Region.binds] at hi
      have hall : b15 = false ∧ b5 = true ∧ b6 = true ∧ b10 = true ∧ b14 = true := by simp [hi]
      clear hi
      obtain ⟨rfl, rfl, rfl, rfl, rfl⟩ := hall
      clear hs hi16 hsh
      refine wpOp_run rfl rfl ?_
      go_simp
      exact ⟨b0, b1, b2, b3, b4, true, true, b7, b8, b9, true, b11, b12, b13, true, true, b16, b17, b18, b19, b20, A3, c3, rfl, rfl, hI⟩
    · simp [Region.ready, List.mem_filter, Region.binds] at hi
      have hall : b16 = false ∧ b15 = true := by simp [hi]
      clear hi
      obtain ⟨rfl, rfl⟩ := hall
      have z17 : b17 = false := by
        have q := hsh 17 _ rfl
        simp [Region.binds] at q
        cases b17
        · rfl
        · simp at q
      subst z17
      have z20 : b20 = false := by
        have q := hsh 20 _ rfl
        simp [Region.binds] at q
        cases b20
        · rfl
        · simp at q
      subst z20
      clear hs hi16 hsh
      obtain rfl := hI.w0 rfl
      refine wpOp_run rfl rfl ?_
      go_simp
      exact ⟨b0, b1, b2, b3, b4, b5, b6, b7, b8, b9, b10, b11, b12, b13, b14, true, true, false, b18, b19, false, A3, c3, rfl, rfl, PuP.one⟩
    · simp [Region.ready, List.mem_filter, Region.binds] at hi
      have hall : b17 = false ∧ b4 = true ∧ b16 = true := by simp [hi]
      clear hi
      obtain ⟨rfl, rfl, rfl⟩ := hall
      have z20 : b20 = false := by
        have q := hsh 20 _ rfl
        simp [Region.binds] at q
        cases b20
        · rfl
        · simp at q
      subst z20
      clear hs hi16 hsh
      obtain rfl := hI.w1 rfl rfl
      refine wpOp_run rfl rfl (wp_append_rd _ (.tmp 20) (.tmp 32) 68 rfl (g + 1) 78 j0 _ 4 40 Try.underlying68 hj jz0 jz1 jz2 rfl (by omega) (.slice A N C) N (tkC T) rfl (HR.out.alloc _) (w.heap.size + 1) (some ⟨w.heap.size, 0, none⟩) 1 1 [.int .i64 k, .string s, .int .i64 l, .int .i64 c] rfl (Rd.lit w.drew #[.int .i64 k, .string s, .int .i64 l, .int .i64 c] 78 1 4 rfl) (by simp [Value.oneCell']) (by unfold maxLen; omega) (by omega) (by simp; omega) fun A' c' w' h2 h3 _ => ?_)
      exact ⟨b0, b1, b2, b3, true, b5, b6, b7, b8, b9, b10, b11, b12, b13, b14, b15, true, true, b18, b19, false, A', c', rfl, rfl, PuP.two h2 (PuP.grew HR.out h3 hgl)⟩
    · simp [Region.ready, List.mem_filter, Region.binds] at hi
      have hall : b18 = false ∧ b0 = true := by simp [hi]
      clear hi
      obtain ⟨rfl, rfl⟩ := hall
      clear hs hi16 hsh
      refine wpOp_run rfl rfl ?_
      go_simp
      exact ⟨true, b1, b2, b3, b4, b5, b6, b7, b8, b9, b10, b11, b12, b13, b14, b15, b16, b17, true, b19, b20, A3, c3, rfl, rfl, hI⟩
    · simp [Region.ready, List.mem_filter, Region.binds] at hi
      have hall : b19 = false ∧ b18 = true := by simp [hi]
      clear hi
      obtain ⟨rfl, rfl⟩ := hall
      clear hs hi16 hsh
      refine wpOp_run rfl rfl ?_
      go_simp
      exact ⟨b0, b1, b2, b3, b4, b5, b6, b7, b8, b9, b10, b11, b12, b13, b14, b15, b16, b17, true, true, b20, A3, c3, rfl, rfl, hI⟩
    · simp [Region.ready, List.mem_filter, Region.binds] at hi
      have hall : b20 = false ∧ b16 = true ∧ b17 = true ∧ b19 = true := by simp [hi]
      clear hi
      obtain ⟨rfl, rfl, rfl, rfl⟩ := hall
      clear hs hi16 hsh
      obtain ⟨hown, hbel⟩ := hI.w2 rfl rfl
      have c4' := (hbel.cell (p := ⟨g, 4, none⟩) (by simp)).trans hC.2.2
      have f4' := (hbel.frozen (p := ⟨g, 4, none⟩) (by simp)).trans hF
      refine wpOp_run rfl rfl ?_
      go_simp
      exact ⟨b0, b1, b2, b3, b4, b5, b6, b7, b8, b9, b10, b11, b12, b13, b14, b15, true, true, b18, true, true, A3, c3, rfl, rfl, PuP.three hown hbel⟩
end Go.Proofs.Ytgjhjojbaieeaaa
