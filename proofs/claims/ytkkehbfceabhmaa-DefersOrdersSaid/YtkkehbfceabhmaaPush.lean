/- The law DefersPush is true. Conditions: none. -/
import Derived.Test.YtkkehbfceabhmaaCalls
import Derived.Test.YtkkehbfceabhmaaAnyInv
set_option maxRecDepth 20000
namespace Go.Proofs.Ytkkehbfceabhmaa
open Go.ChangeShapes Go.WideShapes Go.ChangeAt Go.RowKit
/-- A list of calls, and a call, that come in. -/
def IsCalls (w : World) (v : Value) : Prop := ∃ l : List CC, (Shp.slice CC.sh).rd w (· < w.heap.size) [v] l ∧ l.length * 40 ≤ 140737488351232 ∧ ∀ y ∈ l, CC.fits y
def IsCall (w : World) (v : Value) : Prop := ∃ (x : CC) (A : Option Addr) (c : Nat), v = .agg #[.int .i64 x.site, .int .i64 x.fn, .slice A x.args.length c] ∧ CC.sh.rd w (· < w.heap.size) [.int .i64 x.site, .int .i64 x.fn, .slice A x.args.length c] x ∧ CC.fits x
section
variable {H : Type} {enc : TypeId × Value → H} {w : World}
theorem op_calls {base : Nat} {v : Value} {d : DataW H} {ps : List MemPlace} (hv : Value.okWide Try.prog w .any base 22 v) (h : DataW.Trod enc Try.prog w 0 (fun _ => true) true 22 v d ps) (hlt : ∀ x ∈ ps, x.block < w.heap.size) (hz : ∀ n ∈ d.weights Try.prog 22, n ≤ reachBytes) : IsCalls w v := by
  obtain ⟨A, len, cap, rfl⟩ := okWide_slice Try.underlying22 hv
  obtain ⟨l, h1, h2, _⟩ := op_slice' (S := CC.sh) (bytes := 40) Try.underlying22 (by kernel_rfl) (by kernel_rfl) (by show 0 < 3; omega) CC.op (Opens.of h hlt hz)
  exact ⟨l, h1, h2⟩
theorem op_call {base : Nat} {v : Value} {d : DataW H} {ps : List MemPlace} (hv : Value.okWide Try.prog w .any base 25 v) (h : DataW.Trod enc Try.prog w 0 (fun _ => true) true 25 v d ps) (hlt : ∀ x ∈ ps, x.block < w.heap.size) (hz : ∀ n ∈ d.weights Try.prog 25, n ≤ reachBytes) : IsCall w v := by
  obtain ⟨cs, rfl, _⟩ := okWide_struct Try.underlying25 hv
  obtain ⟨x, h1, h2, _⟩ := CC.op (Opens.of h hlt hz)
  obtain ⟨A, c, e, _⟩ := CC.elim h1
  obtain ⟨l⟩ := cs
  simp only [Value.cells] at e h1
  subst e
  exact ⟨x, A, c, rfl, h1, h2⟩
end
theorem sl_form {w : World} {M : Nat → Prop} {v : Value} {l : List CC} (h : (Shp.slice CC.sh).rd w M [v] l) : ∃ A c, v = .slice A l.length c := by
  obtain ⟨A, c, _, e, _⟩ := h
  simp at e
  exact ⟨A, c, e⟩
theorem defersPush_v (v : Value) (l : List CC) (x : CC) (A2 : Option Addr) (c2 : Nat) (w : World) (h : (Shp.slice CC.sh).rd w (· < w.heap.size) [v] l) (hf : l.length * 40 ≤ 140737488351232 ∧ ∀ y ∈ l, CC.fits y) (hrd : CC.sh.rd w (· < w.heap.size) [.int .i64 x.site, .int .i64 x.fn, .slice A2 x.args.length c2] x) (hfx : CC.fits x) :
    Calls Try.prog 16 #[v, .agg #[.int .i64 x.site, .int .i64 x.fn, .slice A2 x.args.length c2]] w fun e w' => ∃ v, e = .returned v ∧ Own CC.sh 25 w' w.heap.size (· < w.heap.size) v (l ++ [x]) ∧ Below w.heap.size w w' := by
  obtain ⟨A, c, rfl⟩ := sl_form h
  exact defersPush_any A _ c l x A2 c2 w h hf hrd hfx
theorem sameCalls_v (v v' : Value) (l : List CC) (w : World) (h : (Shp.slice CC.sh).rd w (· < w.heap.size) [v] l) (h' : (Shp.slice CC.sh).rd w (· < w.heap.size) [v'] l) (hf : l.length * 40 ≤ 140737488355328 ∧ ∀ y ∈ l, CC.fits y) :
    Calls Try.prog 15 #[v, v'] w fun e w' => e = .returned (.bool true) ∧ Below w.heap.size w w' := by
  obtain ⟨A, c, rfl⟩ := sl_form h
  obtain ⟨A', c', rfl⟩ := sl_form h'
  exact sameCalls_same A A' _ _ c c' l w h h' hf
def pickd (b : Bool) (v d : Value) : Value := bif b then v else d
theorem pickd_t (v d : Value) : pickd true v d = v := rfl
/-- The cells of the call that is pushed. -/
@[reducible] def ccs (x : CC) (A2 : Option Addr) (c2 : Nat) : List Value := [.int .i64 x.site, .int .i64 x.fn, .slice A2 x.args.length c2]
/-- What is known of the values that are made, by what is done. -/
def DpF (W : World) (l : List CC) (x : CC) (A2 : Option Addr) (c2 : Nat) (b1 b3 b5 b7 b8 : Bool) (v6 v8 v10 v13 : Value) (hi8 lo10 g12 : Nat) (w : World) : Prop :=
  (b1 = true → b3 = false → (Shp.slice CC.sh).rd w (· < w.heap.size) [v6] l) ∧
  (b3 = true → hi8 ≤ w.heap.size ∧ (Shp.slice CC.sh).rd w (· < hi8) [v8] (l ++ [x])) ∧
  (b5 = true → b8 = false → W.heap.size ≤ lo10 ∧ hi8 ≤ lo10 ∧ lo10 ≤ w.heap.size ∧ Own CC.sh 25 w lo10 (fun _ => False) v10 l) ∧
  (b7 = true → b8 = false → g12 < w.heap.size ∧ Rd w (g12 + 1) 3 (some ⟨g12, 0, none⟩) 1 (ccs x A2 c2)) ∧
  (b8 = true → (Shp.slice CC.sh).rd w (· < w.heap.size) [v13] (l ++ [x])) ∧ (b5 = true → b3 = true)
theorem DpF.below {W : World} {l : List CC} {x : CC} {A2 : Option Addr} {c2 : Nat} {b1 b3 b5 b7 b8 : Bool} {v6 v8 v10 v13 : Value} {hi8 lo10 g12 : Nat} {w w' : World} (h : DpF W l x A2 c2 b1 b3 b5 b7 b8 v6 v8 v10 v13 hi8 lo10 g12 w) (hb : Below w.heap.size w w') : DpF W l x A2 c2 b1 b3 b5 b7 b8 v6 v8 v10 v13 hi8 lo10 g12 w' := by
  obtain ⟨h1, h2, h3, h4, h5, h6⟩ := h
  refine ⟨fun q r => Shp.into (S := Shp.slice CC.sh) (h1 q r) hb hb.size, fun q => ?_, fun q r => ?_, fun q r => ?_, fun q => Shp.into (S := Shp.slice CC.sh) (h5 q) hb hb.size, h6⟩
  · obtain ⟨a, b⟩ := h2 q
    exact ⟨Nat.le_trans a hb.size, (Shp.slice CC.sh).keep b fun p hp => hb.cell (Nat.lt_of_lt_of_le hp a)⟩
  · obtain ⟨a, b, c, d⟩ := h3 q r
    exact ⟨a, b, Nat.le_trans c hb.size, d.below hb⟩
  · obtain ⟨a, b⟩ := h4 q r
    exact ⟨Nat.lt_of_lt_of_le a hb.size, RdM.keep b fun p hp => hb.cell (Nat.lt_of_lt_of_le hp a)⟩
def DpS (W : World) (g : Nat) (x : CC) (A2 : Option Addr) (c2 : Nat) (w' : World) : Prop :=
  w'.cell? ⟨g, 0, none⟩ = some (.int .i64 x.site) ∧ w'.cell? ⟨g, 1, none⟩ = some (.int .i64 x.fn) ∧ w'.cell? ⟨g, 2, none⟩ = some (.slice A2 x.args.length c2) ∧ Below W.heap.size W w'
theorem DpS.mk {W w1 w2 : World} {g : Nat} {x : CC} {A2 : Option Addr} {c2 : Nat} (h : DpS W g x A2 c2 w1) (hg : g < W.heap.size) (hb : Below W.heap.size w1 w2) : DpS W g x A2 c2 w2 := by
  obtain ⟨a, b, c, e⟩ := h
  exact ⟨(hb.cell (p := ⟨g, 0, none⟩) hg).trans a, (hb.cell (p := ⟨g, 1, none⟩) hg).trans b, (hb.cell (p := ⟨g, 2, none⟩) hg).trans c, e.trans hb⟩
theorem DpS.size {W w1 : World} {g : Nat} {x : CC} {A2 : Option Addr} {c2 : Nat} (h : DpS W g x A2 c2 w1) : W.heap.size ≤ w1.heap.size := h.2.2.2.size
/-- The frame, by what is done. -/
@[reducible] def dpF (L C : Value) (g : Nat) (v6 v8 v10 v13 : Value) (g12 : Nat) (b0 b1 b2 b3 b4 b5 b6 b7 b8 b9 b10 : Bool) : Array Value :=
  #[L, C, undef, .pointer (some ⟨g, 0, none⟩), pickd b10 (.bool true) (.bool false), pickd b0 L undef, pickd b1 v6 undef, pickd b2 C undef, pickd b3 v8 undef, pickd b4 L undef, pickd b5 v10 undef, pickd b6 C undef, pickd b7 (.slice (some ⟨g12, 0, none⟩) 1 1) undef, pickd b8 v13 undef, pickd b9 (.bool true) undef]
def DpI (L C : Value) (W : World) (g : Nat) (l : List CC) (x : CC) (A2 : Option Addr) (c2 : Nat) (Lb : Array Bool) (a : Act) (w : World) : Prop :=
  ∃ (b0 b1 b2 b3 b4 b5 b6 b7 b8 b9 b10 : Bool) (v6 v8 v10 v13 : Value) (hi8 lo10 g12 : Nat), Lb = #[b0, b1, b2, b3, b4, b5, b6, b7, b8, b9, b10] ∧ a = { tmps := dpF L C g v6 v8 v10 v13 g12 b0 b1 b2 b3 b4 b5 b6 b7 b8 b9 b10, defers := [] } ∧ DpS W g x A2 c2 w ∧ DpF W l x A2 c2 b1 b3 b5 b7 b8 v6 v8 v10 v13 hi8 lo10 g12 w
set_option maxHeartbeats 2000000 in
theorem walkDefersPush (v0 v1 : Value) (w : World) (w0 : IsCalls w v0) (w1 : IsCall w v1) : Calls Try.prog 3 #[v0, v1] w fun e w' => e = .returned (.bool true) ∧ Below w.heap.size w w' := by
  obtain ⟨l, hl, hlf⟩ := w0
  obtain ⟨x, A2, c2, rfl, hx, hxf⟩ := w1
  obtain ⟨j0, hj, jz0, jz1, jz2⟩ := info_parts info_call
  obtain ⟨A, c, rfl⟩ := sl_form hl
  have HL := Lib.hid hl
  have HX := Lib.hid hx
  have HF := Lib.hid (show (l ++ [x]).length * 40 ≤ 140737488355328 ∧ ∀ y ∈ l ++ [x], CC.fits y from ⟨by simp; omega, fun y hy => by rcases List.mem_append.1 hy with h | h; exact hlf.2 y h; simp at h; subst h; exact hxf⟩)
  have hmx : l.length + 1 ≤ maxLen := by unfold maxLen; omega
  have hbt : (l.length + 1) * 40 ≤ 140737488355328 := by omega
  have hpt := pickd_t
  clear hl hx
  go_enter Try.func3, Try.ntmps3
  go_wp2_with fail
  generalize hW : w.alloc (Obj.cells #[Value.int .i64 x.site, Value.int .i64 x.fn, Value.slice A2 x.args.length c2] 25) = W
  have hWb : Below w.heap.size w W := by rw [← hW]; exact al _
  have hg : w.heap.size < W.heap.size := by rw [← hW]; simp
  have hI : DpS W w.heap.size x A2 c2 W := by
    unfold DpS
    rw [← hW]; simp; exact Below.refl _ _
  clear hW
  have HLw := Lib.hid (fun w' (h : DpS W w.heap.size x A2 c2 w') => Shp.into (S := Shp.slice CC.sh) HL.out (sq hWb h.2.2.2) (Nat.le_trans (Nat.le_of_lt hg) h.size))
  have HXw := Lib.hid (fun w' (h : DpS W w.heap.size x A2 c2 w') => Shp.into (S := CC.sh) HX.out (sq hWb h.2.2.2) (Nat.le_trans (Nat.le_of_lt hg) h.size))
  have HXs := Lib.hid (fun w' (h : DpS W w.heap.size x A2 c2 w') => Shp.stay (S := CC.sh) HX.out (sq hWb h.2.2.2))
  refine wp_region_any (by kernel_rfl) ?_
  refine wpAny_inv (DpI (.slice A l.length c) (.agg #[.int .i64 x.site, .int .i64 x.fn, .slice A2 x.args.length c2]) W w.heap.size l x A2 c2) ?done ?step _ _ _ _ (by simp) (by simp [left]) ?init
  case init => exact ⟨false, false, false, false, false, false, false, false, false, false, false, undef, undef, undef, undef, 0, 0, 0, rfl, rfl, ⟨hI.1, hI.2.1, hI.2.2.1, hI.2.2.2.drew⟩, by simp [DpF]⟩
  case done =>
    rintro Lb a w' ⟨b0, b1, b2, b3, b4, b5, b6, b7, b8, b9, b10, v6, v8, v10, v13, hi8, lo10, g12, rfl, rfl, hS, hF⟩ hs hr
    have hall : b10 = true := by
      have hno : ∀ i, i ∉ Region.ready Region.Mode.any _ _ := fun i hi => by rw [hr] at hi; cases hi
      have q0 := hno 0
      have q1 := hno 1
      have q2 := hno 2
      have q3 := hno 3
      have q4 := hno 4
      have q5 := hno 5
      have q6 := hno 6
      have q7 := hno 7
      have q8 := hno 8
      have q9 := hno 9
      have q10 := hno 10
      clear hno hr hs
      simp [Region.ready, List.mem_filter, Region.binds] at q0 q1 q2 q3 q4 q5 q6 q7 q8 q9 q10
      simp_all
    subst hall
    clear hr hs
    have hWw := hS.2.2.2
    clear hF hS
    simp only [dpF, pickd_t]
    go_wp2_with fail
    go_ret
    exact ⟨rfl, sq hWb hWw⟩
  case step =>
    rintro Lb a w' i ⟨b0, b1, b2, b3, b4, b5, b6, b7, b8, b9, b10, v6, v8, v10, v13, hi8, lo10, g12, rfl, rfl, hS, hF⟩ hs hi
    have hi16 := (ready_mem hi).1
    simp only [List.size_toArray, List.length_cons, List.length_nil] at hi16
    obtain rfl | rfl | rfl | rfl | rfl | rfl | rfl | rfl | rfl | rfl | rfl : i = 0 ∨ i = 1 ∨ i = 2 ∨ i = 3 ∨ i = 4 ∨ i = 5 ∨ i = 6 ∨ i = 7 ∨ i = 8 ∨ i = 9 ∨ i = 10 := by omega
    · simp [Region.ready, List.mem_filter, Region.binds] at hi
      subst hi
      clear hs hi16
      refine wpOp_run rfl rfl ?_
      go_simp
      exact ⟨true, b1, b2, b3, b4, b5, b6, b7, b8, b9, b10, v6, v8, v10, v13, hi8, lo10, g12, rfl, rfl, hS, hF⟩
    · simp [Region.ready, List.mem_filter, Region.binds] at hi
      have hall : b1 = false ∧ b0 = true := by simp [hi]
      clear hi
      obtain ⟨rfl, rfl⟩ := hall
      clear hs hi16
      refine wpOp_run rfl rfl ?_
      go_simp
      refine (calls_any A _ c l _ (HLw.out _ hS) hlf).mono ?_
      rintro e w2 ⟨v6', rfl, hown, hb2⟩
      go_simp
      obtain ⟨f1, f2⟩ := hF.below hb2
      exact ⟨true, true, b2, b3, b4, b5, b6, b7, b8, b9, b10, v6', v8, v10, v13, hi8, lo10, g12, rfl, rfl, hS.mk hg (hb2.mono hS.size), fun _ _ => hown.read, f2⟩
    · simp [Region.ready, List.mem_filter, Region.binds] at hi
      subst hi
      clear hs hi16
      obtain ⟨c0, c1, c2, hB⟩ := hS
      refine wpOp_run rfl rfl ?_
      go_simp
      exact ⟨b0, b1, true, b3, b4, b5, b6, b7, b8, b9, b10, v6, v8, v10, v13, hi8, lo10, g12, rfl, rfl, ⟨c0, c1, c2, hB⟩, hF⟩
    · simp [Region.ready, List.mem_filter, Region.binds] at hi
      have hall : b3 = false ∧ b1 = true ∧ b2 = true := by simp [hi]
      clear hi
      obtain ⟨rfl, rfl, rfl⟩ := hall
      clear hs hi16
      refine wpOp_run rfl rfl ?_
      go_simp
      refine (defersPush_v v6 l x A2 c2 _ (hF.1 rfl rfl) hlf (HXw.out _ hS) hxf).mono ?_
      rintro e w2 ⟨v8', rfl, hown, hb2⟩
      go_simp
      obtain ⟨f1, f2, f3, f4, f5, f6⟩ := hF.below hb2
      exact ⟨b0, true, true, true, b4, b5, b6, b7, b8, b9, b10, v6, v8', v10, v13, w2.heap.size, lo10, g12, rfl, rfl, hS.mk hg (hb2.mono hS.size), by
        unfold DpF
        exact ⟨(fun _ h => by cases h), fun _ => ⟨Nat.le_refl _, hown.read⟩, fun h => (by have := f6 h; cases this), f4, f5, fun _ => rfl⟩⟩
    · simp [Region.ready, List.mem_filter, Region.binds] at hi
      subst hi
      clear hs hi16
      refine wpOp_run rfl rfl ?_
      go_simp
      exact ⟨b0, b1, b2, b3, true, b5, b6, b7, b8, b9, b10, v6, v8, v10, v13, hi8, lo10, g12, rfl, rfl, hS, hF⟩
    · simp [Region.ready, List.mem_filter, Region.binds] at hi
      have hall : b5 = false ∧ b4 = true ∧ b3 = true := by simp [hi]
      clear hi
      obtain ⟨rfl, rfl, rfl⟩ := hall
      clear hs hi16
      refine wpOp_run rfl rfl ?_
      go_simp
      refine (calls_any A _ c l _ (HLw.out _ hS) hlf).mono ?_
      rintro e w2 ⟨v10', rfl, hown, hb2⟩
      go_simp
      obtain ⟨f1, f2, f3, f4, f5, f6⟩ := hF.below hb2
      exact ⟨b0, b1, b2, true, true, true, b6, b7, b8, b9, b10, v6, v8, v10', v13, hi8, w'.heap.size, g12, rfl, rfl, hS.mk hg (hb2.mono hS.size), f1, f2, fun _ _ => ⟨hS.size, (hF.2.1 rfl).1, hb2.size, hown.lessE (fun _ h => h.elim)⟩, f4, f5, fun _ => rfl⟩
    · simp [Region.ready, List.mem_filter, Region.binds] at hi
      subst hi
      clear hs hi16
      obtain ⟨c0, c1, c2, hB⟩ := hS
      refine wpOp_run rfl rfl ?_
      go_simp
      exact ⟨b0, b1, b2, b3, b4, b5, true, b7, b8, b9, b10, v6, v8, v10, v13, hi8, lo10, g12, rfl, rfl, ⟨c0, c1, c2, hB⟩, hF⟩
    · simp [Region.ready, List.mem_filter, Region.binds] at hi
      have hall : b7 = false ∧ b6 = true := by simp [hi]
      clear hi
      obtain ⟨rfl, rfl⟩ := hall
      clear hs hi16
      refine wpOp_run rfl rfl ?_
      go_simp
      have hb2 : Below w'.heap.size w' (w'.alloc (.cells #[.int .i64 x.site, .int .i64 x.fn, .slice A2 x.args.length c2] 25)) := al _
      obtain ⟨f1, f2, f3, f4, f5, f6⟩ := hF.below hb2
      exact ⟨b0, b1, b2, b3, b4, b5, true, true, b8, b9, b10, v6, v8, v10, v13, hi8, lo10, w'.heap.size, rfl, rfl, hS.mk hg (hb2.mono hS.size), f1, f2, f3, fun _ _ => ⟨by simp, Rd.one w' #[.int .i64 x.site, .int .i64 x.fn, .slice A2 x.args.length c2] 25 3 rfl _ rfl⟩, f5, f6⟩
    · simp [Region.ready, List.mem_filter, Region.binds] at hi
      have hall : b8 = false ∧ b5 = true ∧ b7 = true := by simp [hi]
      clear hi
      obtain ⟨rfl, rfl, rfl⟩ := hall
      clear hs hi16
      obtain ⟨f1, f2, f3, f4, f5, f6⟩ := hF
      obtain ⟨o1, o2, o3, hown⟩ := f3 rfl rfl
      obtain ⟨r1, r2⟩ := f4 rfl rfl
      obtain rfl := f6 rfl
      have hE := Own.elder (S := CC.sh) hown (Below.refl _ _) (HXs.out _ hS) (Nat.le_trans (Nat.le_of_lt hg) o1) (Nat.le_trans (Nat.le_of_lt hg) hS.size)
      refine wpOp_run rfl rfl (wp_append_Own (S := CC.sh) _ _ 22 rfl lo10 25 j0 _ 40 Try.underlying22 hj jz0 jz1 jz2 rfl (by show 0 < 3; omega) (fun _ => False) v10 l rfl hE.1 _ _ 1 1 _ _ [x] rfl r2 (by simp) rfl hE.2 hmx hbt o3 fun A4 c4 w4 hown4 hgrow4 _ => ?_)
      have hlt := fun k (hk : v10.ownBlock = some k) => hown.ownlt hk
      have hbw : Below lo10 w' w4 := (Below.refl _ _).grown hgrow4 o3 (fun k hk => (hlt k hk).1)
      obtain ⟨p1, p2⟩ := f2 rfl
      exact ⟨b0, b1, b2, true, b4, true, b6, true, true, b9, b10, v6, v8, v10, .slice A4 (l.length + 1) c4, hi8, lo10, g12, rfl, rfl, hS.mk hg (hbw.mono o1), by
        unfold DpF
        exact ⟨(fun _ h => by cases h), fun _ => ⟨Nat.le_trans p1 hgrow4.size, (Shp.slice CC.sh).keep p2 fun p hp => hbw.cell (Nat.lt_of_lt_of_le hp o2)⟩, (fun _ h => by cases h), (fun _ h => by cases h), fun _ => hown4.read, fun _ => rfl⟩⟩
    · simp [Region.ready, List.mem_filter, Region.binds] at hi
      have hall : b9 = false ∧ b3 = true ∧ b8 = true := by simp [hi]
      clear hi
      obtain ⟨rfl, rfl, rfl⟩ := hall
      clear hs hi16
      refine wpOp_run rfl rfl ?_
      go_simp
      refine (sameCalls_v v8 v13 (l ++ [x]) _ ((Shp.slice CC.sh).more (hF.2.1 rfl).2 fun b hb => Nat.lt_of_lt_of_le hb (hF.2.1 rfl).1) (hF.2.2.2.2.1 rfl) HF.out).mono ?_
      rintro e w2 ⟨rfl, hb2⟩
      go_simp
      exact ⟨b0, b1, b2, true, b4, b5, b6, b7, true, true, b10, v6, v8, v10, v13, hi8, lo10, g12, rfl, rfl, hS.mk hg (hb2.mono hS.size), hF.below hb2⟩
    · simp [Region.ready, List.mem_filter, Region.binds] at hi
      obtain ⟨rfl, hi⟩ := hi
      have hall : b0 = true ∧ b1 = true ∧ b2 = true ∧ b3 = true ∧ b4 = true ∧ b5 = true ∧ b6 = true ∧ b7 = true ∧ b8 = true ∧ b9 = true := by simp_all
      obtain ⟨rfl, rfl, rfl, rfl, rfl, rfl, rfl, rfl, rfl, rfl⟩ := hall
      clear hi
      clear hs hi16
      refine wpOp_run rfl rfl ?_
      go_simp
      exact ⟨true, true, true, true, true, true, true, true, true, true, true, v6, v8, v10, v13, hi8, lo10, g12, rfl, rfl, hS, hF⟩
end Go.Proofs.Ytkkehbfceabhmaa
