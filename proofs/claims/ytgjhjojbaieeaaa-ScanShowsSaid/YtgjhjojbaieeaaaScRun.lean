/- 'scan.Tokens'. Conditions: none. -/
import Derived.Test.YtgjhjojbaieeaaaScAll
import Derived.Defers
import Derived.Recover
import Derived.Laws.Pointers
set_option maxRecDepth 20000
namespace Go.Proofs.Ytgjhjojbaieeaaa
open Go.ChangeShapes Go.WideShapes Go.ChangeAt Go.RowKit
/-- The results behind a panic. -/
def caught (w : World) (a b : Nat) (code l c : Int) : World := ((((w.setCell ⟨a, 0, none⟩ (.slice none 0 0)).setCell ⟨b, 0, none⟩ (.int .i64 code)).setCell ⟨b, 1, none⟩ (.int .i64 l)).setCell ⟨b, 2, none⟩ (.int .i64 c))
theorem catch_idle (a b : Nat) (w : World) :
    CallsD Try.prog 60 #[.pointer (some ⟨a, 0, none⟩), .pointer (some ⟨b, 0, none⟩)] .returning w fun e u' w' => e = .returned (.tuple #[]) ∧ u' = .returning ∧ w' = w := by
  refine callsD_of_wpS Try.func60 rfl fun c₀ cs hu => ?_
  apply wpS_seq
  apply wpS_region
  simp [wpOpsS, go_sem, recoverD, hu, Try.ntmps60, Exit.thenS]
  apply wpS_seq
  apply wpS_region
  simp [wpOpsS, go_sem, Exit.thenS]
  refine wpS_cond (t := false) (by simp [Act.eval, Array.replicate]) ?_
  simp only [Bool.false_eq_true, if_false]
  refine wpS_of_wp (wp_skip ?_)
  cases c₀
  simp_all [bodyPostS, results, Try.results60]
theorem catch_panicking (a b : Nat) (hab : a ≠ b) (x x0 x1 x2 : Value) (code l c : Int) (older : List PanicEntry) (w : World) (ha : w.cell? ⟨a, 0, none⟩ = some x) (h0 : w.cell? ⟨b, 0, none⟩ = some x0) (h1 : w.cell? ⟨b, 1, none⟩ = some x1) (h2 : w.cell? ⟨b, 2, none⟩ = some x2)
    (fa : w.frozen? ⟨a, 0, none⟩ = false) (f0 : w.frozen? ⟨b, 0, none⟩ = false) (f1 : w.frozen? ⟨b, 1, none⟩ = false) (f2 : w.frozen? ⟨b, 2, none⟩ = false) :
    CallsD Try.prog 60 #[.pointer (some ⟨a, 0, none⟩), .pointer (some ⟨b, 0, none⟩)] (.panicking ({ v := stopV code l c, recovered := false } :: older)) w fun e u' w' => e = .returned (.tuple #[]) ∧ u' = .panicking ({ v := stopV code l c, recovered := true } :: older) ∧ ∃ n, w' = caught (w.drewN n) a b code l c := by
  refine callsD_of_wpS Try.func60 rfl fun c₀ cs hu => ?_
  apply wpS_seq
  apply wpS_region
  unfold stopV at hu ⊢
  simp [wpOpsS, go_sem, recoverD, hu, Try.ntmps60, Exit.thenS]
  apply wpS_seq
  apply wpS_region
  simp [wpOpsS, go_sem, Exit.thenS]
  refine wpS_cond (t := true) (by simp [Act.eval, Array.replicate]) ?_
  simp only [if_true]
  refine wpS_of_wp ?_
  have hta : ∀ (v : Value) (w : World), (Instr.typeAssert (Value.iface 125 v) 20 125 false).run Try.prog w = .ok v w := fun v w => by kernel_rfl
  have hfl : ∀ w, (Instr.field 125 (.agg #[.int .i64 code, .int .i64 l, .int .i64 c]) 0).run Try.prog w = .ok (.agg #[.int .i64 code, .int .i64 l, .int .i64 c]) w := fun w => by kernel_rfl
  generalize hfr : (#[Value.pointer (some ⟨a, 0, none⟩), Value.pointer (some ⟨b, 0, none⟩)] ++ _ : Array Value) = fr
  have hfr2 : fr = #[.pointer (some ⟨a, 0, none⟩), .pointer (some ⟨b, 0, none⟩), .iface 125 (.agg #[.int .i64 code, .int .i64 l, .int .i64 c]), .iface 125 (.agg #[.int .i64 code, .int .i64 l, .int .i64 c]), .iface 125 (.agg #[.int .i64 code, .int .i64 l, .int .i64 c]), .bool true, undef, undef, undef] := by rw [← hfr]; rfl
  subst hfr2
  clear hfr
  go_region
  simp [bodyPostS, results, Try.results60]
  exact ⟨1, rfl⟩
theorem tokens_long (src : ByteArray) (w : World) (h : 8000 < src.size) : Calls Try.prog 26 #[.string src] w fun e w' => e = .returned (.tuple #[.slice none 0 0, .agg #[.int .i64 1, .int .i64 0, .int .i64 0]]) ∧ Below w.heap.size w w' := by
  go_enter_defers Try.func26, Try.ntmps26
  go_wp2
  unfold bodyPostD
  simp [Leaves, results, Try.results26, go_sem]
  exact sq (al _) (al _)
/-- What 'Tokens' comes to. -/
def TP (src : ByteArray) (e : Ending) (w' : World) : Prop :=
  ∃ R, Runs src.data.toList 0 [] R ∧ match R with
  | .ok T => ∃ A C, e = .returned (.tuple #[.slice A T.length C, .agg #[.int .i64 0, .int .i64 0, .int .i64 0]]) ∧ Rd w' w'.heap.size 4 A T.length (tkC T) ∧ T.length ≤ 2000
  | .bad c p => e = .returned (.tuple #[.slice none 0 0, .agg #[.int .i64 c, .int .i64 (p.1 : Int), .int .i64 (p.2 : Int)]])
theorem set4 {a w : World} {g : Nat} (h : Below g a w) (v0 v1 v2 v3 : Value) : Below g a ((((w.setCell ⟨g, 0, none⟩ v0).setCell ⟨g + 1, 0, none⟩ v1).setCell ⟨g + 1, 1, none⟩ v2).setCell ⟨g + 1, 2, none⟩ v3) :=
  Below.setCell (Below.setCell (Below.setCell (Below.setCell h (p := ⟨g, 0, none⟩) (Nat.le_refl g) v0) (p := ⟨g + 1, 0, none⟩) (Nat.le_succ g) v1) (p := ⟨g + 1, 1, none⟩) (Nat.le_succ g) v2) (p := ⟨g + 1, 2, none⟩) (Nat.le_succ g) v3
/-- The cells of the results, still nothing in them. -/
structure RC (w : World) (g : Nat) : Prop where
  r0 : w.cell? ⟨g, 0, none⟩ = some (.slice none 0 0)
  r1 : w.cell? ⟨g + 1, 0, none⟩ = some (.int .i64 0)
  r2 : w.cell? ⟨g + 1, 1, none⟩ = some (.int .i64 0)
  r3 : w.cell? ⟨g + 1, 2, none⟩ = some (.int .i64 0)
  z0 : w.frozen? ⟨g, 0, none⟩ = false
  z1 : w.frozen? ⟨g + 1, 0, none⟩ = false
  z2 : w.frozen? ⟨g + 1, 1, none⟩ = false
  z3 : w.frozen? ⟨g + 1, 2, none⟩ = false
theorem RC.below {w w' : World} {g : Nat} (h : RC w g) (hb : Below (g + 1 + 1) w w') : RC w' g :=
  ⟨(hb.cell (p := ⟨g, 0, none⟩) (show g < g + 1 + 1 by omega)).trans h.r0, (hb.cell (p := ⟨g + 1, 0, none⟩) (show g + 1 < g + 1 + 1 by omega)).trans h.r1, (hb.cell (p := ⟨g + 1, 1, none⟩) (show g + 1 < g + 1 + 1 by omega)).trans h.r2, (hb.cell (p := ⟨g + 1, 2, none⟩) (show g + 1 < g + 1 + 1 by omega)).trans h.r3,
    (hb.frozen (p := ⟨g, 0, none⟩) (show g < g + 1 + 1 by omega)).trans h.z0, (hb.frozen (p := ⟨g + 1, 0, none⟩) (show g + 1 < g + 1 + 1 by omega)).trans h.z1, (hb.frozen (p := ⟨g + 1, 1, none⟩) (show g + 1 < g + 1 + 1 by omega)).trans h.z2, (hb.frozen (p := ⟨g + 1, 2, none⟩) (show g + 1 < g + 1 + 1 by omega)).trans h.z3⟩
set_option maxHeartbeats 2000000 in
theorem tokens_any (src : ByteArray) (w : World) (hsz : src.size ≤ 8000) : Calls Try.prog 26 #[.string src] w fun e w' => TP src e w' ∧ Below w.heap.size w w' := by
  have hmf : ∀ (fn : Fn) (first cap : Array Value) (w : World), (Instr.makeFunc fn first cap).run Try.prog w = .ok (.func fn first cap) w := fun _ _ _ _ => rfl
  have hn0 : ¬ 8000 < (src.size : Int) := by omega
  go_enter_defers Try.func26, Try.ntmps26
  go_wp2_with fail
  generalize hw3 : World.alloc _ (Obj.cells #[Value.string src, _, _, _, _] _) = w3
  have hb3 : Below w.heap.size w w3 ∧ w3.heap.size = w.heap.size + 3 := by subst hw3; exact ⟨sq (sq (al _) (al _)) (al _), by simp⟩
  have hcu3 : CuS w3 (w.heap.size + 1 + 1) src 0 [] := by
    subst hw3
    refine ⟨none, 0, by simp [go_sem], by simp [go_sem], by simp [go_sem, place], by simp [go_sem, place], by simp [go_sem], fun k => ?_, World.ownsRow_nil _ _ _ _⟩
    simp [go_sem]
  have hrc : RC w3 w.heap.size := by subst hw3; constructor <;> simp [go_sem]
  clear hw3
  generalize hg : w.heap.size = g at *
  go_loopg [] (src.size - 0) (fun k wr => ∃ (p : Nat) (T : List Tk), k + p = src.size ∧ T.length ≤ 2000 ∧ Hid (∀ R, Runs src.data.toList p T R → Runs src.data.toList 0 [] R) ∧ CuS wr (g + 1 + 1) src p T ∧ Below (g + 1 + 1) w3 wr)
  case atStart => exact ⟨0, [], by omega, by simp, Lib.hid fun _ h => h, hcu3, Below.refl _ _⟩
  case round =>
    obtain ⟨p, T, hk, hT, HR, hcu, hbel⟩ := hrel
    have HH := Lib.hid (And.intro hcu hbel)
    obtain ⟨A, C, hc⟩ := hcu
    have d0 := hc.c0
    have d1 := hc.c1
    clear hc hbel
    by_cases hp : p < src.size
    · have hpi : (p : Int) < (src.size : Int) := by omega
      go_wp2_with fail
      refine (token_any (g + 1 + 1) src p T wr HH.out.1 hT hsz hp).mono ?_
      generalize hnx : nx src.data.toList p T = r
      rintro e w4 hm
      rcases r with c | ⟨p', T'⟩
      · obtain ⟨rfl, hb4⟩ := hm
        have HB := Lib.hid (HH.out.2.trans hb4)
        have hrc4 := hrc.below HB.out
        clear hb4
        unfold stopE
        go_wp2_with fail
        unfold bodyPostD
        have hb4' := HB.out
        refine leaves_cons (f := 60) (args := #[.pointer (some ⟨g, 0, none⟩), .pointer (some ⟨g + 1, 0, none⟩)]) (by simp) (by simp [go_sem]) ?_
        refine (catch_panicking g (g + 1) (by omega) _ _ _ _ _ _ _ [] w4 hrc4.r0 hrc4.r1 hrc4.r2 hrc4.r3 hrc4.z0 hrc4.z1 hrc4.z2 hrc4.z3).mono ?_
        rintro e u' w'' ⟨rfl, rfl, n, rfl⟩
        unfold caught
        simp [Leaves, settle, results, Try.results26, go_sem, hrc4.r0, hrc4.r1, hrc4.r2, hrc4.r3]
        refine ⟨⟨_, HR.out _ (.bad (by simpa using hp) hnx), rfl⟩, ?_⟩
        rw [hg]
        exact set4 (dr (hb3.1.trans (hb4'.mono (by omega))) n) _ _ _ _
      · obtain ⟨rfl, hcu4, hb4⟩ := hm
        obtain ⟨hlt, hle, hT'⟩ := nx_ok hp hT hnx
        have HB := Lib.hid (HH.out.2.trans hb4)
        clear hb4
        have HC4 := Lib.hid hcu4
        clear hcu4
        go_wp2_with fail
        go_roundg (src.size - p')
        case measure => omega
        case rel => exact ⟨p', T', by omega, hT', Lib.hid fun R hR => HR.out R (.step (by simpa using hp) hnx hR), HC4.out, HB.out⟩
    · have hpi : ¬ (p : Int) < (src.size : Int) := by omega
      go_wp2_with fail
      refine (lineEnd_any (g + 1 + 1) src p T wr HH.out.1 hT hsz (by omega)).mono ?_
      unfold semiR
      generalize hsm : semiT src.data.toList p T = r
      rintro e w4 hm
      rcases r with _ | T'
      · obtain ⟨rfl, hb4⟩ := hm
        have HB := Lib.hid (HH.out.2.trans hb4)
        have hrc4 := hrc.below HB.out
        clear hb4
        unfold stopE
        go_wp2_with fail
        unfold bodyPostD
        have hb4' := HB.out
        refine leaves_cons (f := 60) (args := #[.pointer (some ⟨g, 0, none⟩), .pointer (some ⟨g + 1, 0, none⟩)]) (by simp) (by simp [go_sem]) ?_
        refine (catch_panicking g (g + 1) (by omega) _ _ _ _ _ _ _ [] w4 hrc4.r0 hrc4.r1 hrc4.r2 hrc4.r3 hrc4.z0 hrc4.z1 hrc4.z2 hrc4.z3).mono ?_
        rintro e u' w'' ⟨rfl, rfl, n, rfl⟩
        unfold caught
        simp [Leaves, settle, results, Try.results26, go_sem, hrc4.r0, hrc4.r1, hrc4.r2, hrc4.r3]
        refine ⟨⟨_, HR.out _ (.full (by simpa using hp) hsm), rfl⟩, ?_⟩
        rw [hg]
        exact set4 (dr (hb3.1.trans (hb4'.mono (by omega))) n) _ _ _ _
      · obtain ⟨rfl, hcu4, hb4⟩ := hm
        have HB := Lib.hid (HH.out.2.trans hb4)
        have HC4 := Lib.hid hcu4
        obtain ⟨A4, C4, hc4⟩ := hcu4
        have e4 := hc4.c4
        have HC5 := Lib.hid hc4
        obtain ⟨r0, r1, r2, r3, z0, z1, z2, z3⟩ := hrc.below HB.out
        clear hc4 hb4
        go_wp2_with fail
        unfold bodyPostD
        refine leaves_cons (f := 60) (args := #[.pointer (some ⟨g, 0, none⟩), .pointer (some ⟨g + 1, 0, none⟩)]) (by simp) (by simp [go_sem]) ?_
        refine (catch_idle g (g + 1) _).mono ?_
        rintro e u' w'' ⟨rfl, rfl, rfl⟩
        simp [Leaves, settle, results, Try.results26, go_sem, r0, r1, r2, r3]
        refine ⟨⟨_, HR.out _ (.fin (by simp; omega) hsm), A4, C4, rfl, ?_, semiT_len hsm hT⟩, ?_⟩
        · exact Rd.of_own (own_cell (own_cell (own_cell (own_cell HC5.out.row (a := ⟨g, 0, none⟩) (show g < g + 1 + 1 + 1 by omega) _) (a := ⟨g + 1, 0, none⟩) (show g + 1 < g + 1 + 1 + 1 by omega) _) (a := ⟨g + 1, 1, none⟩) (show g + 1 < g + 1 + 1 + 1 by omega) _) (a := ⟨g + 1, 2, none⟩) (show g + 1 < g + 1 + 1 + 1 by omega) _)
        · rw [hg]
          exact set4 (hb3.1.trans (HB.out.mono (by omega))) _ _ _ _
end Go.Proofs.Ytgjhjojbaieeaaa
