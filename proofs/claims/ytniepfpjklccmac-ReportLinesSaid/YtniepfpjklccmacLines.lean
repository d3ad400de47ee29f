/- 'report.Lines' and the document's Lines: the law ReportLines is true. Conditions: none. -/
import Derived.Test.YtniepfpjklccmacDecimal
import Derived.Test.YtniepfpjklccmacEndsA
import Derived.Test.YtniepfpjklccmacOpen
import Derived.Deep.RegionHeld3
set_option maxRecDepth 100000
namespace Go.Proofs.Ytniepfpjklccmac
open Go.ChangeShapes Go.WideShapes Go.ChangeAt Go.RowKit
/-- What a run's last lines are. -/
def linesS (e : Int) (out crash : ByteArray) (st : Int) : ByteArray := out ++ crash ++ endAt (e - 1).toNat ++ (⟨#[32]⟩ : ByteArray) ++ decS st ++ (⟨#[10]⟩ : ByteArray)
theorem endAt_size : ∀ k, k < 8 → (endAt k).size ≤ 6 := by decide +kernel
theorem decS_size (n : Int) (h : -9223372036854775808 ≤ n ∧ n ≤ 9223372036854775807) : (decS n).size ≤ 20 := by
  unfold decS
  rw [strOf_len]
  exact decL_len h
@[reducible] def outc (e : Int) (out crash : ByteArray) (st steps : Int) (A : Option Addr) (n c : Nat) : Value := .agg #[.int .i64 e, .string out, .string crash, .int .i64 st, .int .i64 steps, .slice A n c]
theorem held_three {W w1 w2 : World} {g : Nat} {x1 x2 x3 : Value} (hg : g < W.heap.size) (hb : Below w1.heap.size w1 w2) (h : w1.cell? ⟨g, 1, none⟩ = some x1 ∧ w1.cell? ⟨g, 2, none⟩ = some x2 ∧ w1.cell? ⟨g, 3, none⟩ = some x3 ∧ Below W.heap.size W w1) :
    w2.cell? ⟨g, 1, none⟩ = some x1 ∧ w2.cell? ⟨g, 2, none⟩ = some x2 ∧ w2.cell? ⟨g, 3, none⟩ = some x3 ∧ Below W.heap.size W w2 := by
  obtain ⟨k1, _⟩ := kept hb
  obtain ⟨b, c, d, e⟩ := h
  have hg1 : g < w1.heap.size := Nat.lt_of_lt_of_le hg e.size
  exact ⟨by rw [k1 _ _ hg1]; exact b, by rw [k1 _ _ hg1]; exact c, by rw [k1 _ _ hg1]; exact d, sq e hb⟩
theorem last4 {a b c d : Prop} (h : a ∧ b ∧ c ∧ d) : d := h.2.2.2
theorem reportLines_yes (k : Nat) (hk : k < 8) (out crash : ByteArray) (st steps : Int) (A : Option Addr) (n c : Nat) (hst : -9223372036854775808 ≤ st ∧ st ≤ 9223372036854775807) (ho : out.size ≤ 140737488351232) (hc : crash.size ≤ 140737488351232) (w : World) :
    Calls Try.prog 29 #[outc ((k : Int) + 1) out crash st steps A n c] w fun e w' => e = .returned (.tuple #[.string (linesS ((k : Int) + 1) out crash st), .int .i64 0]) ∧ Below w.heap.size w w' := by
  have hsz := decS_size st hst
  have hes := endAt_size k hk
  have HV := Lib.hid (show linesS ((k : Int) + 1) out crash st = _ by unfold linesS; rw [show ((k : Int) + 1 - 1).toNat = k by omega])
  have n1 : ¬ 9223372036854775807 < out.size + crash.size := by omega
  have n2 : ¬ 9223372036854775807 < out.size + crash.size + (endAt k).size := by omega
  have n3 : ¬ 9223372036854775807 < out.size + crash.size + (endAt k).size + 1 := by omega
  have n4 : ¬ 9223372036854775807 < out.size + crash.size + (endAt k).size + 1 + (decS st).size := by omega
  have n5 : ¬ 9223372036854775807 < out.size + crash.size + (endAt k).size + 1 + (decS st).size + 1 := by omega
  go_enter Try.func29, Try.ntmps29
  go_wp2_with fail
  refine (reportEnding_yes k hk _).mono ?_
  rintro e w1 ⟨rfl, rfl⟩
  go_wp2_with fail
  generalize hW : w.alloc (Obj.cells #[Value.int .i64 ((k : Int) + 1), Value.string out, Value.string crash, Value.int .i64 st, Value.int .i64 steps, Value.slice A n c] 44) = W
  have hWb : Below w.heap.size w W := by rw [← hW]; exact al _
  have hg : w.heap.size < W.heap.size := by rw [← hW]; simp
  have hI : W.cell? ⟨w.heap.size, 1, none⟩ = some (.string out) ∧ W.cell? ⟨w.heap.size, 2, none⟩ = some (.string crash) ∧ W.cell? ⟨w.heap.size, 3, none⟩ = some (.int .i64 st) ∧ Below W.heap.size W W := by
    first | exact hI0 | (rw [← hW]; simp; exact Below.refl _ _)
  try clear hW
  have hId : W.drew.cell? ⟨w.heap.size, 1, none⟩ = some (.string out) ∧ W.drew.cell? ⟨w.heap.size, 2, none⟩ = some (.string crash) ∧ W.drew.cell? ⟨w.heap.size, 3, none⟩ = some (.int .i64 st) ∧ Below W.heap.size W W.drew :=
    ⟨hI.1, hI.2.1, hI.2.2.1, hI.2.2.2.drew⟩
  go_region_held3 (fun w' => w'.cell? ⟨w.heap.size, 1, none⟩ = some (.string out) ∧ w'.cell? ⟨w.heap.size, 2, none⟩ = some (.string crash) ∧ w'.cell? ⟨w.heap.size, 3, none⟩ = some (.int .i64 st) ∧ Below W.heap.size W w')
    (first | exact hId | exact held_three hg (by assumption) (by assumption))
    (first
      | (go_at_call 58; refine (wordText_any st hst _).mono ?_; rintro e w2 ⟨rfl, b2⟩))
  go_wp2
  go_returns
  exact ⟨by rw [HV.out]; rfl, sq hWb (last4 (by assumption))⟩
theorem refLines_yes (k : Nat) (hk : k < 8) (out crash : ByteArray) (st steps : Int) (A : Option Addr) (n c : Nat) (hst : -9223372036854775808 ≤ st ∧ st ≤ 9223372036854775807) (ho : out.size ≤ 140737488351232) (hc : crash.size ≤ 140737488351232) (w : World) :
    Calls Try.prog 30 #[outc ((k : Int) + 1) out crash st steps A n c] w fun e w' => e = .returned (.tuple #[.string (linesS ((k : Int) + 1) out crash st), .int .i64 0]) ∧ Below w.heap.size w w' := by
  have hsz := decS_size st hst
  have hes := endAt_size k hk
  have HV := Lib.hid (show linesS ((k : Int) + 1) out crash st = _ by unfold linesS; rw [show ((k : Int) + 1 - 1).toNat = k by omega])
  have n1 : ¬ 9223372036854775807 < out.size + crash.size := by omega
  have n2 : ¬ 9223372036854775807 < out.size + crash.size + (endAt k).size := by omega
  have n3 : ¬ 9223372036854775807 < out.size + crash.size + (endAt k).size + 1 := by omega
  have n4 : ¬ 9223372036854775807 < out.size + crash.size + (endAt k).size + 1 + (decS st).size := by omega
  have n5 : ¬ 9223372036854775807 < out.size + crash.size + (endAt k).size + 1 + (decS st).size + 1 := by omega
  go_enter Try.func30, Try.ntmps30
  go_wp2_with fail
  refine (refEnding_yes k hk _).mono ?_
  rintro e W ⟨rfl, b1⟩
  have c1 := b1.cell (p := ⟨w.heap.size, 1, none⟩) (by simp)
  have c2 := b1.cell (p := ⟨w.heap.size, 2, none⟩) (by simp)
  have c3 := b1.cell (p := ⟨w.heap.size, 3, none⟩) (by simp)
  simp at c1 c2 c3
  have hWb : Below w.heap.size w W := sq (al _) b1
  have hg : w.heap.size < W.heap.size := by have := b1.size; simp at this; omega
  go_wp2_with fail
  have hI0 : W.cell? ⟨w.heap.size, 1, none⟩ = some (.string out) ∧ W.cell? ⟨w.heap.size, 2, none⟩ = some (.string crash) ∧ W.cell? ⟨w.heap.size, 3, none⟩ = some (.int .i64 st) ∧ Below W.heap.size W W := ⟨c1, c2, c3, Below.refl _ _⟩
  have hI : W.cell? ⟨w.heap.size, 1, none⟩ = some (.string out) ∧ W.cell? ⟨w.heap.size, 2, none⟩ = some (.string crash) ∧ W.cell? ⟨w.heap.size, 3, none⟩ = some (.int .i64 st) ∧ Below W.heap.size W W := by
    exact hI0
  have hId : W.drew.cell? ⟨w.heap.size, 1, none⟩ = some (.string out) ∧ W.drew.cell? ⟨w.heap.size, 2, none⟩ = some (.string crash) ∧ W.drew.cell? ⟨w.heap.size, 3, none⟩ = some (.int .i64 st) ∧ Below W.heap.size W W.drew :=
    ⟨hI.1, hI.2.1, hI.2.2.1, hI.2.2.2.drew⟩
  go_region_held3 (fun w' => w'.cell? ⟨w.heap.size, 1, none⟩ = some (.string out) ∧ w'.cell? ⟨w.heap.size, 2, none⟩ = some (.string crash) ∧ w'.cell? ⟨w.heap.size, 3, none⟩ = some (.int .i64 st) ∧ Below W.heap.size W w')
    (first | exact hId | exact held_three hg (by assumption) (by assumption))
    (first
      | (go_at_call 60; refine (refDecimal_any st hst _).mono ?_; rintro e w2 ⟨rfl, b2⟩))
  go_wp2
  go_returns
  exact ⟨by rw [HV.out]; rfl, sq hWb (last4 (by assumption))⟩
theorem reportLines_no (e : Int) (he : e < 1 ∨ 8 < e) (out crash : ByteArray) (st steps : Int) (A : Option Addr) (n c : Nat) (w : World) :
    Calls Try.prog 29 #[outc e out crash st steps A n c] w fun x w' => x = .returned (.tuple #[.string ⟨#[]⟩, .int .i64 13]) ∧ Below w.heap.size w w' := by
  go_enter Try.func29, Try.ntmps29
  go_wp2_with fail
  refine (reportEnding_no e he _).mono ?_
  rintro x w1 ⟨rfl, rfl⟩
  go_wp2_with fail
  go_returns
  exact ⟨rfl, al _⟩
theorem refLines_no (e : Int) (he : e < 1 ∨ 8 < e) (out crash : ByteArray) (st steps : Int) (A : Option Addr) (n c : Nat) (w : World) :
    Calls Try.prog 30 #[outc e out crash st steps A n c] w fun x w' => x = .returned (.tuple #[.string ⟨#[]⟩, .int .i64 13]) ∧ Below w.heap.size w w' := by
  go_enter Try.func30, Try.ntmps30
  go_wp2_with fail
  refine (refEnding_no e he _).mono ?_
  rintro x w1 ⟨rfl, b1⟩
  go_wp2_with fail
  go_returns
  exact ⟨rfl, sq (al _) b1⟩
/-- An outcome that comes in. -/
def IsOutcome (w : World) (v : Value) : Prop :=
  ∃ (e : Int) (out crash : ByteArray) (st steps : Int) (A : Option Addr) (n c : Nat) (cs : List Value), v = outc e out crash st steps A n c ∧ (-9223372036854775808 ≤ e ∧ e ≤ 9223372036854775807) ∧ out.size ≤ 140737488351232 ∧ crash.size ≤ 140737488351232 ∧ (-9223372036854775808 ≤ st ∧ st ≤ 9223372036854775807) ∧
    Rd w w.heap.size 3 A n cs ∧ (∀ u ∈ cs, u.oneCell' = true) ∧ n ≤ c ∧ c * 24 ≤ 140737488351232
def C3 (cs : List Value) : Prop := ∃ a b c : Int, cs = [.int .i64 a, .int .i64 b, .int .i64 c]
section
variable {H : Type} {enc : TypeId × Value → H} {w : World}
theorem op_start {cs : List Value} {x : DataW H × List MemPlace} (h : Opens enc Try.prog w 199 cs x) : C3 cs := by
  obtain ⟨hl, hf⟩ := op_fields Try.underlying199 (by kernel_rfl) (by kernel_rfl) h
  match cs, hl with
  | [c0, c1, c2], _ =>
    obtain ⟨_, _, e0, h0⟩ := hf 0 _ rfl
    obtain ⟨_, _, e1, h1⟩ := hf 1 _ rfl
    obtain ⟨_, _, e2, h2⟩ := hf 2 _ rfl
    simp at e0 e1 e2
    subst e0 e1 e2
    obtain ⟨a, rfl, _⟩ := cint1 (op_cint Try.underlying3 h0)
    obtain ⟨b, rfl, _⟩ := cint1 (op_cint Try.underlying3 h1)
    obtain ⟨c, rfl, _⟩ := cint1 (op_cint Try.underlying3 h2)
    exact ⟨a, b, c, rfl⟩
theorem op_outcome {base : Nat} {v : Value} {d : DataW H} {ps : List MemPlace} (hv : Value.okWide Try.prog w .any base 44 v) (h : DataW.Trod enc Try.prog w 0 (fun _ => true) true 44 v d ps) (hlt : ∀ x ∈ ps, x.block < w.heap.size) (hz : ∀ n ∈ d.weights Try.prog 44, n ≤ reachBytes) : IsOutcome w v := by
  obtain ⟨cs, rfl, _⟩ := okWide_struct Try.underlying44 hv
  obtain ⟨hl, hf⟩ := op_fields Try.underlying44 (by kernel_rfl) (by kernel_rfl) (Opens.of h hlt hz)
  obtain ⟨l⟩ := cs
  simp only [Value.cells] at hl hf
  match l, hl with
  | [c0, c1, c2, c3, c4, c5], _ =>
    obtain ⟨_, _, e0, h0⟩ := hf 0 _ rfl
    obtain ⟨_, _, e1, h1⟩ := hf 1 _ rfl
    obtain ⟨_, _, e2, h2⟩ := hf 2 _ rfl
    obtain ⟨_, _, e3, h3⟩ := hf 3 _ rfl
    obtain ⟨_, _, e4, h4⟩ := hf 4 _ rfl
    obtain ⟨_, _, e5, h5⟩ := hf 5 _ rfl
    simp at e0 e1 e2 e3 e4 e5
    subst e0 e1 e2 e3 e4 e5
    obtain ⟨e, rfl, he⟩ := cint1 (op_cint Try.underlying3 h0)
    obtain ⟨out, rfl, ho⟩ := cstr1 (op_cstr Try.underlying9 h1)
    obtain ⟨crash, rfl, hc⟩ := cstr1 (op_cstr Try.underlying9 h2)
    obtain ⟨st, rfl, hst⟩ := cint1 (op_cint Try.underlying3 h3)
    obtain ⟨steps, rfl, _⟩ := cint1 (op_cint Try.underlying3 h4)
    obtain ⟨A, n, c, ess, rfl, _, hes, hr, hlc, hcb⟩ := cslice1 (op_cslice (C := C3) (size := 3) (bytes := 24) Try.underlying42 (by kernel_rfl) (by kernel_rfl) (by omega) h5 (fun cs' y h => op_start h))
    refine ⟨e, out, crash, st, steps, A, n, c, _, rfl, he, ho, hc, hst, hr, fun u hu => ?_, hlc, hcb⟩
    obtain ⟨cc, hcc, hu⟩ := List.mem_flatten.1 hu
    obtain ⟨_, x, y, z, rfl⟩ := hes cc hcc
    simp at hu
    rcases hu with rfl | rfl | rfl <;> rfl
end
theorem info_start : (Try.prog.info? 199).map (fun i => (i.zero, i.size, i.bytes)) = some (some (.agg #[.int .i64 0, .int .i64 0, .int .i64 0]), 3, 24) := by kernel_rfl
def linesV (e : Int) (out crash : ByteArray) (st : Int) : ByteArray × Int := if 1 ≤ e ∧ e ≤ 8 then (linesS e out crash st, 0) else (⟨#[]⟩, 13)
theorem reportLines_any (e : Int) (out crash : ByteArray) (st steps : Int) (A : Option Addr) (n c : Nat) (hst : -9223372036854775808 ≤ st ∧ st ≤ 9223372036854775807) (ho : out.size ≤ 140737488351232) (hc : crash.size ≤ 140737488351232) (w : World) :
    Calls Try.prog 29 #[.agg #[.int .i64 e, .string out, .string crash, .int .i64 st, .int .i64 steps, .slice A n c]] w fun x w' => x = .returned (.tuple #[.string (linesV e out crash st).1, .int .i64 (linesV e out crash st).2]) ∧ Below w.heap.size w w' := by
  by_cases h : 1 ≤ e ∧ e ≤ 8
  · have e1 : linesV e out crash st = (linesS e out crash st, 0) := by unfold linesV; rw [if_pos h]
    rw [e1]
    obtain ⟨k, rfl⟩ : ∃ k : Nat, e = (k : Int) + 1 := ⟨(e - 1).toNat, by omega⟩
    exact reportLines_yes k (by omega) out crash st steps A n c hst ho hc w
  · have e1 : linesV e out crash st = (⟨#[]⟩, 13) := by unfold linesV; rw [if_neg h]
    rw [e1]
    exact reportLines_no e (by omega) out crash st steps A n c w
theorem refLines_any (e : Int) (out crash : ByteArray) (st steps : Int) (A : Option Addr) (n c : Nat) (hst : -9223372036854775808 ≤ st ∧ st ≤ 9223372036854775807) (ho : out.size ≤ 140737488351232) (hc : crash.size ≤ 140737488351232) (w : World) :
    Calls Try.prog 30 #[.agg #[.int .i64 e, .string out, .string crash, .int .i64 st, .int .i64 steps, .slice A n c]] w fun x w' => x = .returned (.tuple #[.string (linesV e out crash st).1, .int .i64 (linesV e out crash st).2]) ∧ Below w.heap.size w w' := by
  by_cases h : 1 ≤ e ∧ e ≤ 8
  · have e1 : linesV e out crash st = (linesS e out crash st, 0) := by unfold linesV; rw [if_pos h]
    rw [e1]
    obtain ⟨k, rfl⟩ : ∃ k : Nat, e = (k : Int) + 1 := ⟨(e - 1).toNat, by omega⟩
    exact refLines_yes k (by omega) out crash st steps A n c hst ho hc w
  · have e1 : linesV e out crash st = (⟨#[]⟩, 13) := by unfold linesV; rw [if_neg h]
    rw [e1]
    exact refLines_no e (by omega) out crash st steps A n c w
theorem walkReportLines (v0 : Value) (w : World) (w0 : IsOutcome w v0) : Calls Try.prog 9 #[v0] w fun e w' => e = .returned (.bool true) ∧ Below w.heap.size w w' := by
  obtain ⟨e, out, crash, st, steps, A, n, c, cs, rfl, he, ho, hc, hst, hr, hone, hlc, hcb⟩ := w0
  obtain ⟨i0, hi, hz0, hz1, hz2⟩ := info_parts info_start
  go_enter Try.func9, Try.ntmps9
  go_wp2_with (at_builtin; refine wpList_append_new _ rfl _ _ 42 rfl 199 i0 _ 3 24 Try.underlying42 hi hz0 hz1 hz2 rfl (by omega) rfl w.heap.size A n c cs rfl ((hr.alloc (Nat.le_refl _) _).alloc (by simp) _) hone (by omega) (by unfold maxLen; omega) ?_; intro A1 cp w1 hown hb; have c0 := hb.cell (p := ⟨w.heap.size, 0, none⟩) (by go_size); have c1 := hb.cell (p := ⟨w.heap.size, 1, none⟩) (by go_size); have c2 := hb.cell (p := ⟨w.heap.size, 2, none⟩) (by go_size); have c3 := hb.cell (p := ⟨w.heap.size, 3, none⟩) (by go_size); have c4 := hb.cell (p := ⟨w.heap.size, 4, none⟩) (by go_size); have c5 := hb.cell (p := ⟨w.heap.size, 5, none⟩) (by go_size); (try simp at c0 c1 c2 c3 c4 c5); have f0 := hb.frozen (p := ⟨w.heap.size + 1, 0, none⟩) (by go_size); have f1 := hb.frozen (p := ⟨w.heap.size + 1, 1, none⟩) (by go_size); have f2 := hb.frozen (p := ⟨w.heap.size + 1, 2, none⟩) (by go_size); have f3 := hb.frozen (p := ⟨w.heap.size + 1, 3, none⟩) (by go_size); have f4 := hb.frozen (p := ⟨w.heap.size + 1, 4, none⟩) (by go_size); have f5 := hb.frozen (p := ⟨w.heap.size + 1, 5, none⟩) (by go_size); (try simp at f0 f1 f2 f3 f4 f5); have d0 := hb.cell (p := ⟨w.heap.size + 1, 0, none⟩) (by go_size); have d1 := hb.cell (p := ⟨w.heap.size + 1, 1, none⟩) (by go_size); have d2 := hb.cell (p := ⟨w.heap.size + 1, 2, none⟩) (by go_size); have d3 := hb.cell (p := ⟨w.heap.size + 1, 3, none⟩) (by go_size); have d4 := hb.cell (p := ⟨w.heap.size + 1, 4, none⟩) (by go_size); have d5 := hb.cell (p := ⟨w.heap.size + 1, 5, none⟩) (by go_size); (try simp at d0 d1 d2 d3 d4 d5); have hs := hb.size; simp at hs)
  have hB : Below w.heap.size w w1 := sq (al2 (al _) _) hb
  clear hown hb
  refine (reportLines_any e out crash st steps _ _ _ hst ho hc _).mono ?_
  rintro x w2 ⟨rfl, b2⟩
  have hB1 : Below w.heap.size w (w1.setCell ⟨w.heap.size + 1, 5, none⟩ (.slice A1 n cp)) := hB.setCell (by simp) _
  have hB2 := sq hB1 b2
  have g0 := (b2.cell (p := ⟨w.heap.size, 0, none⟩) (by simp; omega)).trans ((World.cell?_setCell_other _ _ _ _ (by simp)).trans c0)
  have g1 := (b2.cell (p := ⟨w.heap.size, 1, none⟩) (by simp; omega)).trans ((World.cell?_setCell_other _ _ _ _ (by simp)).trans c1)
  have g2 := (b2.cell (p := ⟨w.heap.size, 2, none⟩) (by simp; omega)).trans ((World.cell?_setCell_other _ _ _ _ (by simp)).trans c2)
  have g3 := (b2.cell (p := ⟨w.heap.size, 3, none⟩) (by simp; omega)).trans ((World.cell?_setCell_other _ _ _ _ (by simp)).trans c3)
  have g4 := (b2.cell (p := ⟨w.heap.size, 4, none⟩) (by simp; omega)).trans ((World.cell?_setCell_other _ _ _ _ (by simp)).trans c4)
  have g5 := (b2.cell (p := ⟨w.heap.size, 5, none⟩) (by simp; omega)).trans ((World.cell?_setCell_other _ _ _ _ (by simp)).trans c5)
  clear c0 c1 c2 c3 c4 c5 d0 d1 d2 d3 d4 d5 f0 f1 f2 f3 f4 f5
  go_wp2_with fail
  refine (refLines_any e out crash st steps _ _ _ hst ho hc _).mono ?_
  rintro x w3 ⟨rfl, b3⟩
  go_wp2_with fail
  go_ret
  exact ⟨by simp, sq hB2 b3⟩
end Go.Proofs.Ytniepfpjklccmac
