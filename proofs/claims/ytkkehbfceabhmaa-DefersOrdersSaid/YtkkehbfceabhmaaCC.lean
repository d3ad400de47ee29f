/- A deferred call, as data. Conditions: none. -/
import Derived.Test.YtkkehbfceabhmaaOpShape
set_option maxRecDepth 20000
namespace Go.Proofs.Ytkkehbfceabhmaa
open Go.ChangeShapes Go.WideShapes Go.ChangeAt Go.RowKit Go.Deep

/-! ### CC -/
structure CC where
  site : Int
  fn : Int
  args : List Int
def CC.sh : Shp CC := ((Shp.int).pair ((Shp.int).pair (Shp.slice Shp.int))).as fun v => (v.site, v.fn, v.args)
def CC.bulk (v : CC) : Nat := v.args.length
def CC.fits (v : CC) : Prop := v.args.length * 8 ≤ 140737488351232
theorem CC.elim {w : World} {M : Nat → Prop} {cs : List Value} {v : CC} (h : CC.sh.rd w M cs v) :
    ∃ A2 c2, cs = [.int .i64 v.site, .int .i64 v.fn, .slice A2 v.args.length c2] ∧ (-9223372036854775808 ≤ v.site ∧ v.site ≤ 9223372036854775807) ∧ (-9223372036854775808 ≤ v.fn ∧ v.fn ≤ 9223372036854775807) ∧ (RdM w M 1 A2 v.args.length (v.args.map (Value.int .i64)) ∧ v.args.length ≤ c2 ∧ c2 ≤ maxLen ∧ (c2 = 0 ∨ A2 ≠ none) ∧ (∀ z ∈ v.args, (-9223372036854775808 ≤ z ∧ z ≤ 9223372036854775807))) := by
  obtain ⟨_, _, rfl, ⟨rfl, q0⟩, _, _, rfl, ⟨rfl, q1⟩, q2⟩ := h
  obtain ⟨A2, c2, rfl, t2⟩ := ints_elim q2
  exact ⟨A2, c2, rfl, q0, q1, t2⟩
theorem CC.intro {w : World} {M : Nat → Prop} {v : CC} (q0 : -9223372036854775808 ≤ v.site ∧ v.site ≤ 9223372036854775807) (q1 : -9223372036854775808 ≤ v.fn ∧ v.fn ≤ 9223372036854775807) {A2 : Option Addr} {c2 : Nat} (r2 : RdM w M 1 A2 v.args.length (v.args.map (Value.int .i64))) (l2 : v.args.length ≤ c2 ∧ c2 ≤ maxLen ∧ (c2 = 0 ∨ A2 ≠ none)) (b2 : ∀ z ∈ v.args, -9223372036854775808 ≤ z ∧ z ≤ 9223372036854775807) : CC.sh.rd w M [.int .i64 v.site, .int .i64 v.fn, .slice A2 v.args.length c2] v :=
  ⟨[_], _, rfl, ⟨rfl, q0⟩, [_], _, rfl, ⟨rfl, q1⟩, ints_intro r2 l2.1 l2.2.1 l2.2.2 b2⟩
theorem CC.op : Op CC.sh Try.prog 25 CC.bulk CC.fits := by
  intro H enc w cs x h
  obtain ⟨hl, ys, hyl, hbk, hf⟩ := op_parts Try.underlying25 h
  match cs, hl, ys, hyl with
  | [c0, c1, c2], _, [y0, y1, y2], _ =>
    obtain ⟨_, e0, h0⟩ := hf 0 _ rfl
    obtain ⟨_, e1, h1⟩ := hf 1 _ rfl
    obtain ⟨_, e2, h2⟩ := hf 2 _ rfl
    simp at e0 e1 e2
    subst e0 e1 e2
    obtain ⟨a0, m0, _⟩ := op_int' Try.underlying3 h0
    obtain ⟨a1, m1, _⟩ := op_int' Try.underlying3 h1
    obtain ⟨a2, m2, f2, b2⟩ := op_slice' (S := Shp.int) (bytes := 8) Try.underlying23 (by kernel_rfl) (by kernel_rfl) (by show 0 < 1; omega) (op_int' Try.underlying3) h2
    have g2 : a2.length + 1 ≤ Rows.uptoBulk y2.1 := by have := b2; simp only at this; rwa [sum_one] at this
    refine ⟨⟨a0, a1, a2⟩, ⟨[c0], [c1, c2], rfl, m0, [c1], [c2], rfl, m1, m2⟩, f2.1, ?_⟩
    rw [hbk]
    simp only [List.map_cons, List.map_nil, Rows.uptoBulkAll, CC.bulk]
    omega
end Go.Proofs.Ytkkehbfceabhmaa
