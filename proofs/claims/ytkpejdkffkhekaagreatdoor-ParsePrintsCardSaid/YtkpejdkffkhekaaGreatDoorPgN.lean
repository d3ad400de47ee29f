/- Nodes, as data. Conditions: none. -/
import Derived.Test.YtkpejdkffkhekaaGreatDoorPgA
set_option maxRecDepth 20000
namespace Go.Proofs.YtkpejdkffkhekaaGreatDoor
open Go.ChangeShapes Go.WideShapes Go.ChangeAt Go.RowKit Go.Deep

/-! ### ND -/
def ND.sh : Shp ND := ((Shp.int).pair ((Shp.str).pair ((Shp.str).pair ((Shp.int).pair (Shp.slice Shp.int))))).as fun v => (v.kind, v.text, v.typ, v.num, v.kids)
def ND.bulk (v : ND) : Nat := v.text.size + v.typ.size + v.kids.length
def ND.fits (v : ND) : Prop := v.text.size ≤ 140737488351232 ∧ v.typ.size ≤ 140737488351232 ∧ v.kids.length * 8 ≤ 140737488351232
theorem ND.elim {w : World} {M : Nat → Prop} {cs : List Value} {v : ND} (h : ND.sh.rd w M cs v) :
    ∃ A4 c4, cs = [.int .i64 v.kind, .string v.text, .string v.typ, .int .i64 v.num, .slice A4 v.kids.length c4] ∧ (-9223372036854775808 ≤ v.kind ∧ v.kind ≤ 9223372036854775807) ∧ (-9223372036854775808 ≤ v.num ∧ v.num ≤ 9223372036854775807) ∧ (RdM w M 1 A4 v.kids.length (v.kids.map (Value.int .i64)) ∧ v.kids.length ≤ c4 ∧ c4 ≤ maxLen ∧ (c4 = 0 ∨ A4 ≠ none) ∧ (∀ z ∈ v.kids, (-9223372036854775808 ≤ z ∧ z ≤ 9223372036854775807))) := by
  obtain ⟨_, _, rfl, ⟨rfl, q0⟩, _, _, rfl, rfl, _, _, rfl, rfl, _, _, rfl, ⟨rfl, q3⟩, q4⟩ := h
  obtain ⟨A4, c4, rfl, t4⟩ := ints_elim q4
  exact ⟨A4, c4, rfl, q0, q3, t4⟩
theorem ND.intro {w : World} {M : Nat → Prop} {v : ND} (q0 : -9223372036854775808 ≤ v.kind ∧ v.kind ≤ 9223372036854775807) (q3 : -9223372036854775808 ≤ v.num ∧ v.num ≤ 9223372036854775807) {A4 : Option Addr} {c4 : Nat} (r4 : RdM w M 1 A4 v.kids.length (v.kids.map (Value.int .i64))) (l4 : v.kids.length ≤ c4 ∧ c4 ≤ maxLen ∧ (c4 = 0 ∨ A4 ≠ none)) (b4 : ∀ z ∈ v.kids, -9223372036854775808 ≤ z ∧ z ≤ 9223372036854775807) : ND.sh.rd w M [.int .i64 v.kind, .string v.text, .string v.typ, .int .i64 v.num, .slice A4 v.kids.length c4] v :=
  ⟨[_], _, rfl, ⟨rfl, q0⟩, [_], _, rfl, rfl, [_], _, rfl, rfl, [_], _, rfl, ⟨rfl, q3⟩, ints_intro r4 l4.1 l4.2.1 l4.2.2 b4⟩
theorem ND.op : Op ND.sh Tryz.prog 31 ND.bulk ND.fits := by
  intro H enc w cs x h
  obtain ⟨hl, ys, hyl, hbk, hf⟩ := op_parts Tryz.underlying31 h
  match cs, hl, ys, hyl with
  | [c0, c1, c2, c3, c4], _, [y0, y1, y2, y3, y4], _ =>
    obtain ⟨_, e0, h0⟩ := hf 0 _ rfl
    obtain ⟨_, e1, h1⟩ := hf 1 _ rfl
    obtain ⟨_, e2, h2⟩ := hf 2 _ rfl
    obtain ⟨_, e3, h3⟩ := hf 3 _ rfl
    obtain ⟨_, e4, h4⟩ := hf 4 _ rfl
    simp at e0 e1 e2 e3 e4
    subst e0 e1 e2 e3 e4
    obtain ⟨a0, m0, _⟩ := op_int' Tryz.underlying3 h0
    obtain ⟨a1, m1, f1, b1⟩ := op_str' Tryz.underlying9 h1
    have g1 : a1.size + 1 ≤ Rows.uptoBulk y1.1 := b1
    obtain ⟨a2, m2, f2, b2⟩ := op_str' Tryz.underlying9 h2
    have g2 : a2.size + 1 ≤ Rows.uptoBulk y2.1 := b2
    obtain ⟨a3, m3, _⟩ := op_int' Tryz.underlying3 h3
    obtain ⟨a4, m4, f4, b4⟩ := op_slice' (S := Shp.int) (bytes := 8) Tryz.underlying29 (by kernel_rfl) (by kernel_rfl) (by show 0 < 1; omega) (op_int' Tryz.underlying3) h4
    have g4 : a4.length + 1 ≤ Rows.uptoBulk y4.1 := by have := b4; simp only at this; rwa [sum_one] at this
    refine ⟨⟨a0, a1, a2, a3, a4⟩, ⟨[c0], [c1, c2, c3, c4], rfl, m0, [c1], [c2, c3, c4], rfl, m1, [c2], [c3, c4], rfl, m2, [c3], [c4], rfl, m3, m4⟩, ⟨f1, f2, f4.1⟩, ?_⟩
    rw [hbk]
    simp only [List.map_cons, List.map_nil, Rows.uptoBulkAll, ND.bulk]
    omega

/-- A slice of nodes that may be read below M. -/
def NdA (w : World) (M : Nat → Prop) (v : Value) (T : List ND) : Prop := (Shp.slice ND.sh).rd w M [v] T
def IsNodes (w : World) (v : Value) : Prop := ∃ l : List ND, (Shp.slice ND.sh).rd w (· < w.heap.size) [v] l ∧ (∀ y ∈ l, ND.fits y) ∧ l.length * 72 ≤ 140737488351232
section
variable {H : Type} {enc : TypeId × Value → H} {w : World}
theorem op_nodes {base : Nat} {v : Value} {d : DataW H} {ps : List MemPlace} (hv : Value.okWide Tryz.prog w .any base 22 v) (h : DataW.Trod enc Tryz.prog w 0 (fun _ => true) true 22 v d ps) (hlt : ∀ x ∈ ps, x.block < w.heap.size) (hz : ∀ n ∈ d.weights Tryz.prog 22, n ≤ reachBytes) : IsNodes w v := by
  obtain ⟨A, len, cap, rfl⟩ := okWide_slice Tryz.underlying22 hv
  obtain ⟨l, h1, h2, _⟩ := op_slice' (S := ND.sh) (bytes := 72) Tryz.underlying22 (by kernel_rfl) (by kernel_rfl) (by show 0 < 5; omega) ND.op (Opens.of h hlt hz)
  exact ⟨l, h1, h2.2, h2.1⟩
end
end Go.Proofs.YtkpejdkffkhekaaGreatDoor
