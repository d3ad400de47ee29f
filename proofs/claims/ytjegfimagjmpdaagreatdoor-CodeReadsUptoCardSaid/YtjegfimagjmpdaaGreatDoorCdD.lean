/- A code, as data. Conditions: none. -/
import Derived.Test.YtjegfimagjmpdaaGreatDoorBase
set_option maxRecDepth 20000
namespace Go.Proofs.YtjegfimagjmpdaaGreatDoor
open Go.ChangeShapes Go.WideShapes Go.ChangeAt Go.RowKit Go.Deep

/-! ### II -/
structure II where
  o : Int
  a : Int
  b : Int
  c : Int
  d : Int
  e : Int
def II.sh : Shp II := ((Shp.int).pair ((Shp.int).pair ((Shp.int).pair ((Shp.int).pair ((Shp.int).pair (Shp.int)))))).as fun v => (v.o, v.a, v.b, v.c, v.d, v.e)
def II.bulk (_ : II) : Nat := 0
def II.fits (_ : II) : Prop := True
theorem II.elim {w : World} {M : Nat → Prop} {cs : List Value} {v : II} (h : II.sh.rd w M cs v) :
    cs = [.int .i64 v.o, .int .i64 v.a, .int .i64 v.b, .int .i64 v.c, .int .i64 v.d, .int .i64 v.e] ∧ (-9223372036854775808 ≤ v.o ∧ v.o ≤ 9223372036854775807) ∧ (-9223372036854775808 ≤ v.a ∧ v.a ≤ 9223372036854775807) ∧ (-9223372036854775808 ≤ v.b ∧ v.b ≤ 9223372036854775807) ∧ (-9223372036854775808 ≤ v.c ∧ v.c ≤ 9223372036854775807) ∧ (-9223372036854775808 ≤ v.d ∧ v.d ≤ 9223372036854775807) ∧ (-9223372036854775808 ≤ v.e ∧ v.e ≤ 9223372036854775807) := by
  obtain ⟨_, _, rfl, ⟨rfl, q0⟩, _, _, rfl, ⟨rfl, q1⟩, _, _, rfl, ⟨rfl, q2⟩, _, _, rfl, ⟨rfl, q3⟩, _, _, rfl, ⟨rfl, q4⟩, rfl, q5⟩ := h
  exact ⟨rfl, q0, q1, q2, q3, q4, q5⟩
theorem II.intro {w : World} {M : Nat → Prop} {v : II} (q0 : -9223372036854775808 ≤ v.o ∧ v.o ≤ 9223372036854775807) (q1 : -9223372036854775808 ≤ v.a ∧ v.a ≤ 9223372036854775807) (q2 : -9223372036854775808 ≤ v.b ∧ v.b ≤ 9223372036854775807) (q3 : -9223372036854775808 ≤ v.c ∧ v.c ≤ 9223372036854775807) (q4 : -9223372036854775808 ≤ v.d ∧ v.d ≤ 9223372036854775807) (q5 : -9223372036854775808 ≤ v.e ∧ v.e ≤ 9223372036854775807) : II.sh.rd w M [.int .i64 v.o, .int .i64 v.a, .int .i64 v.b, .int .i64 v.c, .int .i64 v.d, .int .i64 v.e] v :=
  ⟨[_], _, rfl, ⟨rfl, q0⟩, [_], _, rfl, ⟨rfl, q1⟩, [_], _, rfl, ⟨rfl, q2⟩, [_], _, rfl, ⟨rfl, q3⟩, [_], _, rfl, ⟨rfl, q4⟩, rfl, q5⟩
theorem II.op : Op II.sh Tryz.prog 47 II.bulk II.fits := by
  intro H enc w cs x h
  obtain ⟨hl, ys, hyl, hbk, hf⟩ := op_parts Tryz.underlying47 h
  match cs, hl, ys, hyl with
  | [c0, c1, c2, c3, c4, c5], _, [y0, y1, y2, y3, y4, y5], _ =>
    obtain ⟨_, e0, h0⟩ := hf 0 _ rfl
    obtain ⟨_, e1, h1⟩ := hf 1 _ rfl
    obtain ⟨_, e2, h2⟩ := hf 2 _ rfl
    obtain ⟨_, e3, h3⟩ := hf 3 _ rfl
    obtain ⟨_, e4, h4⟩ := hf 4 _ rfl
    obtain ⟨_, e5, h5⟩ := hf 5 _ rfl
    simp at e0 e1 e2 e3 e4 e5
    subst e0 e1 e2 e3 e4 e5
    obtain ⟨a0, m0, _⟩ := op_int' Tryz.underlying3 h0
    obtain ⟨a1, m1, _⟩ := op_int' Tryz.underlying3 h1
    obtain ⟨a2, m2, _⟩ := op_int' Tryz.underlying3 h2
    obtain ⟨a3, m3, _⟩ := op_int' Tryz.underlying3 h3
    obtain ⟨a4, m4, _⟩ := op_int' Tryz.underlying3 h4
    obtain ⟨a5, m5, _⟩ := op_int' Tryz.underlying3 h5
    refine ⟨⟨a0, a1, a2, a3, a4, a5⟩, ⟨[c0], [c1, c2, c3, c4, c5], rfl, m0, [c1], [c2, c3, c4, c5], rfl, m1, [c2], [c3, c4, c5], rfl, m2, [c3], [c4, c5], rfl, m3, [c4], [c5], rfl, m4, m5⟩, trivial, ?_⟩
    rw [hbk]
    simp only [List.map_cons, List.map_nil, Rows.uptoBulkAll, II.bulk]
    omega

/-! ### FF -/
structure FF where
  name : ByteArray
  params : Int
  slots : Int
  caps : Int
  ins : List II
def FF.sh : Shp FF := ((Shp.str).pair ((Shp.int).pair ((Shp.int).pair ((Shp.int).pair (Shp.slice II.sh))))).as fun v => (v.name, v.params, v.slots, v.caps, v.ins)
def FF.bulk (v : FF) : Nat := v.name.size + (v.ins.map II.bulk).sum
def FF.fits (v : FF) : Prop := v.name.size ≤ 140737488351232 ∧ v.ins.length * 48 ≤ 140737488351232 ∧ (∀ x ∈ v.ins, II.fits x)
theorem FF.elim {w : World} {M : Nat → Prop} {cs : List Value} {v : FF} (h : FF.sh.rd w M cs v) :
    ∃ A4 c4, cs = [.string v.name, .int .i64 v.params, .int .i64 v.slots, .int .i64 v.caps, .slice A4 v.ins.length c4] ∧ (-9223372036854775808 ≤ v.params ∧ v.params ≤ 9223372036854775807) ∧ (-9223372036854775808 ≤ v.slots ∧ v.slots ≤ 9223372036854775807) ∧ (-9223372036854775808 ≤ v.caps ∧ v.caps ≤ 9223372036854775807) ∧ ((∃ ess, RdM w M II.sh.size A4 v.ins.length ess.flatten ∧ II.sh.all w M ess v.ins) ∧ v.ins.length ≤ c4 ∧ c4 ≤ maxLen ∧ (c4 = 0 ∨ A4 ≠ none)) := by
  obtain ⟨_, _, rfl, rfl, _, _, rfl, ⟨rfl, q1⟩, _, _, rfl, ⟨rfl, q2⟩, _, _, rfl, ⟨rfl, q3⟩, q4⟩ := h
  obtain ⟨A4, c4, ess4, rfl, r1, r2, r3, r4, r5⟩ := q4
  have t4 : (∃ ess, RdM w M II.sh.size A4 v.ins.length ess.flatten ∧ II.sh.all w M ess v.ins) ∧ v.ins.length ≤ c4 ∧ c4 ≤ maxLen ∧ (c4 = 0 ∨ A4 ≠ none) := ⟨⟨ess4, r4, r5⟩, r1, r2, r3⟩
  exact ⟨A4, c4, rfl, q1, q2, q3, t4⟩
theorem FF.intro {w : World} {M : Nat → Prop} {v : FF} (q1 : -9223372036854775808 ≤ v.params ∧ v.params ≤ 9223372036854775807) (q2 : -9223372036854775808 ≤ v.slots ∧ v.slots ≤ 9223372036854775807) (q3 : -9223372036854775808 ≤ v.caps ∧ v.caps ≤ 9223372036854775807) {A4 : Option Addr} {c4 : Nat} {ess4 : List (List Value)} (r4 : RdM w M II.sh.size A4 v.ins.length ess4.flatten) (a4 : II.sh.all w M ess4 v.ins) (l4 : v.ins.length ≤ c4 ∧ c4 ≤ maxLen ∧ (c4 = 0 ∨ A4 ≠ none)) : FF.sh.rd w M [.string v.name, .int .i64 v.params, .int .i64 v.slots, .int .i64 v.caps, .slice A4 v.ins.length c4] v :=
  ⟨[_], _, rfl, rfl, [_], _, rfl, ⟨rfl, q1⟩, [_], _, rfl, ⟨rfl, q2⟩, [_], _, rfl, ⟨rfl, q3⟩, A4, c4, ess4, rfl, l4.1, l4.2.1, l4.2.2, r4, a4⟩
theorem FF.op : Op FF.sh Tryz.prog 44 FF.bulk FF.fits := by
  intro H enc w cs x h
  obtain ⟨hl, ys, hyl, hbk, hf⟩ := op_parts Tryz.underlying44 h
  match cs, hl, ys, hyl with
  | [c0, c1, c2, c3, c4], _, [y0, y1, y2, y3, y4], _ =>
    obtain ⟨_, e0, h0⟩ := hf 0 _ rfl
    obtain ⟨_, e1, h1⟩ := hf 1 _ rfl
    obtain ⟨_, e2, h2⟩ := hf 2 _ rfl
    obtain ⟨_, e3, h3⟩ := hf 3 _ rfl
    obtain ⟨_, e4, h4⟩ := hf 4 _ rfl
    simp at e0 e1 e2 e3 e4
    subst e0 e1 e2 e3 e4
    obtain ⟨a0, m0, f0, b0⟩ := op_str' Tryz.underlying9 h0
    have g0 : a0.size + 1 ≤ Rows.uptoBulk y0.1 := b0
    obtain ⟨a1, m1, _⟩ := op_int' Tryz.underlying3 h1
    obtain ⟨a2, m2, _⟩ := op_int' Tryz.underlying3 h2
    obtain ⟨a3, m3, _⟩ := op_int' Tryz.underlying3 h3
    obtain ⟨a4, m4, f4, b4⟩ := op_slice' (S := II.sh) (bytes := 48) Tryz.underlying42 (by kernel_rfl) (by kernel_rfl) (by show 0 < 6; omega) II.op h4
    have g4 : (a4.map II.bulk).sum + 1 ≤ Rows.uptoBulk y4.1 := b4
    refine ⟨⟨a0, a1, a2, a3, a4⟩, ⟨[c0], [c1, c2, c3, c4], rfl, m0, [c1], [c2, c3, c4], rfl, m1, [c2], [c3, c4], rfl, m2, [c3], [c4], rfl, m3, m4⟩, ⟨f0, f4.1, f4.2⟩, ?_⟩
    rw [hbk]
    simp only [List.map_cons, List.map_nil, Rows.uptoBulkAll, FF.bulk]
    omega

/-! ### KK -/
structure KK where
  funcs : List FF
  texts : List ByteArray
def KK.sh : Shp KK := ((Shp.slice FF.sh).pair (Shp.slice Shp.str)).as fun v => (v.funcs, v.texts)
def KK.bulk (v : KK) : Nat := (v.funcs.map FF.bulk).sum + (v.texts.map fun s => s.size + 1).sum
def KK.fits (v : KK) : Prop := v.funcs.length * 64 ≤ 140737488351232 ∧ (∀ x ∈ v.funcs, FF.fits x) ∧ v.texts.length * 16 ≤ 140737488351232 ∧ (∀ s ∈ v.texts, s.size ≤ 140737488351232)
theorem KK.elim {w : World} {M : Nat → Prop} {cs : List Value} {v : KK} (h : KK.sh.rd w M cs v) :
    ∃ A0 c0 A1 c1, cs = [.slice A0 v.funcs.length c0, .slice A1 v.texts.length c1] ∧ ((∃ ess, RdM w M FF.sh.size A0 v.funcs.length ess.flatten ∧ FF.sh.all w M ess v.funcs) ∧ v.funcs.length ≤ c0 ∧ c0 ≤ maxLen ∧ (c0 = 0 ∨ A0 ≠ none)) ∧ ((∃ ess, RdM w M Shp.str.size A1 v.texts.length ess.flatten ∧ Shp.str.all w M ess v.texts) ∧ v.texts.length ≤ c1 ∧ c1 ≤ maxLen ∧ (c1 = 0 ∨ A1 ≠ none)) := by
  obtain ⟨_, _, rfl, q0, q1⟩ := h
  obtain ⟨A0, c0, ess0, rfl, r1, r2, r3, r4, r5⟩ := q0
  have t0 : (∃ ess, RdM w M FF.sh.size A0 v.funcs.length ess.flatten ∧ FF.sh.all w M ess v.funcs) ∧ v.funcs.length ≤ c0 ∧ c0 ≤ maxLen ∧ (c0 = 0 ∨ A0 ≠ none) := ⟨⟨ess0, r4, r5⟩, r1, r2, r3⟩
  obtain ⟨A1, c1, ess1, rfl, r1, r2, r3, r4, r5⟩ := q1
  have t1 : (∃ ess, RdM w M Shp.str.size A1 v.texts.length ess.flatten ∧ Shp.str.all w M ess v.texts) ∧ v.texts.length ≤ c1 ∧ c1 ≤ maxLen ∧ (c1 = 0 ∨ A1 ≠ none) := ⟨⟨ess1, r4, r5⟩, r1, r2, r3⟩
  exact ⟨A0, c0, A1, c1, rfl, t0, t1⟩
theorem KK.intro {w : World} {M : Nat → Prop} {v : KK} {A0 : Option Addr} {c0 : Nat} {ess0 : List (List Value)} (r0 : RdM w M FF.sh.size A0 v.funcs.length ess0.flatten) (a0 : FF.sh.all w M ess0 v.funcs) (l0 : v.funcs.length ≤ c0 ∧ c0 ≤ maxLen ∧ (c0 = 0 ∨ A0 ≠ none)) {A1 : Option Addr} {c1 : Nat} {ess1 : List (List Value)} (r1 : RdM w M Shp.str.size A1 v.texts.length ess1.flatten) (a1 : Shp.str.all w M ess1 v.texts) (l1 : v.texts.length ≤ c1 ∧ c1 ≤ maxLen ∧ (c1 = 0 ∨ A1 ≠ none)) : KK.sh.rd w M [.slice A0 v.funcs.length c0, .slice A1 v.texts.length c1] v :=
  ⟨[_], _, rfl, ⟨A0, c0, ess0, rfl, l0.1, l0.2.1, l0.2.2, r0, a0⟩, A1, c1, ess1, rfl, l1.1, l1.2.1, l1.2.2, r1, a1⟩
theorem KK.op : Op KK.sh Tryz.prog 25 KK.bulk KK.fits := by
  intro H enc w cs x h
  obtain ⟨hl, ys, hyl, hbk, hf⟩ := op_parts Tryz.underlying25 h
  match cs, hl, ys, hyl with
  | [c0, c1], _, [y0, y1], _ =>
    obtain ⟨_, e0, h0⟩ := hf 0 _ rfl
    obtain ⟨_, e1, h1⟩ := hf 1 _ rfl
    simp at e0 e1
    subst e0 e1
    obtain ⟨a0, m0, f0, b0⟩ := op_slice' (S := FF.sh) (bytes := 64) Tryz.underlying22 (by kernel_rfl) (by kernel_rfl) (by show 0 < 5; omega) FF.op h0
    have g0 : (a0.map FF.bulk).sum + 1 ≤ Rows.uptoBulk y0.1 := b0
    obtain ⟨a1, m1, f1, b1⟩ := op_slice' (S := Shp.str) (bytes := 16) Tryz.underlying23 (by kernel_rfl) (by kernel_rfl) (by show 0 < 1; omega) (op_str' Tryz.underlying9) h1
    have g1 : (a1.map fun s => s.size + 1).sum + 1 ≤ Rows.uptoBulk y1.1 := b1
    refine ⟨⟨a0, a1⟩, ⟨[c0], [c1], rfl, m0, m1⟩, ⟨f0.1, f0.2, f1.1, f1.2⟩, ?_⟩
    rw [hbk]
    simp only [List.map_cons, List.map_nil, Rows.uptoBulkAll, KK.bulk]
    omega
end Go.Proofs.YtjegfimagjmpdaaGreatDoor
