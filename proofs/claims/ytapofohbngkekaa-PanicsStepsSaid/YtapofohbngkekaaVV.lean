/- A Value, as data. Conditions: none. -/
import Derived.Test.YtapofohbngkekaaBase
set_option maxRecDepth 20000
namespace Go.Proofs.Ytapofohbngkekaa
open Go.ChangeShapes Go.WideShapes Go.ChangeAt Go.RowKit Go.Deep
/-! ### Value -/
structure VV where
  k : Int
  n : Int
  s : ByteArray
  l : List Int
def VV.sh : Shp VV := (Shp.int.pair (Shp.int.pair (Shp.str.pair (Shp.slice Shp.int)))).as fun v => (v.k, v.n, v.s, v.l)
def VV.bulk (v : VV) : Nat := v.s.size + v.l.length + 1
def VV.fits (v : VV) : Prop := v.s.size ≤ 140737488351232 ∧ v.l.length * 8 ≤ 140737488351232
theorem VV.elim {w : World} {M : Nat → Prop} {cs : List Value} {v : VV} (h : VV.sh.rd w M cs v) :
    ∃ A c, cs = [.int .i64 v.k, .int .i64 v.n, .string v.s, .slice A v.l.length c] ∧ RdM w M 1 A v.l.length (v.l.map (Value.int .i64)) ∧ v.l.length ≤ c ∧ c ≤ maxLen ∧ (c = 0 ∨ A ≠ none) ∧
      (-9223372036854775808 ≤ v.k ∧ v.k ≤ 9223372036854775807) ∧ (-9223372036854775808 ≤ v.n ∧ v.n ≤ 9223372036854775807) ∧ ∀ z ∈ v.l, -9223372036854775808 ≤ z ∧ z ≤ 9223372036854775807 := by
  obtain ⟨_, _, rfl, ⟨rfl, hk⟩, _, _, rfl, ⟨rfl, hn⟩, _, _, rfl, rfl, h4⟩ := h
  obtain ⟨A, c, rfl, h5, h6, h7, h8, h9⟩ := ints_elim h4
  exact ⟨A, c, rfl, h5, h6, h7, h8, hk, hn, h9⟩
theorem VV.intro {w : World} {M : Nat → Prop} {A : Option Addr} {c : Nat} {v : VV} (hr : RdM w M 1 A v.l.length (v.l.map (Value.int .i64))) (h1 : v.l.length ≤ c) (h2 : c ≤ maxLen) (h3 : c = 0 ∨ A ≠ none) (hk : -9223372036854775808 ≤ v.k ∧ v.k ≤ 9223372036854775807) (hn : -9223372036854775808 ≤ v.n ∧ v.n ≤ 9223372036854775807) (hb : ∀ z ∈ v.l, -9223372036854775808 ≤ z ∧ z ≤ 9223372036854775807) :
    VV.sh.rd w M [.int .i64 v.k, .int .i64 v.n, .string v.s, .slice A v.l.length c] v :=
  ⟨[_], _, rfl, ⟨rfl, hk⟩, [_], _, rfl, ⟨rfl, hn⟩, [_], _, rfl, rfl, ints_intro hr h1 h2 h3 hb⟩
theorem VV.op : Op VV.sh Try.prog 49 VV.bulk VV.fits := by
  intro H enc w cs x h
  obtain ⟨hl, ys, hyl, hbk, hf⟩ := op_parts Try.underlying49 h
  match cs, hl, ys, hyl with
  | [c0, c1, c2, c3], _, [y0, y1, y2, y3], _ =>
    obtain ⟨_, e0, h0⟩ := hf 0 _ rfl
    obtain ⟨_, e1, h1⟩ := hf 1 _ rfl
    obtain ⟨_, e2, h2⟩ := hf 2 _ rfl
    obtain ⟨_, e3, h3⟩ := hf 3 _ rfl
    simp at e0 e1 e2 e3
    subst e0 e1 e2 e3
    obtain ⟨k, hk, _⟩ := op_int' Try.underlying3 h0
    obtain ⟨n, hn, _⟩ := op_int' Try.underlying3 h1
    obtain ⟨s, hs, hs1, hs2⟩ := op_str' Try.underlying9 h2
    obtain ⟨l, hl, hl1, hl2⟩ := op_slice' (S := Shp.int) (bytes := 8) Try.underlying31 (by kernel_rfl) (by kernel_rfl) (by show 0 < 1; omega) (op_int' Try.underlying3) h3
    refine ⟨⟨k, n, s, l⟩, ⟨[c0], [c1, c2, c3], rfl, hk, [c1], [c2, c3], rfl, hn, [c2], [c3], rfl, hs, hl⟩, ⟨hs1, hl1.1⟩, ?_⟩
    rw [hbk]
    simp only [List.map_cons, List.map_nil, Rows.uptoBulkAll, VV.bulk]
    have hs3 : s.size + 1 ≤ Rows.uptoBulk y2.1 := hs2
    have hl3 : l.length + 1 ≤ Rows.uptoBulk y3.1 := by have := hl2; simp only at this; rwa [sum_one] at this
    omega
end Go.Proofs.Ytapofohbngkekaa
