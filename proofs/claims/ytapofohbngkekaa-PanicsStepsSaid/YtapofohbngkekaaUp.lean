/- What comes in for a law with a bound on the bulk: a Value, lists of them, panics. Conditions: none. -/
import Derived.Test.YtapofohbngkekaaVV
import Derived.Test.YtapofohbngkekaaOpValue
set_option maxRecDepth 20000
namespace Go.Proofs.Ytapofohbngkekaa
open Go.ChangeShapes Go.WideShapes Go.ChangeAt Go.RowKit Go.Deep
/-! ### The bound -/
theorem upto1 {H : Type} {d : DataW H} (hk : Rows.uptoSmall H ([d] ++ [] ++ []) = true) : Rows.uptoBulk d ≤ 1048576 := by
  have h : Rows.uptoBulkAll [d] ≤ 1048576 := of_decide_eq_true hk
  simp only [Rows.uptoBulkAll] at h
  omega
/-! ### Panic -/
structure PP where
  ser : Int
  v : VV
  rcv : Bool
  ab : Bool
def PP.sh : Shp PP := (Shp.int.pair (VV.sh.pair (Shp.bool.pair Shp.bool))).as fun p => (p.ser, p.v, p.rcv, p.ab)
def PP.bulk (p : PP) : Nat := p.v.bulk
def PP.fits (p : PP) : Prop := p.v.fits
theorem PP.elim {w : World} {M : Nat → Prop} {cs : List Value} {p : PP} (h : PP.sh.rd w M cs p) :
    ∃ A c, cs = [.int .i64 p.ser, .int .i64 p.v.k, .int .i64 p.v.n, .string p.v.s, .slice A p.v.l.length c, .bool p.rcv, .bool p.ab] ∧ (-9223372036854775808 ≤ p.ser ∧ p.ser ≤ 9223372036854775807) ∧
      VV.sh.rd w M [.int .i64 p.v.k, .int .i64 p.v.n, .string p.v.s, .slice A p.v.l.length c] p.v := by
  obtain ⟨_, _, rfl, ⟨rfl, hk⟩, _, _, rfl, hv, _, _, rfl, rfl, rfl⟩ := h
  obtain ⟨A, c, e, _⟩ := VV.elim hv
  subst e
  exact ⟨A, c, rfl, hk, hv⟩
theorem PP.intro {w : World} {M : Nat → Prop} {A : Option Addr} {c : Nat} {p : PP} (hs : -9223372036854775808 ≤ p.ser ∧ p.ser ≤ 9223372036854775807) (hv : VV.sh.rd w M [.int .i64 p.v.k, .int .i64 p.v.n, .string p.v.s, .slice A p.v.l.length c] p.v) :
    PP.sh.rd w M [.int .i64 p.ser, .int .i64 p.v.k, .int .i64 p.v.n, .string p.v.s, .slice A p.v.l.length c, .bool p.rcv, .bool p.ab] p :=
  ⟨[_], _, rfl, ⟨rfl, hs⟩, [_, _, _, _], _, rfl, hv, [_], _, rfl, rfl, rfl⟩
theorem PP.op : Op PP.sh Try.prog 99 PP.bulk PP.fits := by
  intro H enc w cs x h
  obtain ⟨hl, ys, hyl, hbk, hf⟩ := op_parts Try.underlying99 h
  match cs, hl, ys, hyl with
  | [c0, c1, c2, c3, c4, c5, c6], _, [y0, y1, y2, y3], _ =>
    obtain ⟨_, e0, h0⟩ := hf 0 _ rfl
    obtain ⟨_, e1, h1⟩ := hf 1 _ rfl
    obtain ⟨_, e2, h2⟩ := hf 2 _ rfl
    obtain ⟨_, e3, h3⟩ := hf 3 _ rfl
    simp at e0 e1 e2 e3
    subst e0 e1 e2 e3
    obtain ⟨a, ha, _⟩ := op_int' Try.underlying3 h0
    obtain ⟨v, hv, hv1, hv2⟩ := VV.op h1
    obtain ⟨r, hr, _⟩ := op_bool' Try.underlying4 h2
    obtain ⟨b, hb, _⟩ := op_bool' Try.underlying4 h3
    refine ⟨⟨a, v, r, b⟩, ⟨[c0], [c1, c2, c3, c4, c5, c6], rfl, ha, [c1, c2, c3, c4], [c5, c6], rfl, hv, [c5], [c6], rfl, hr, hb⟩, hv1, ?_⟩
    rw [hbk]
    simp only [List.map_cons, List.map_nil, Rows.uptoBulkAll, PP.bulk]
    have hv3 : v.bulk ≤ Rows.uptoBulk y1.1 := hv2
    omega
/-! ### What comes in -/
def IsUVal (w : World) (v : Value) : Prop :=
  ∃ (x : VV) (A : Option Addr) (c : Nat), v = val x.k x.n x.s A x.l.length c ∧ VV.sh.rd w (· < w.heap.size) [.int .i64 x.k, .int .i64 x.n, .string x.s, .slice A x.l.length c] x ∧ x.bulk ≤ 1048576
def IsUVals (w : World) (v : Value) : Prop :=
  ∃ l : List VV, (Shp.slice VV.sh).rd w (· < w.heap.size) [v] l ∧ (l.map VV.bulk).sum ≤ 1048576
def IsUPanics (w : World) (v : Value) : Prop :=
  ∃ l : List PP, (Shp.slice PP.sh).rd w (· < w.heap.size) [v] l ∧ (l.map PP.bulk).sum ≤ 1048576
section
variable {H : Type} {enc : TypeId × Value → H} {w : World}
theorem op_uvalue {base : Nat} {v : Value} {d : DataW H} {ps : List MemPlace} (hv : Value.okWide Try.prog w .any base 49 v) (h : DataW.Trod enc Try.prog w 0 (fun _ => true) true 49 v d ps) (hlt : ∀ x ∈ ps, x.block < w.heap.size) (hz : ∀ n ∈ d.weights Try.prog 49, n ≤ reachBytes) (hu : Rows.uptoBulk d ≤ 1048576) : IsUVal w v := by
  obtain ⟨cs, rfl, _⟩ := okWide_struct Try.underlying49 hv
  obtain ⟨x, h1, _, h2⟩ := VV.op (Opens.of h hlt hz)
  obtain ⟨A, c, e, _⟩ := VV.elim h1
  obtain ⟨l⟩ := cs
  simp only [Value.cells] at e h1
  subst e
  exact ⟨x, A, c, rfl, h1, Nat.le_trans h2 hu⟩
theorem op_upanics {base : Nat} {v : Value} {d : DataW H} {ps : List MemPlace} (hv : Value.okWide Try.prog w .any base 54 v) (h : DataW.Trod enc Try.prog w 0 (fun _ => true) true 54 v d ps) (hlt : ∀ x ∈ ps, x.block < w.heap.size) (hz : ∀ n ∈ d.weights Try.prog 54, n ≤ reachBytes) (hu : Rows.uptoBulk d ≤ 1048576) : IsUPanics w v := by
  obtain ⟨A, len, cap, rfl⟩ := okWide_slice Try.underlying54 hv
  obtain ⟨l, h1, _, h2⟩ := op_slice' (S := PP.sh) (bytes := 72) Try.underlying54 (by kernel_rfl) (by kernel_rfl) (by show 0 < 7; omega) PP.op (Opens.of h hlt hz)
  exact ⟨l, h1, Nat.le_trans (Nat.le_trans (Nat.le_succ _) h2) hu⟩
end
end Go.Proofs.Ytapofohbngkekaa
