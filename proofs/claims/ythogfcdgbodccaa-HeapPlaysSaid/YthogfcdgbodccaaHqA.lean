/- Cells and questions to a heap, as data: what comes in. Conditions: none. -/
import Derived.Test.YthogfcdgbodccaaBase
import Derived.Test.YthogfcdgbodccaaHpE
set_option maxRecDepth 100000
namespace Go.Proofs.Ythogfcdgbodccaa
open Go.ChangeShapes Go.WideShapes Go.ChangeAt Go.RowKit Go.Deep
def CE.sh : Shp (Int × Int) := Shp.int.pair Shp.int
theorem CE.elim {w : World} {M : Nat → Prop} {cs : List Value} {p : Int × Int} (h : CE.sh.rd w M cs p) : cs = [.int .i64 p.1, .int .i64 p.2] := by
  obtain ⟨_, _, rfl, ⟨rfl, _⟩, ⟨rfl, _⟩⟩ := h
  rfl
theorem CE.op : Op CE.sh Try.prog 36 (fun _ => 1) (fun _ => True) := by
  intro H enc w cs x h
  obtain ⟨hl, ys, hyl, hbk, hf⟩ := op_parts Try.underlying36 h
  match cs, hl, ys, hyl with
  | [c0, c1], _, [y0, y1], _ =>
    obtain ⟨_, e0, h0⟩ := hf 0 _ rfl
    obtain ⟨_, e1, h1⟩ := hf 1 _ rfl
    simp at e0 e1
    subst e0 e1
    obtain ⟨a, ha, _⟩ := op_int' Try.underlying3 h0
    obtain ⟨b, hb, _⟩ := op_int' Try.underlying3 h1
    exact ⟨(a, b), ⟨[c0], [c1], rfl, ha, hb⟩, trivial, bulk_one _⟩
/-- A slice of cells, flat. -/
theorem ces_flat {w : World} {M : Nat → Prop} : ∀ {ess : List (List Value)} {zs : List (Int × Int)}, CE.sh.all w M ess zs → ess.flatten = ceL zs
  | [], [], _ => rfl
  | [], _ :: _, h => by have := h.1; simp at this
  | _ :: _, [], h => by have := h.1; simp at this
  | a :: r, z :: zs, h => by
    have h0 := CE.elim (h.2 0 a z rfl rfl)
    have hr : CE.sh.all w M r zs := ⟨by have := h.1; simpa using this, fun i c x h1 h2 => h.2 (i + 1) c x (by simpa using h1) (by simpa using h2)⟩
    rw [List.flatten_cons, ces_flat hr, h0]
    rfl
theorem ces_elim {w : World} {B : Nat} {v : Value} {l : List (Int × Int)} (h : (Shp.slice CE.sh).rd w (· < B) [v] l) : ∃ A c, v = .slice A l.length c ∧ l.length ≤ c ∧ c ≤ maxLen ∧ Rd w B 2 A l.length (ceL l) := by
  obtain ⟨A, c, ess, e, h1, h2, _, hr, ha⟩ := h
  simp only [List.cons.injEq, and_true] at e
  subst e
  rw [ces_flat ha] at hr
  exact ⟨A, c, rfl, h1, h2, hr⟩
structure QQ where
  kind : Int
  a : Int
  b : Int
  at_ : Int
  c : Int × Int
  roots : List (Int × Int)
def QQ.sh : Shp QQ := (Shp.int.pair (Shp.int.pair (Shp.int.pair (Shp.int.pair (CE.sh.pair (Shp.slice CE.sh)))))).as fun p => (p.kind, p.a, p.b, p.at_, p.c, p.roots)
/-- The bounds of what comes in. -/
structure QQ.Bd (p : QQ) : Prop where
  a : -9223372036854775808 ≤ p.a ∧ p.a ≤ 9223372036854775807
  b : -9223372036854775808 ≤ p.b ∧ p.b ≤ 9223372036854775807
  at_ : -9223372036854775808 ≤ p.at_ ∧ p.at_ ≤ 9223372036854775807
def QQ.fits (p : QQ) : Prop := p.roots.length * 16 ≤ 140737488351232
theorem QQ.elim {w : World} {B : Nat} {cs : List Value} {p : QQ} (h : QQ.sh.rd w (· < B) cs p) :
    ∃ A c, cs = [.int .i64 p.kind, .int .i64 p.a, .int .i64 p.b, .int .i64 p.at_, .int .i64 p.c.1, .int .i64 p.c.2, .slice A p.roots.length c] ∧ p.roots.length ≤ c ∧ c ≤ maxLen ∧ Rd w B 2 A p.roots.length (ceL p.roots) ∧ QQ.Bd p := by
  obtain ⟨_, _, rfl, ⟨rfl, _⟩, _, _, rfl, ⟨rfl, ha⟩, _, _, rfl, ⟨rfl, hb⟩, _, _, rfl, ⟨rfl, hat⟩, _, ds, rfl, hc, hv⟩ := h
  have e := CE.elim hc
  simp only at e
  subst e
  match ds, (Shp.slice CE.sh).len hv with
  | [d], _ =>
    obtain ⟨A, c, rfl, h1, h2, h3⟩ := ces_elim hv
    exact ⟨A, c, rfl, h1, h2, h3, ha, hb, hat⟩
theorem QQ.op : Op QQ.sh Try.prog 39 (fun _ => 1) QQ.fits := by
  intro H enc w cs x h
  obtain ⟨hl, ys, hyl, hbk, hf⟩ := op_parts Try.underlying39 h
  match cs, hl, ys, hyl with
  | [c0, c1, c2, c3, c4, c5, c6], _, [y0, y1, y2, y3, y4, y5], _ =>
    obtain ⟨_, e0, h0⟩ := hf 0 _ rfl
    obtain ⟨_, e1, h1⟩ := hf 1 _ rfl
    obtain ⟨_, e2, h2⟩ := hf 2 _ rfl
    obtain ⟨_, e3, h3⟩ := hf 3 _ rfl
    obtain ⟨_, e4, h4⟩ := hf 4 _ rfl
    obtain ⟨_, e5, h5⟩ := hf 5 _ rfl
    simp at e0 e1 e2 e3 e4 e5
    subst e0 e1 e2 e3 e4 e5
    obtain ⟨a0, q0, _⟩ := op_int' Try.underlying3 h0
    obtain ⟨a1, q1, _⟩ := op_int' Try.underlying3 h1
    obtain ⟨a2, q2, _⟩ := op_int' Try.underlying3 h2
    obtain ⟨a3, q3, _⟩ := op_int' Try.underlying3 h3
    obtain ⟨v, q4, _, _⟩ := CE.op h4
    obtain ⟨l, q5, q6, _⟩ := op_slice' (S := CE.sh) (bytes := 16) Try.underlying37 (by kernel_rfl) (by kernel_rfl) (by show 0 < 2; omega) CE.op h5
    exact ⟨⟨a0, a1, a2, a3, v, l⟩, ⟨[c0], [c1, c2, c3, c4, c5, c6], rfl, q0, [c1], [c2, c3, c4, c5, c6], rfl, q1, [c2], [c3, c4, c5, c6], rfl, q2, [c3], [c4, c5, c6], rfl, q3, [c4, c5], [c6], rfl, q4, q5⟩, q6.1, bulk_one _⟩
def IsAsks (w : World) (v : Value) : Prop := ∃ l : List QQ, (Shp.slice QQ.sh).rd w (· < w.heap.size) [v] l ∧ ∀ y ∈ l, QQ.fits y
section
variable {H : Type} {enc : TypeId × Value → H} {w : World}
theorem op_asks {base : Nat} {v : Value} {d : DataW H} {ps : List MemPlace} (hv : Value.okWide Try.prog w .any base 22 v) (h : DataW.Trod enc Try.prog w 0 (fun _ => true) true 22 v d ps) (hlt : ∀ x ∈ ps, x.block < w.heap.size) (hz : ∀ n ∈ d.weights Try.prog 22, n ≤ reachBytes) : IsAsks w v := by
  obtain ⟨A, len, cap, rfl⟩ := okWide_slice Try.underlying22 hv
  obtain ⟨l, h1, h2, _⟩ := op_slice' (S := QQ.sh) (bytes := 72) Try.underlying22 (by kernel_rfl) (by kernel_rfl) (by show 0 < 7; omega) QQ.op (Opens.of h hlt hz)
  exact ⟨l, h1, h2.2⟩
end
/-- Where the questions of a slice lie. -/
theorem asks_at {w : World} {B n c : Nat} {A : Option Addr} {l : List QQ} (h : (Shp.slice QQ.sh).rd w (· < B) [.slice A n c] l) : n = l.length ∧ n ≤ c ∧ ∀ (i : Nat) (x : QQ), l[i]? = some x → ∃ b off Ai ci, A = some ⟨b, off, none⟩ ∧ b < B ∧
    w.cell? ⟨b, off + i * 7, none⟩ = some (.int .i64 x.kind) ∧ w.cell? ⟨b, off + i * 7 + 1, none⟩ = some (.int .i64 x.a) ∧ w.cell? ⟨b, off + i * 7 + 2, none⟩ = some (.int .i64 x.b) ∧ w.cell? ⟨b, off + i * 7 + 3, none⟩ = some (.int .i64 x.at_) ∧ w.cell? ⟨b, off + i * 7 + 4, none⟩ = some (.int .i64 x.c.1) ∧ w.cell? ⟨b, off + i * 7 + 5, none⟩ = some (.int .i64 x.c.2) ∧ w.cell? ⟨b, off + i * 7 + 6, none⟩ = some (.slice Ai x.roots.length ci) ∧
    x.roots.length ≤ ci ∧ ci ≤ maxLen ∧ Rd w B 2 Ai x.roots.length (ceL x.roots) ∧ QQ.Bd x := by
  obtain ⟨A', c', ess, e, h1, _, _, hr, ha⟩ := h
  simp only [List.cons.injEq, and_true] at e
  injection e with e1 e2 e3
  subst e1 e2 e3
  refine ⟨rfl, h1, fun i x hx => ?_⟩
  have hi := (List.getElem?_eq_some_iff.1 hx).1
  obtain ⟨b, off, rfl, hb, hc⟩ := hr.2 (by omega)
  have hie : i < ess.length := by rw [ha.1]; exact hi
  have hee := List.getElem?_eq_getElem hie
  have hrd := ha.2 i _ x hee hx
  obtain ⟨Ai, ci, e, hv⟩ := QQ.elim hrd
  have hall : ∀ c ∈ ess, c.length = 7 := fun c hc => by
    obtain ⟨j, hj, rfl⟩ := List.mem_iff_getElem.1 hc
    obtain ⟨y, hy⟩ : ∃ y, l[j]? = some y := ⟨_, List.getElem?_eq_getElem (by rw [← ha.1]; exact hj)⟩
    exact QQ.sh.len (ha.2 j _ y (List.getElem?_eq_getElem hj) hy)
  have hcell : ∀ j u, j < 7 → (ess[i])[j]? = some u → w.cell? ⟨b, off + (i * 7 + j), none⟩ = some u := fun j u hj hu => hc _ u (by rw [show QQ.sh.size = 7 from rfl] at *; rw [flat_at hall i j hj, hee]; exact hu)
  rw [e] at hcell
  exact ⟨b, off, Ai, ci, rfl, hb, hcell 0 _ (by omega) rfl, hcell 1 _ (by omega) rfl, hcell 2 _ (by omega) rfl, hcell 3 _ (by omega) rfl, hcell 4 _ (by omega) rfl, hcell 5 _ (by omega) rfl, hcell 6 _ (by omega) rfl, hv⟩
end Go.Proofs.Ythogfcdgbodccaa
